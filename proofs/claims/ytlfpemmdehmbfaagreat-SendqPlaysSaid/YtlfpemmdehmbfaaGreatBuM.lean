/- Some texts as one. A flight of pieces: span, walked: it answers as the plain function does. Conditions: it is well formed; the gaps can be read. A flight of pieces: Sack, walked: it answers as the plain function does. Conditions: it is well formed; the gaps can be read; the bytes are few. -/
import Derived.Test.YtlfpemmdehmbfaaGreatBuD
import Derived.Test.YtlfpemmdehmbfaaGreatBuH
import Derived.Test.YtlfpemmdehmbfaaGreatBuJ
import Derived.Test.YtlfpemmdehmbfaaGreatBuI
import Derived.Test.YtlfpemmdehmbfaaGreatBuL
namespace Go.Proofs.YtlfpemmdehmbfaaGreat
open Go Go.Sl Go.Flt
def gC (g:Nat × Nat):List Value:=[.int .u16 g.1,.int .u16 g.2]
def sC (g:Nat × Nat):List Value:=[.int .i64 g.1,.int .i64 g.2]
theorem gC_len (g:Nat × Nat):(gC g).length=2:=rfl
theorem sC_len (g:Nat × Nat):(sC g).length=2:=rfl
theorem sC_one (g:Nat × Nat):∀ u ∈ sC g,u.oneCell'=true:=by
 intro u hu
 simp only [sC,List.mem_cons,List.not_mem_nil,or_false] at hu
 rcases hu with rfl | rfl <;> rfl
structure SpG where
 k:Nat
 la:Nat
 sa:Option Addr
 sn:Nat
 sc:Nat
 hb:HL
def SpanR (f:FM) (o:Option (List (Nat × Nat))) (v:Value) (H:HL):Prop:=match o with
 | none=>v=tup [.slice none 0 0,.bool false]∧H=f.H
 | some sp=>∃ (sa:Option Addr) (sn sc:Nat) (hb:HL),v=tup [.slice sa sn sc,.bool true]∧OwnS 226 2 (sp.flatMap sC) (.slice sa sn sc) hb∧H=hb++f.H
theorem spL_snoc (base:Nat) {gs:List (Nat × Nat)} {k:Nat} {g:Nat × Nat} (h:gs[k]? = some g):spL base (gs.take (k+1))=spL base (gs.take k)++[(base+g.1 - 1,base+g.2)]:=by
 unfold spL
 rw [List.take_add_one,h]
 simp
theorem spL_len (base:Nat) (gs:List (Nat × Nat)):(spL base gs).length=gs.length+1:=by simp [spL]
theorem sC_lens (l:List (Nat × Nat)):(l.flatMap sC).length=l.length * 2:=flat_len' sC 2 sC_len l
set_option maxHeartbeats 8000000 in
theorem span_tr (F:Nat→Option Obj) (f:FM) (hf:f.ok) (y room:Int) (gs:List (Nat × Nat)) (ga:Option Addr) (gn gc:Nat) (hl:Lst F [] 2 (gs.flatMap gC) ga gn gc) (hg:∀ g ∈ gs,g.1 < 65536∧g.2 < 65536) (hgl:gs.length≤1000) (ra:Option Addr) (rn rc:Nat) :
 Tr Tryz.prog 139 [.pointer (some ⟨f.R,0,none⟩),.agg [.int .u32 y,.int .u32 room,.slice ga gn gc,.slice ra rn rc].toArray].toArray F f.H (fun v H=>SpanR f (Flt.span f.S y gs) v H):=by
 refine Tr.enter Tryz.func139 rfl Tryz.ntmps139 rfl (fun w0=>?_)
 have hlen:=hf.len
 have hfew:=hf.few
 have hL:f.S.L.length=f.sn:=by rw [←hlen]; simp [FM.S]
 have hgn:gs.length=gn:=lst_len gC_len (by decide) hl
 have hsp0:Flt.span f.S y gs=(if y≠f.c∧atI f.c f.sn y=none then none else if okG f.sn (Spn.far f.c y) 0 gs then some (spL (Spn.far f.c y) gs) else none):=by
  unfold Flt.span
  rw [hL]
  rfl
 unfold FM.H FM.B
 refine SPS ?_; repeat' (first|refine ⟨fun hc=>?_,fun hc=>?_⟩|intro)
 · refine WD.e rfl (Ef.callR (by exact rfl) (.nil _) (in_tr _ y f.c f.sn (by omega))) ?_
   rintro _ _ ⟨rfl,rfl⟩
   refine ⟨.inr (fun _ h=>h),?_⟩
   cases ha:atI f.c f.sn y with
   | none=>
     have hsp:Flt.span f.S y gs=none:=by rw [hsp0,if_pos ⟨by simpa using hc,ha⟩]
     rw [hsp]
     refine SPS ?_; repeat' (first|refine ⟨fun hc=>?_,fun hc=>?_⟩|intro)
     exact Fin.retW (by exact rfl) resA (H':=f.H) (fun _ h=>h.sublist findA) ⟨rfl,rfl⟩
   | some i=>
     have hbn:Spn.far f.c y≤f.sn:=by
      unfold atI at ha
      split at ha
      · omega
      · cases ha
     have hspan:Flt.span f.S y gs=(if okG f.sn (Spn.far f.c y) 0 gs then some (spL (Spn.far f.c y) gs) else none):=by rw [hsp0,if_neg (by rw [ha]; simp)]
     refine SPS ?_; repeat' (first|refine ⟨fun hc=>?_,fun hc=>?_⟩|intro)
     have hfi:=Spn.far_int f.c y
     refine WD.e rfl (Ef.callR (by exact rfl) (.nil _) (ahead_tr _ f.c y)) ?_
     rintro _ _ ⟨rfl,rfl⟩
     refine ⟨.inr (fun _ h=>h),?_⟩
     rw [←hfi]
     obtain ⟨base,hbase⟩:∃ base,Spn.far f.c y=base:=⟨_,rfl⟩
     rw [hbase] at hbn hspan ⊢
     refine SPS ?_; repeat' (first|refine ⟨fun hc=>?_,fun hc=>?_⟩|intro)
     rw [i64_id (n:=(base:Int)) (by omega) (by omega)]
     refine WL.p rfl (Pu.bldA (vals:=[(0,.int .i64 0),(1,.int .i64 (base:Int))]) (by exact rfl) (by exact rfl)) ?_
     refine SPS ?_; repeat' (first|refine ⟨fun hc=>?_,fun hc=>?_⟩|intro)
     rename_i x3 bq
     refine W.loop (G:=SpG) (fun g=>[(0,.pointer (some ⟨f.R,0,none⟩)),(6,.int .i64 base),(7,.slice g.sa g.sn g.sc),(8,.int .i64 g.la),(47,.slice ga gn gc),(48,.int .i64 gn),(49,.int .i64 g.k)]) (fun g=>g.hb++f.H)
      (fun g=>g.k≤gn∧OwnS 226 2 ((spL base (gs.take g.k)).flatMap sC) (.slice g.sa g.sn g.sc) g.hb∧g.la < 65536∧okG f.sn base 0 gs=okG f.sn base g.la (gs.drop g.k)) (fun g=>gn - g.k) ⟨0,0,some ⟨bq,0,none⟩,1,1,[(bq,.cells (sC (0,base)).toArray 226 (0,0))]⟩ ⟨Nat.zero_le _,?_,Nat.zero_lt_succ _,rfl⟩ envA (fun _ h=>In.of_sub (.pick .here (.last (.there .all))) h) ?_
     · exact .inr ⟨bq,1,1,[],[],[],rfl,rfl,rfl,Nat.le_refl _,rfl,by decide⟩
     rintro ⟨k,la,sa,sn,sc,hb⟩ ⟨hk,hown,hla,hok⟩
     dsimp only at hk hown hla hok ⊢
     have hrow:Sl.Can F (hb++f.H) f.R (0+0) [.slice f.sa f.sn f.sc]:=((fl_can f).one (i:=0) rfl).mono (fun _ h=>h.sublist findA)
     refine SPS ?_; repeat' (first|refine ⟨fun hc=>?_,fun hc=>?_⟩|intro)
     · have hk':k < gn:=by have:=of_decide_eq_true hc; omega
       obtain ⟨g,hgk⟩:∃ g,gs[k]? = some g:=⟨gs[k]'(by omega),by simp⟩
       have hgr:=hg g (List.mem_of_getElem? hgk)
       obtain ⟨gb,go,rfl,hcan⟩:=hl.el gC_len hgk (by omega)
       have hia:0≤(k:Int)∧(k:Int) < gn:=by omega
       have hdrop:gs.drop k=g::gs.drop (k+1):=by rw [List.drop_eq_getElem_cons (by omega)]; congr 1; exact (List.getElem?_eq_some_iff.1 hgk).2
       have hw1:IntKind.i64.wrap ((g.1:Nat):Int)=(g.1:Int):=i64_id (by omega) (by omega)
       have hw2:IntKind.i64.wrap ((g.2:Nat):Int)=(g.2:Int):=i64_id (by omega) (by omega)
       have hw3:IntKind.i64.wrap ((la:Int)+2)=(la:Int)+2:=i64_id (by omega) (by omega)
       have hw4:IntKind.i64.wrap ((base:Int)+g.2)=(base:Int)+g.2:=i64_id (by omega) (by omega)
       refine SPS ?_; repeat' (first|refine ⟨fun hc=>?_,fun hc=>?_⟩|intro)
       · have hq:=of_decide_eq_true hc
         rw [hw1,hw3] at hq
         have hf2:okG f.sn base 0 gs=false:=by rw [hok,hdrop,okG,decide_eq_true (show g.1 < la+2 by omega)]; rfl
         have hsp:Flt.span f.S y gs=none:=by rw [hspan,hf2]; rfl
         rw [hsp]
         exact Fin.retW (by exact rfl) resA (H':=f.H) (fun _ h=>h.sublist findA) ⟨rfl,rfl⟩
       · have hq:=of_decide_eq_true hc
         rw [hw1,hw2] at hq
         have hf2:okG f.sn base 0 gs=false:=by rw [hok,hdrop,okG,decide_eq_true (show g.2 < g.1 by omega)]; simp
         have hsp:Flt.span f.S y gs=none:=by rw [hspan,hf2]; rfl
         rw [hsp]
         exact Fin.retW (by exact rfl) resA (H':=f.H) (fun _ h=>h.sublist findA) ⟨rfl,rfl⟩
       · have hq:=of_decide_eq_true hc
         rw [hw2,hw4] at hq
         have hf2:okG f.sn base 0 gs=false:=by rw [hok,hdrop,okG,decide_eq_true (show f.sn < base+g.2 by omega)]; simp
         have hsp:Flt.span f.S y gs=none:=by rw [hspan,hf2]; rfl
         rw [hsp]
         exact Fin.retW (by exact rfl) resA (H':=f.H) (fun _ h=>h.sublist findA) ⟨rfl,rfl⟩
       · rename_i c1 c2
         have q1:=of_decide_eq_false c1
         have q2:=of_decide_eq_false c2
         have q3:=of_decide_eq_false hc
         rw [hw1,hw3] at q1
         rw [hw1,hw2] at q2
         rw [hw2,hw4] at q3
         have hf2:okG f.sn base 0 gs=okG f.sn base g.2 (gs.drop (k+1)):=by
          rw [hok,hdrop,okG,decide_eq_false (show ¬ g.1 < la+2 by omega),decide_eq_false (show ¬ g.2 < g.1 by omega),decide_eq_false (show ¬ f.sn < base+g.2 by omega)]
          rfl
         have e1:IntKind.i64.wrap (IntKind.i64.wrap ((base:Int)+IntKind.i64.wrap ((g.1:Nat):Int)) - 1)=((base+g.1 - 1:Nat):Int):=by rw [hw1,i64_id (n:=(base:Int)+g.1) (by omega) (by omega),i64_id (by omega) (by omega)]; omega
         have e2:IntKind.i64.wrap ((base:Int)+IntKind.i64.wrap ((g.2:Nat):Int))=((base+g.2:Nat):Int):=by rw [hw2,hw4]; omega
         rw [e1,e2,hw2]
         refine WL.p rfl (Pu.bldA (vals:=[(0,.int .i64 ((base+g.1 - 1:Nat):Int)),(1,.int .i64 ((base+g.2:Nat):Int))]) (by exact rfl) (by exact rfl)) ?_
         refine SPS ?_; repeat' (first|refine ⟨fun hc=>?_,fun hc=>?_⟩|intro)
         refine WL.e rfl (Ef.app (m:=1) (news:=sC (base+g.1 - 1,base+g.2)) (hb:=hb) (by exact rfl) (by exact rfl) rfl rfl hown (.last (.there (.there .here))) (Src.own (n:=2) (.here rfl)) rfl (sC_one _) (by rw [sC_lens,spL_len,List.length_take,sC_len]; omega) (by rw [sC_lens,spL_len,List.length_take,sC_len]; simp [maxLen]; omega)) ?_
         rintro v' _ ⟨hb',hown',rfl⟩
         obtain ⟨sa2,sn2,sc2,rfl,_,_⟩:=OwnS.shape hown'
         refine SPS ?_; repeat' (first|refine ⟨fun hc=>?_,fun hc=>?_⟩|intro)
         rw [i64_succ (by omega)]
         refine Fin.round ⟨k+1,g.2,sa2,sn2,sc2,hb'⟩ ⟨hk',?_,hgr.2,hf2⟩ envA (fun _ h=>In.of_sub (.pickL (L:=hb') .here (.last (L:=f.H) (.there (.there .all)))) h) (by dsimp only; omega)
         dsimp only
         rw [spL_snoc base hgk,List.flatMap_append]
         simpa using hown'
     · have hkn:k=gn:=by have:=of_decide_eq_false hc; omega
       have hf2:okG f.sn base 0 gs=true:=by rw [hok,List.drop_of_length_le (by omega)]; rfl
       have hsp:Flt.span f.S y gs=some (spL base gs):=by rw [hspan,hf2]; rfl
       rw [hsp]
       rw [List.take_of_length_le (by omega)] at hown
       exact Fin.retW (by exact rfl) resA (H':=hb++f.H) (fun _ h=>h) ⟨sa,sn,sc,hb,rfl,hown,rfl⟩
 · have hyc:y=f.c:=by simpa using hc
   have hbn:Spn.far f.c y≤f.sn:=by
    rw [hyc]
    have:=Spn.far_int f.c f.c
    rw [Spn.u32_eq] at this
    simp at this
    omega
   have hspan:Flt.span f.S y gs=(if okG f.sn (Spn.far f.c y) 0 gs then some (spL (Spn.far f.c y) gs) else none):=by rw [hsp0,if_neg (by simp [hyc])]
   have hfi:=Spn.far_int f.c y
   refine WD.e rfl (Ef.callR (by exact rfl) (.nil _) (ahead_tr _ f.c y)) ?_
   rintro _ _ ⟨rfl,rfl⟩
   refine ⟨.inr (fun _ h=>h),?_⟩
   rw [←hfi]
   obtain ⟨base,hbase⟩:∃ base,Spn.far f.c y=base:=⟨_,rfl⟩
   rw [hbase] at hbn hspan ⊢
   refine SPS ?_; repeat' (first|refine ⟨fun hc=>?_,fun hc=>?_⟩|intro)
   rw [i64_id (n:=(base:Int)) (by omega) (by omega)]
   refine WL.p rfl (Pu.bldA (vals:=[(0,.int .i64 0),(1,.int .i64 (base:Int))]) (by exact rfl) (by exact rfl)) ?_
   refine SPS ?_; repeat' (first|refine ⟨fun hc=>?_,fun hc=>?_⟩|intro)
   rename_i x3 bq
   refine W.loop (G:=SpG) (fun g=>[(0,.pointer (some ⟨f.R,0,none⟩)),(6,.int .i64 base),(7,.slice g.sa g.sn g.sc),(8,.int .i64 g.la),(47,.slice ga gn gc),(48,.int .i64 gn),(49,.int .i64 g.k)]) (fun g=>g.hb++f.H)
    (fun g=>g.k≤gn∧OwnS 226 2 ((spL base (gs.take g.k)).flatMap sC) (.slice g.sa g.sn g.sc) g.hb∧g.la < 65536∧okG f.sn base 0 gs=okG f.sn base g.la (gs.drop g.k)) (fun g=>gn - g.k) ⟨0,0,some ⟨bq,0,none⟩,1,1,[(bq,.cells (sC (0,base)).toArray 226 (0,0))]⟩ ⟨Nat.zero_le _,?_,Nat.zero_lt_succ _,rfl⟩ envA (fun _ h=>In.of_sub (.pick .here (.last (.there .all))) h) ?_
   · exact .inr ⟨bq,1,1,[],[],[],rfl,rfl,rfl,Nat.le_refl _,rfl,by decide⟩
   rintro ⟨k,la,sa,sn,sc,hb⟩ ⟨hk,hown,hla,hok⟩
   dsimp only at hk hown hla hok ⊢
   have hrow:Sl.Can F (hb++f.H) f.R (0+0) [.slice f.sa f.sn f.sc]:=((fl_can f).one (i:=0) rfl).mono (fun _ h=>h.sublist findA)
   refine SPS ?_; repeat' (first|refine ⟨fun hc=>?_,fun hc=>?_⟩|intro)
   · have hk':k < gn:=by have:=of_decide_eq_true hc; omega
     obtain ⟨g,hgk⟩:∃ g,gs[k]? = some g:=⟨gs[k]'(by omega),by simp⟩
     have hgr:=hg g (List.mem_of_getElem? hgk)
     obtain ⟨gb,go,rfl,hcan⟩:=hl.el gC_len hgk (by omega)
     have hia:0≤(k:Int)∧(k:Int) < gn:=by omega
     have hdrop:gs.drop k=g::gs.drop (k+1):=by rw [List.drop_eq_getElem_cons (by omega)]; congr 1; exact (List.getElem?_eq_some_iff.1 hgk).2
     have hw1:IntKind.i64.wrap ((g.1:Nat):Int)=(g.1:Int):=i64_id (by omega) (by omega)
     have hw2:IntKind.i64.wrap ((g.2:Nat):Int)=(g.2:Int):=i64_id (by omega) (by omega)
     have hw3:IntKind.i64.wrap ((la:Int)+2)=(la:Int)+2:=i64_id (by omega) (by omega)
     have hw4:IntKind.i64.wrap ((base:Int)+g.2)=(base:Int)+g.2:=i64_id (by omega) (by omega)
     refine SPS ?_; repeat' (first|refine ⟨fun hc=>?_,fun hc=>?_⟩|intro)
     · have hq:=of_decide_eq_true hc
       rw [hw1,hw3] at hq
       have hf2:okG f.sn base 0 gs=false:=by rw [hok,hdrop,okG,decide_eq_true (show g.1 < la+2 by omega)]; rfl
       have hsp:Flt.span f.S y gs=none:=by rw [hspan,hf2]; rfl
       rw [hsp]
       exact Fin.retW (by exact rfl) resA (H':=f.H) (fun _ h=>h.sublist findA) ⟨rfl,rfl⟩
     · have hq:=of_decide_eq_true hc
       rw [hw1,hw2] at hq
       have hf2:okG f.sn base 0 gs=false:=by rw [hok,hdrop,okG,decide_eq_true (show g.2 < g.1 by omega)]; simp
       have hsp:Flt.span f.S y gs=none:=by rw [hspan,hf2]; rfl
       rw [hsp]
       exact Fin.retW (by exact rfl) resA (H':=f.H) (fun _ h=>h.sublist findA) ⟨rfl,rfl⟩
     · have hq:=of_decide_eq_true hc
       rw [hw2,hw4] at hq
       have hf2:okG f.sn base 0 gs=false:=by rw [hok,hdrop,okG,decide_eq_true (show f.sn < base+g.2 by omega)]; simp
       have hsp:Flt.span f.S y gs=none:=by rw [hspan,hf2]; rfl
       rw [hsp]
       exact Fin.retW (by exact rfl) resA (H':=f.H) (fun _ h=>h.sublist findA) ⟨rfl,rfl⟩
     · rename_i c1 c2
       have q1:=of_decide_eq_false c1
       have q2:=of_decide_eq_false c2
       have q3:=of_decide_eq_false hc
       rw [hw1,hw3] at q1
       rw [hw1,hw2] at q2
       rw [hw2,hw4] at q3
       have hf2:okG f.sn base 0 gs=okG f.sn base g.2 (gs.drop (k+1)):=by
        rw [hok,hdrop,okG,decide_eq_false (show ¬ g.1 < la+2 by omega),decide_eq_false (show ¬ g.2 < g.1 by omega),decide_eq_false (show ¬ f.sn < base+g.2 by omega)]
        rfl
       have e1:IntKind.i64.wrap (IntKind.i64.wrap ((base:Int)+IntKind.i64.wrap ((g.1:Nat):Int)) - 1)=((base+g.1 - 1:Nat):Int):=by rw [hw1,i64_id (n:=(base:Int)+g.1) (by omega) (by omega),i64_id (by omega) (by omega)]; omega
       have e2:IntKind.i64.wrap ((base:Int)+IntKind.i64.wrap ((g.2:Nat):Int))=((base+g.2:Nat):Int):=by rw [hw2,hw4]; omega
       rw [e1,e2,hw2]
       refine WL.p rfl (Pu.bldA (vals:=[(0,.int .i64 ((base+g.1 - 1:Nat):Int)),(1,.int .i64 ((base+g.2:Nat):Int))]) (by exact rfl) (by exact rfl)) ?_
       refine SPS ?_; repeat' (first|refine ⟨fun hc=>?_,fun hc=>?_⟩|intro)
       refine WL.e rfl (Ef.app (m:=1) (news:=sC (base+g.1 - 1,base+g.2)) (hb:=hb) (by exact rfl) (by exact rfl) rfl rfl hown (.last (.there (.there .here))) (Src.own (n:=2) (.here rfl)) rfl (sC_one _) (by rw [sC_lens,spL_len,List.length_take,sC_len]; omega) (by rw [sC_lens,spL_len,List.length_take,sC_len]; simp [maxLen]; omega)) ?_
       rintro v' _ ⟨hb',hown',rfl⟩
       obtain ⟨sa2,sn2,sc2,rfl,_,_⟩:=OwnS.shape hown'
       refine SPS ?_; repeat' (first|refine ⟨fun hc=>?_,fun hc=>?_⟩|intro)
       rw [i64_succ (by omega)]
       refine Fin.round ⟨k+1,g.2,sa2,sn2,sc2,hb'⟩ ⟨hk',?_,hgr.2,hf2⟩ envA (fun _ h=>In.of_sub (.pickL (L:=hb') .here (.last (L:=f.H) (.there (.there .all)))) h) (by dsimp only; omega)
       dsimp only
       rw [spL_snoc base hgk,List.flatMap_append]
       simpa using hown'
   · have hkn:k=gn:=by have:=of_decide_eq_false hc; omega
     have hf2:okG f.sn base 0 gs=true:=by rw [hok,List.drop_of_length_le (by omega)]; rfl
     have hsp:Flt.span f.S y gs=some (spL base gs):=by rw [hspan,hf2]; rfl
     rw [hsp]
     rw [List.take_of_length_le (by omega)] at hown
     exact Fin.retW (by exact rfl) resA (H':=hb++f.H) (fun _ h=>h) ⟨sa,sn,sc,hb,rfl,hown,rfl⟩
end Go.Proofs.YtlfpemmdehmbfaaGreat
namespace Go.Proofs.YtlfpemmdehmbfaaGreat
open Go Go.Sl Go.Flt
def hiC (q:Q4 Int):List Value:=[.int .i64 q.q0,.int .i64 q.q1,.int .i64 q.q2,.int .i64 q.q3]
def fM (f:FM) (rs:List RcM):FM:={ f with rs:=rs }
theorem set_p {l:List RcM} {i:Nat} {m:RcM} (h:l[i]? = some m) (r':Rc):(l.set i { m with r:=r' }).map RcM.p=l.map RcM.p:=by
 rw [List.map_set]
 refine List.ext_getElem? (fun j=>?_)
 by_cases hj:i=j
 · subst hj
   have hi:=(List.getElem?_eq_some_iff.1 h).1
   rw [List.getElem?_set_self (by simpa using hi),List.getElem?_map,h]
   rfl
 · rw [List.getElem?_set_ne hj]
theorem fl_part {F:Nat→Option Obj} {f:FM} (hf:f.ok) {lo up:Nat} (hup:up≤f.sn) {i:Nat} (hi:i < up - lo):∃ gb go m,(if f.sc=lo then f.sa else f.sa.map (·.add (lo * 1)))=some ⟨gb,go,none⟩∧f.rs[lo+i]? = some m∧Sl.Can F f.H gb (go+(i:Int).toNat * 1) [m.p]:=by
 have hlen:=hf.len
 have hm:f.rs[lo+i]? = some (f.rs[lo+i]'(by omega)):=by simp
 obtain ⟨gb,go,hsa,hp⟩:=fl_ptr (F:=F) hf hm
 have hcap:f.sn≤f.sc:=(fl_row (F:=F) hf).cap
 refine ⟨gb,go+lo * 1,f.rs[lo+i]'(by omega),?_,hm,?_⟩
 · rw [if_neg (by omega),hsa]
   simp [add_lit]
 · have e2:go+lo * 1+(i:Int).toNat * 1=go+((lo+i:Nat):Int).toNat * 1:=by omega
   rw [e2]
   exact hp
theorem isLv_of {f:FM} {rs:List RcM} (hp:rs.map RcM.p=f.rs.map RcM.p) {o:Option Nat} (ho:∀ j,o=some j→j < f.rs.length):isLv (fM f rs) o (lv f o):=by
 cases o with
 | none=>exact .inl ⟨rfl,rfl⟩
 | some j=>
   have hj:=ho j rfl
   have hl:rs.length=f.rs.length:=by have:=congrArg List.length hp; simpa using this
   have h1:f.rs[j]? = some (f.rs[j]'hj):=by simp
   have h2:rs[j]? = some (rs[j]'(by omega)):=by simp
   refine .inr ⟨j,rs[j]'(by omega),rfl,h2,?_⟩
   have:=congrArg (fun l=>l[j]?) hp
   simp only [List.getElem?_map,h1,h2,Option.map_some,Option.some.injEq] at this
   unfold lv
   dsimp only
   rw [h1]
   exact this.symm
theorem pathOk_set {L:List Rc} (h:pathOk L) {i:Nat} {r r':Rc} (hr:L[i]? = some r) (hp:r'.path=r.path):pathOk (L.set i r'):=fun q hq=>by
 rcases List.mem_or_eq_of_mem_set hq with hq | rfl
 · exact h q hq
 · rw [hp]; exact h r (List.mem_of_getElem? hr)
theorem toldN_le:∀ (l:List (Nat × Nat)),(∀ g ∈ l,g.2≤2048)→toldN l≤l.length * 2048
 | [],_=>Nat.zero_le _
 | a::l,h=>by
   have h1:=h a (by simp)
   have h2:=toldN_le l (fun g hg=>h g (by simp [hg]))
   unfold toldN at h2 ⊢
   simp only [List.map_cons,List.sum_cons,List.length_cons]
   omega
theorem toldN_few {l:List (Nat × Nat)} (h:∀ g ∈ l,g.2≤2048) (hl:l.length≤1001):toldN l≤3000000:=by
 have h1:=toldN_le l h
 omega
structure GA where
 j:Nat
 rs:List RcM
 t:Tld
 hi:Q4 Int
def SackR (f:FM) (o:Option (Flt.S × Tld)) (v:Value) (H:HL):Prop:=match o with
 | none=>v=tup [.agg (tldC Tld.zero).toArray,.int .i64 1]∧H=f.H
 | some (s',t)=>v=tup [.agg (tldC t).toArray,.int .i64 0]∧∃ f':FM,f'.ok∧H=f'.H∧f'.R=f.R∧f'.S=s'
set_option maxHeartbeats 16000000 in
theorem sack_tr (F:Nat→Option Obj) (f:FM) (hf:f.ok) (hs:f.small) (hpo:pathOk f.S.L) (y room:Int) (hy:0≤y∧y < 4294967296) (gs:List (Nat × Nat)) (ga:Option Addr) (gn gc:Nat) (hl:Lst F [] 2 (gs.flatMap gC) ga gn gc) (hg:∀ g ∈ gs,g.1 < 65536∧g.2 < 65536) (hgl:gs.length≤1000) (ra:Option Addr) (rn rc:Nat) :
 Tr Tryz.prog 68 [.pointer (some ⟨f.R,0,none⟩),.agg [.int .u32 y,.int .u32 room,.slice ga gn gc,.slice ra rn rc].toArray].toArray F f.H (fun v H=>SackR f (Flt.sack f.S y gs) v H):=by
 refine Tr.enterM Tryz.func68 rfl Tryz.ntmps68 rfl (fun w0=>?_)
 have hlen:=hf.len
 have hfew:=hf.few
 have hL:f.S.L.length=f.sn:=by rw [←hlen]; simp [FM.S]
 refine SPS ?_; repeat' (first|refine ⟨fun hc=>?_,fun hc=>?_⟩|intro)
 rename_i x3 x4
 refine WL.e rfl (Ef.callF (c:=f.H) (by exact rfl) (.last (.there (.there .all))) (fun hd=>span_tr _ f hf y room gs ga gn gc (hl.mono (fun _ h=>addF_in hd h)) hg hgl ra rn rc)) ?_
 cases hsp:Flt.span f.S y gs with
 | none=>
   have hsk:Flt.sack f.S y gs=none:=by unfold Flt.sack; rw [hsp]
   rw [hsk]
   rintro _ _ ⟨_,⟨rfl,rfl⟩,rfl⟩
   refine SPS ?_; repeat' (first|refine ⟨fun hc=>?_,fun hc=>?_⟩|intro)
   exact Fin.retM0 (by exact rfl) resA (H':=f.H) (fun _ h=>h.left) ⟨rfl,rfl⟩
 | some sp=>
   obtain ⟨hsp1,hsp2,hsp3⟩:=span_ok hsp
   rintro _ _ ⟨_,⟨sa,sn,sc,hb,rfl,hown,rfl⟩,rfl⟩
   have hspn:sp.length=sn:=by have:=hown.len; rw [sC_lens] at this; omega
   have hsn:sn≤1001:=by rw [←hspn,hsp1,spL_len]; omega
   simp only [List.append_assoc]
   refine SPS ?_; repeat' (first|refine ⟨fun hc=>?_,fun hc=>?_⟩|intro)
   rename_i x8
   refine WL.e rfl (Ef.callR (c:=f.H) (by exact rfl) (.last (.there (.right .here))) (lowest_tr _ f hf hpo)) ?_
   rintro _ _ ⟨rfl,rfl⟩
   rw [show tup [Value.agg (lowC f (lowQ f.S.L)).toArray]=Value.agg (lowC f (lowQ f.S.L)).toArray from rfl]
   refine SPS ?_; repeat' (first|refine ⟨fun hc=>?_,fun hc=>?_⟩|intro)
   rename_i x9
   refine WL.e0A ?_ (Ef.sta rfl rfl (by exact rfl) (by simp [lowC,lv_one]) (.here rfl))
   refine SPS ?_; repeat' (first|refine ⟨fun hc=>?_,fun hc=>?_⟩|intro)
   refine WL.p rfl (Pu.bldA (vals:=[(0,.int .i64 (-1)),(1,.int .i64 (-1)),(2,.int .i64 (-1)),(3,.int .i64 (-1))]) (by exact rfl) (by exact rfl)) ?_
   refine SPS ?_; repeat' (first|refine ⟨fun hc=>?_,fun hc=>?_⟩|intro)
   rename_i x10
   have hrl:∀ rs:List RcM,rs.map RcM.p=f.rs.map RcM.p→rs.length=f.rs.length:=fun rs h=>by have:=congrArg List.length h; simpa using this
   have hsl:Lst F hb 2 (sp.flatMap sC) sa sn sc:=Lst.own hown (fun _ h=>h)
   refine W.loop (G:=GA) (fun g=>[(0,.pointer (some ⟨f.R,0,none⟩)),(3,.pointer (some ⟨x3,0,none⟩)),(4,.pointer (some ⟨x4,0,none⟩)),(6,.slice sa sn sc),(8,.pointer (some ⟨x8,0,none⟩)),(9,.pointer (some ⟨x9,0,none⟩)),(10,.pointer (some ⟨x10,0,none⟩)),(37,.slice sa sn sc),(38,.int .i64 sn),(39,.int .i64 g.j)])
    (fun g=>(x10,.cells (hiC g.hi).toArray 225 (0,0))::(x8,.cells (tldC g.t).toArray 134 (0,0))::(x9,.cells (lowC f (lowQ f.S.L)).toArray 223 (0,0))::(x3,.cells [.int .u32 y,.int .u32 room,.slice ga gn gc,.slice ra rn rc].toArray 75 (0,0))::(x4,.cells (tldC Tld.zero).toArray 134 (0,0))::(hb++(fM f g.rs).H))
    (fun g=>g.j≤sn∧(fM f g.rs).ok∧g.rs.map RcM.p=f.rs.map RcM.p∧pathOk (g.rs.map (·.r))∧(⟨g.rs.map (·.r),g.t,g.hi⟩:AK)=ackAll (lowQ f.S.L) ⟨f.S.L,Tld.zero,⟨-1,-1,-1,-1⟩⟩ (sp.take g.j)) (fun g=>sn - g.j) ⟨0,f.rs,Tld.zero,⟨-1,-1,-1,-1⟩⟩ ⟨Nat.zero_le _,hf,rfl,hpo,rfl⟩ envA
    (fun _ h=>In.of_sub (.pick .here (.pick (.there .here) (.pick .here (.pick (.right (.right (.there .here))) (.pick (.right (.right .here)) (.pickL (L:=hb) .here (.last (L:=f.H) .here))))))) h) ?_
   rintro ⟨j,rs,t,hi⟩ ⟨hj,hfr,hpt,hpr,hk⟩
   dsimp only at hj hfr hpt hpr hk ⊢
   have hrow:Sl.Can F (fM f rs).H f.R (0+0) [.slice f.sa f.sn f.sc]:=(fl_can (fM f rs)).one (i:=0) rfl
   refine SPS ?_; repeat' (first|refine ⟨fun hc=>?_,fun hc=>?_⟩|intro)
   · have hj':j < sn:=by have:=of_decide_eq_true hc; omega
     obtain ⟨g,hgj⟩:∃ g,sp[j]? = some g:=⟨sp[j]'(by omega),by simp⟩
     obtain ⟨hg1,hg2⟩:=hsp3 g (List.mem_of_getElem? hgj)
     rw [hL] at hg2
     obtain ⟨gb,go,rfl,hcan⟩:=hsl.el sC_len hgj (by omega)
     have hia:0≤(j:Int)∧(j:Int) < sn:=by omega
     refine SPS ?_; repeat' (first|refine ⟨fun hc=>?_,fun hc=>?_⟩|intro)
     refine WL.s rfl (Rd.ldaC rfl (by exact rfl) (hcan.mono (fun _ h=>h.sublist findA))) ?_
     have hcap:f.sn≤f.sc:=(fl_row (F:=F) hf).cap
     refine SPS ?_; repeat' (first|refine ⟨fun hc=>?_,fun hc=>?_⟩|intro)
     rename_i x12
     refine WD.p rfl (Pu.iaA rfl rfl (by decide)) ?_
     refine SPS ?_; repeat' (first|refine ⟨fun hc=>?_,fun hc=>?_⟩|intro)
     refine WD.p rfl (Pu.iaA rfl rfl (by decide)) ?_
     refine SPS ?_; repeat' (first|refine ⟨fun hc=>?_,fun hc=>?_⟩|intro)
     refine WD.p rfl (Pu.slLH (lo:=(g.1:Int)) (up:=(g.2:Int)) (n:=f.sn) (c:=f.sc) rfl rfl rfl (by omega) (by omega)) ?_
     simp only [Int.toNat_natCast]
     obtain ⟨va,hva⟩:∃ va,(if f.sc=g.1 then f.sa else f.sa.map (·.add (g.1 * 1)))=va:=⟨_,rfl⟩
     obtain ⟨vc,hvc⟩:∃ vc,f.sc - g.1=vc:=⟨_,rfl⟩
     rw [show (fM f rs).sc=f.sc from rfl,show (fM f rs).sa=f.sa from rfl,hva,hvc]
     obtain ⟨k0,hk0⟩:∃ k0,ackAll (lowQ f.S.L) ⟨f.S.L,Tld.zero,⟨-1,-1,-1,-1⟩⟩ (sp.take j)=k0:=⟨_,rfl⟩
     rw [hk0] at hk
     refine SPS ?_; repeat' (first|refine ⟨fun hc=>?_,fun hc=>?_⟩|intro)
     refine W.loop (G:=GA) (fun q=>[(0,.pointer (some ⟨f.R,0,none⟩)),(3,.pointer (some ⟨x3,0,none⟩)),(4,.pointer (some ⟨x4,0,none⟩)),(6,.slice (some ⟨gb,go,none⟩) sn sc),(8,.pointer (some ⟨x8,0,none⟩)),(9,.pointer (some ⟨x9,0,none⟩)),(10,.pointer (some ⟨x10,0,none⟩)),(12,.pointer (some ⟨x12,0,none⟩)),(37,.slice (some ⟨gb,go,none⟩) sn sc),(38,.int .i64 sn),(39,.int .i64 j),
      (51,.slice va (g.2 - g.1) vc),(52,.int .i64 ((g.2 - g.1:Nat):Int)),(53,.int .i64 q.j)])
      (fun q=>(x12,.cells (sC g).toArray 226 (0,0))::(x10,.cells (hiC q.hi).toArray 225 (0,0))::(x8,.cells (tldC q.t).toArray 134 (0,0))::(x9,.cells (lowC f (lowQ f.S.L)).toArray 223 (0,0))::(x3,.cells [.int .u32 y,.int .u32 room,.slice ga gn gc,.slice ra rn rc].toArray 75 (0,0))::(x4,.cells (tldC Tld.zero).toArray 134 (0,0))::(hb++(fM f q.rs).H))
      (fun q=>q.j≤g.2 - g.1∧(fM f q.rs).ok∧q.rs.map RcM.p=f.rs.map RcM.p∧pathOk (q.rs.map (·.r))∧(⟨q.rs.map (·.r),q.t,q.hi⟩:AK)=ackR (lowQ f.S.L) k0 g.1 q.j) (fun q=>g.2 - g.1 - q.j) ⟨0,rs,t,hi⟩ ⟨Nat.zero_le _,hfr,hpt,hpr,hk⟩ envA (fun _ h=>h) ?_
     clear hfr hpt hpr hk hrow rs t hi
     rintro ⟨i,rs,t,hi⟩ ⟨hij,hfr,hpt,hpr,hk⟩
     dsimp only at hij hfr hpt hpr hk ⊢
     refine SPS ?_; repeat' (first|refine ⟨fun hc=>?_,fun hc=>?_⟩|intro)
     · have hij':i < g.2 - g.1:=by have:=of_decide_eq_true hc; omega
       obtain ⟨gb2,go2,m,hva2,hm,hp⟩:=fl_part (F:=F) hfr (lo:=g.1) (up:=g.2) hg2 hij'
       obtain rfl:va=some ⟨gb2,go2,none⟩:=by rw [←hva]; exact hva2
       have hia2:0≤(i:Int)∧(i:Int) < ((g.2 - g.1:Nat):Int):=by omega
       have hmr:(rs.map (·.r))[g.1+i]? = some m.r:=by rw [List.getElem?_map,show rs[g.1+i]? = some m from hm]; rfl
       have hpath:=hpr m.r (List.mem_of_getElem? hmr)
       have c11:Sl.Can F (fM f rs).H m.b (0+11) [.bool m.r.acked]:=(rec_can hm).one (i:=11) rfl
       unfold RcM.p at hp
       refine SPS ?_; repeat' (first|refine ⟨fun hc=>?_,fun hc=>?_⟩|intro)
       refine WL.s rfl (Rd.ldC rfl (hp.mono (fun _ h=>h.sublist findA))) ?_
       refine SPS ?_; repeat' (first|refine ⟨fun hc=>?_,fun hc=>?_⟩|intro)
       refine WL.s rfl (Rd.ldC rfl (c11.mono (fun _ h=>h.sublist findA))) ?_
       cases hack:m.r.acked with
       | true=>
         refine SPS ?_; repeat' (first|refine ⟨fun hc=>?_,fun hc=>?_⟩|intro)
         rw [i64_succ (by omega)]
         exact Fin.round ⟨i+1,rs,t,hi⟩ ⟨hij',hfr,hpt,hpr,by dsimp only; rw [ackR_succ,←hk]; unfold ack1; dsimp only; rw [hmr]; dsimp only; rw [hack,if_pos rfl]⟩ envA (fun _ h=>h) (by dsimp only; omega)
       | false=>
         have hlo:isLv (fM f rs) ((lowQ f.S.L).get m.r.path) (lv f ((lowQ f.S.L).get m.r.path)):=isLv_of hpt (fun q hq=>by
          have:q < f.S.L.length:=by
           rcases hpath with h | h | h | h <;> rw [h] at hq <;> exact lowP_lt hq
          omega)
         have c7:Sl.Can F (fM f rs).H m.b (0+7) [.int .i64 m.r.path]:=(rec_can hm).one (i:=7) rfl
         have g1:=set_get (show rs[g.1+i]? = some m from hm) (m':={ m with r:=setAck m.r })
         have c7':Sl.Can F (fM f (rs.set (g.1+i) { m with r:=setAck m.r })).H m.b (0+7) [.int .i64 m.r.path]:=(rec_can (f:=fM f (rs.set (g.1+i) { m with r:=setAck m.r })) g1).one (i:=7) rfl
         have e3:IntKind.i64.wrap ((g.1:Int)+(i:Int))=((g.1+i:Nat):Int):=by rw [i64_id (by omega) (by omega)]; omega
         have htk:∀ F',Tr Tryz.prog 141 [.pointer (some ⟨m.b,0,none⟩),.pointer (some ⟨x8,offP m.r.path,none⟩),lv f ((lowQ f.S.L).get m.r.path)].toArray F' ((x8,.cells (tldC t).toArray 134 (0,0))::(fM f rs).H) (fun v H=>v=tup []∧H=(x8,.cells (tldC (t.upd m.r.path (takeP m.r (decide ((lowQ f.S.L).get m.r.path=some (g.1+i)))))).toArray 134 (0,0))::(fM f (rs.set (g.1+i) { m with r:=setAck m.r })).H):=fun F'=>take_tr F' (fM f rs) hfr hm hpath x8 t _ _ hlo
         have hkk:(⟨(rs.set (g.1+i) { m with r:=setAck m.r }).map (·.r),t.upd m.r.path (takeP m.r (decide ((lowQ f.S.L).get m.r.path=some (g.1+i)))),hi.set m.r.path ((g.1+i:Nat):Int)⟩:AK)=ackR (lowQ f.S.L) k0 g.1 (i+1):=by
          rw [ackR_succ,←hk]
          unfold ack1
          dsimp only
          rw [hmr]
          dsimp only
          rw [hack,if_neg (by simp),List.map_set]
         have hset:((fM f (rs.set (g.1+i) { m with r:=setAck m.r })).ok):=set_ok hfr hm rfl
         have hpt':(rs.set (g.1+i) { m with r:=setAck m.r }).map RcM.p=f.rs.map RcM.p:=by rw [set_p (show rs[g.1+i]? = some m from hm)]; exact hpt
         have hpr':pathOk ((rs.set (g.1+i) { m with r:=setAck m.r }).map (·.r)):=by rw [List.map_set]; exact pathOk_set hpr hmr rfl
         obtain ⟨rs1,hrs1⟩:∃ rs1,rs.set (g.1+i) { m with r:=setAck m.r }=rs1:=⟨_,rfl⟩
         rw [hrs1] at htk c7' hkk hset hpt' hpr'
         obtain ⟨pt1,hpt1⟩:∃ pt1,takeP m.r (decide ((lowQ f.S.L).get m.r.path=some (g.1+i)))=pt1:=⟨_,rfl⟩
         rw [hpt1] at htk hkk
         rcases hpath with hpa | hpa | hpa | hpa
         all_goals
          rw [hpa] at c7 c7' htk hkk
          refine SPS ?_; repeat' (first|refine ⟨fun hc=>?_,fun hc=>?_⟩|intro)
          refine WD.s rfl (Rd.ldC rfl (c7.mono (fun _ h=>h.sublist findA))) ?_
          refine SPS ?_; repeat' (first|refine ⟨fun hc=>?_,fun hc=>?_⟩|intro)
          refine WD.p rfl (Pu.iaA rfl rfl (by decide)) ?_
          refine SPS ?_; repeat' (first|refine ⟨fun hc=>?_,fun hc=>?_⟩|intro)
          refine WD.s rfl (Rd.ldC rfl (c7.mono (fun _ h=>h.sublist findA))) ?_
          refine WD.p rfl (Pu.iaA rfl rfl (by decide)) ?_
          refine SPS ?_; repeat' (first|refine ⟨fun hc=>?_,fun hc=>?_⟩|intro)
          refine WD.e rfl (Ef.call (c:=(x8,.cells (tldC t).toArray 134 (0,0))::(fM f rs).H) (by exact rfl) (.pick (.there (.there .here)) (.last (.there (.there (.there (.there (.there (.right .all)))))))) (htk _)) ?_
          rintro _ _ ⟨_,⟨rfl,rfl⟩,rfl⟩
          refine ⟨.inl (by kernel_rfl),?_⟩
          simp only [List.cons_append,List.append_nil]
          refine SPS ?_; repeat' (first|refine ⟨fun hc=>?_,fun hc=>?_⟩|intro)
          refine WD.s rfl (Rd.ldC rfl (c7'.mono (fun _ h=>h.sublist findA))) ?_
          refine WD.p rfl (Pu.iaA rfl rfl (by decide)) ?_
          refine SPS ?_; repeat' (first|refine ⟨fun hc=>?_,fun hc=>?_⟩|intro)
          refine WD.p rfl (Pu.iaA rfl rfl (by decide)) ?_
          refine SPS ?_; repeat' (first|refine ⟨fun hc=>?_,fun hc=>?_⟩|intro)
          rw [e3,i64_succ (by omega)]
          refine Fin.round ⟨i+1,rs1,t.upd m.r.path pt1,hi.set m.r.path ((g.1+i:Nat):Int)⟩ ⟨hij',hset,hpt',hpr',by dsimp only; rw [hpa]; exact hkk⟩ envA (fun _ h=>?_) (by dsimp only; omega)
          dsimp only
          rw [hpa]
          have h':In F ((x8,_)::((fM f rs1).H++((x12,_)::(x10,_)::(x9,_)::(x3,_)::(x4,_)::hb))) _:=h
          exact In.of_sub (.pick (.there (.right .here)) (.pick (.there (.right .here)) (.pick .here (.pick (.right .here) (.pick (.right .here) (.pick (.right .here) (.pickL (L:=hb) (.right .all) (.last (L:=(fM f rs1).H) .here)))))))) h'
     · have hie:i=g.2 - g.1:=by have:=of_decide_eq_false hc; omega
       subst hie
       rw [i64_succ (by omega)]
       exact Fin.round ⟨j+1,rs,t,hi⟩ ⟨hj',hfr,hpt,hpr,by dsimp only; rw [ackAll_snoc _ _ hgj,hk0]; exact hk⟩ envA (fun _ h=>h.sublist (.cons _ (.refl _))) (by dsimp only; omega)
   · have hje:j=sn:=by have:=of_decide_eq_false hc; omega
     have hk1:(⟨rs.map (·.r),t,hi⟩:AK)=ackAll (lowQ f.S.L) ⟨f.S.L,Tld.zero,⟨-1,-1,-1,-1⟩⟩ sp:=by rw [hk,List.take_of_length_le (by omega)]
     clear hk hje hrow
     obtain ⟨va,hva⟩:∃ va,f.sa=va:=⟨_,rfl⟩
     rw [show (fM f rs).sa=f.sa from rfl,show (fM f rs).sn=f.sn from rfl,show (fM f rs).sc=f.sc from rfl,hva]
     refine W.loop (G:=GA) (fun q=>[(0,.pointer (some ⟨f.R,0,none⟩)),(3,.pointer (some ⟨x3,0,none⟩)),(4,.pointer (some ⟨x4,0,none⟩)),(6,.slice sa sn sc),(8,.pointer (some ⟨x8,0,none⟩)),(10,.pointer (some ⟨x10,0,none⟩)),(91,.slice va f.sn f.sc),(92,.int .i64 f.sn),(93,.int .i64 q.j)])
      (fun q=>(x10,.cells (hiC hi).toArray 225 (0,0))::(x8,.cells (tldC q.t).toArray 134 (0,0))::(x9,.cells (lowC f (lowQ f.S.L)).toArray 223 (0,0))::(x3,.cells [.int .u32 y,.int .u32 room,.slice ga gn gc,.slice ra rn rc].toArray 75 (0,0))::(x4,.cells (tldC Tld.zero).toArray 134 (0,0))::(hb++(fM f q.rs).H))
      (fun q=>q.j≤f.sn∧(fM f q.rs).ok∧q.rs.map RcM.p=f.rs.map RcM.p∧pathOk (q.rs.map (·.r))∧(q.rs.map (·.r),q.t)=(List.range q.j).foldl (miss1 hi) (rs.map (·.r),t)) (fun q=>f.sn - q.j) ⟨0,rs,t,hi⟩ ⟨Nat.zero_le _,hfr,hpt,hpr,rfl⟩ envA (fun _ h=>h) ?_
     obtain ⟨x0,hx0⟩:∃ x0,(rs.map (·.r),t)=x0:=⟨_,rfl⟩
     rw [hx0]
     have hL0:x0.1.length=f.sn:=by rw [←hx0]; have:=hrl rs hpt; simp; omega
     clear hfr hpt hpr
     rintro ⟨i,rs,t,_⟩ ⟨hij,hfr,hpt,hpr,hk⟩
     dsimp only at hij hfr hpt hpr hk ⊢
     have hrl2:=hrl rs hpt
     refine SPS ?_; repeat' (first|refine ⟨fun hc=>?_,fun hc=>?_⟩|intro)
     · have hij':i < f.sn:=by have:=of_decide_eq_true hc; omega
       obtain ⟨m,hm⟩:∃ m,rs[i]? = some m:=⟨rs[i]'(by omega),by simp⟩
       obtain ⟨gb,go,hva2,hp⟩:=fl_ptr (F:=F) hfr (show (fM f rs).rs[i]? = some m from hm)
       obtain rfl:va=some ⟨gb,go,none⟩:=by rw [←hva]; exact hva2
       have hia2:0≤(i:Int)∧(i:Int) < f.sn:=by omega
       have hm':(fM f rs).rs[i]? = some m:=hm
       have hmr:(rs.map (·.r))[i]? = some m.r:=by rw [List.getElem?_map,hm]; rfl
       have hpath:=hpr m.r (List.mem_of_getElem? hmr)
       have c7:Sl.Can F (fM f rs).H m.b (0+7) [.int .i64 m.r.path]:=(rec_can hm').one (i:=7) rfl
       have c9:Sl.Can F (fM f rs).H m.b (0+9) [.int .i64 m.r.miss]:=(rec_can hm').one (i:=9) rfl
       have c14:Sl.Can F (fM f rs).H m.b (0+14) [.bool m.r.again]:=(rec_can hm').one (i:=14) rfl
       have hno:missB hi i m.r=false→(rs.map (·.r),t)=(List.range (i+1)).foldl (miss1 hi) x0:=fun h=>by
        rw [miss_snoc,←hk]
        unfold miss1
        dsimp only
        rw [hmr]
        dsimp only
        rw [h,if_neg (by simp)]
       unfold RcM.p at hp
       refine SPS ?_; repeat' (first|refine ⟨fun hc=>?_,fun hc=>?_⟩|intro)
       refine WL.s rfl (Rd.ldC rfl (hp.mono (fun _ h=>h.sublist findA))) ?_
       refine SPS ?_; repeat' (first|refine ⟨fun hc=>?_,fun hc=>?_⟩|intro)
       refine WL.e rfl (Ef.lookR (by exact rfl) (fun F' hF=>away_tr F' m ((rec_can hm').mono (fun w h=>(hF w h).sublist findA)))) ?_
       rintro _ _ ⟨rfl,rfl⟩
       cases haw:Flt.away m.r with
       | false=>
         refine SPS ?_; repeat' (first|refine ⟨fun hc=>?_,fun hc=>?_⟩|intro)
         rw [i64_succ (by omega)]
         exact Fin.round ⟨i+1,rs,t,hi⟩ ⟨hij',hfr,hpt,hpr,hno (by unfold missB; rw [haw]; rfl)⟩ envA (fun _ h=>h) (by dsimp only; omega)
       | true=>
         refine SPS ?_; repeat' (first|refine ⟨fun hc=>?_,fun hc=>?_⟩|intro)
         refine WL.s rfl (Rd.ldC rfl (c14.mono (fun _ h=>h.sublist findA))) ?_
         cases hag:m.r.again with
         | true=>
           refine SPS ?_; repeat' (first|refine ⟨fun hc=>?_,fun hc=>?_⟩|intro)
           rw [i64_succ (by omega)]
           exact Fin.round ⟨i+1,rs,t,hi⟩ ⟨hij',hfr,hpt,hpr,hno (by unfold missB; rw [haw,hag]; rfl)⟩ envA (fun _ h=>h) (by dsimp only; omega)
         | false=>
           obtain ⟨ms,hms⟩:∃ ms,IntKind.i64.wrap (m.r.miss+1)=ms:=⟨_,rfl⟩
           obtain ⟨rsA,hrsA⟩:∃ rsA,rs.set i { m with r:={ m.r with miss:=ms } }=rsA:=⟨_,rfl⟩
           obtain ⟨rsB,hrsB⟩:∃ rsB,rsA.set i { m with r:={ m.r with miss:=ms,lost:=true } }=rsB:=⟨_,rfl⟩
           have g1:rsA[i]? = some { m with r:={ m.r with miss:=ms } }:=by rw [←hrsA]; exact set_get hm
           have putA:PutAt m.b (0+9) [.int .i64 ms] (fM f rs).H (fM f rsA).H:=by rw [←hrsA]; exact rec_put hm' rfl
           have putB:PutAt m.b (0+12) [.bool true] (fM f rsA).H (fM f rsB).H:=by rw [←hrsB]; exact rec_put (f:=fM f rsA) (m:={ m with r:={ m.r with miss:=ms } }) g1 (r':={ m.r with miss:=ms,lost:=true }) rfl
           have d9:Sl.Can F (fM f rsA).H m.b (0+9) [.int .i64 ms]:=(rec_can (f:=fM f rsA) g1).one (i:=9) rfl
           have d7:Sl.Can F (fM f rsA).H m.b (0+7) [.int .i64 m.r.path]:=(rec_can (f:=fM f rsA) g1).one (i:=7) rfl
           have okA:(fM f rsA).ok:=by rw [←hrsA]; exact set_ok hfr hm' rfl
           have ptA:rsA.map RcM.p=f.rs.map RcM.p:=by rw [←hrsA,set_p hm]; exact hpt
           have prA:pathOk (rsA.map (·.r)):=by rw [←hrsA,List.map_set]; exact pathOk_set hpr hmr rfl
           have hAr:rsA.map (·.r)=(rs.map (·.r)).set i { m.r with miss:=ms }:=by rw [←hrsA,List.map_set]
           have hBB:rsB=rs.set i { m with r:={ m.r with miss:=ms,lost:=true } }:=by rw [←hrsB,←hrsA,List.set_set]
           have okB:(fM f rsB).ok:=by rw [hBB]; exact set_ok hfr hm' rfl
           have ptB:rsB.map RcM.p=f.rs.map RcM.p:=by rw [hBB,set_p hm]; exact hpt
           have prB:pathOk (rsB.map (·.r)):=by rw [hBB,List.map_set]; exact pathOk_set hpr hmr rfl
           have hBr:rsB.map (·.r)=(rs.map (·.r)).set i { m.r with miss:=ms,lost:=true }:=by rw [hBB,List.map_set]
           have hyes:missB hi i m.r=true→(List.range (i+1)).foldl (miss1 hi) x0=if 3≤ms then (rsB.map (·.r),t.upd m.r.path fastP) else (rsA.map (·.r),t):=fun h=>by
            rw [miss_snoc,←hk]
            unfold miss1
            dsimp only
            rw [hmr]
            dsimp only
            rw [h,if_pos rfl,hAr,hBr]
            unfold missR i64
            rw [hms]
            split <;> rfl
           clear hBB hrsA hrsB hAr hBr
           have hmb:missB hi i m.r=decide ((i:Int) < hi.get m.r.path):=by unfold missB; rw [haw,hag]; rfl
           rw [hmb] at hno hyes
           refine SPS ?_; repeat' (first|refine ⟨fun hc=>?_,fun hc=>?_⟩|intro)
           rcases hpath with hpa | hpa | hpa | hpa
           all_goals
            rw [hpa] at c7 d7 hno hyes
            refine WL.s rfl (Rd.ldC rfl (c7.mono (fun _ h=>h.sublist findA))) ?_
            refine WL.g_yes rfl rfl ?_
            refine WL.p rfl (Pu.iaA rfl rfl (by decide)) ?_
            refine SPS ?_; repeat' (first|refine ⟨fun hc=>?_,fun hc=>?_⟩|intro)
            · rw [i64_succ (by omega)]
              have hq:=of_decide_eq_true hc
              exact Fin.round ⟨i+1,rs,t,hi⟩ ⟨hij',hfr,hpt,hpr,hno (decide_eq_false (Int.not_lt.2 hq))⟩ envA (fun _ h=>h) (by dsimp only; omega)
            · have hq:=of_decide_eq_false hc
              have hyy:=hyes (decide_eq_true (Int.not_le.1 hq))
              refine WL.s rfl (Rd.ldC rfl (c9.mono (fun _ h=>h.sublist findA))) ?_
              refine SPS ?_; repeat' (first|refine ⟨fun hc=>?_,fun hc=>?_⟩|intro)
              rw [hms]
              refine WL.e0A ?_ (Ef.st rfl rfl rfl (.there (.there (.there (.there (.there (.right putA)))))))
              refine SPS ?_; repeat' (first|refine ⟨fun hc=>?_,fun hc=>?_⟩|intro)
              refine WL.s rfl (Rd.ldC rfl (d9.mono (fun _ h=>h.sublist findA))) ?_
              refine SPS ?_; repeat' (first|refine ⟨fun hc=>?_,fun hc=>?_⟩|intro)
              · have hq3:=of_decide_eq_true hc
                rw [if_pos hq3] at hyy
                refine WL.s rfl (Rd.ldC rfl (d7.mono (fun _ h=>h.sublist findA))) ?_
                refine SPS ?_; repeat' (first|refine ⟨fun hc=>?_,fun hc=>?_⟩|intro)
                refine WL.e0A ?_ (Ef.st rfl rfl rfl (.there (.there (.there (.there (.there (.right putB)))))))
                refine SPS ?_; repeat' (first|refine ⟨fun hc=>?_,fun hc=>?_⟩|intro)
                refine WL.p rfl (Pu.iaA rfl rfl (by decide)) ?_
                refine SPS ?_; repeat' (first|refine ⟨fun hc=>?_,fun hc=>?_⟩|intro)
                rw [i64_succ (by omega)]
                exact Fin.round ⟨i+1,rsB,t.upd m.r.path fastP,hi⟩ ⟨hij',okB,ptB,prB,by dsimp only; rw [hpa]; exact hyy.symm⟩ envA (fun _ h=>by dsimp only; rw [hpa]; exact h) (by dsimp only; omega)
              · have hq3:=of_decide_eq_false hc
                rw [if_neg hq3] at hyy
                rw [i64_succ (by omega)]
                exact Fin.round ⟨i+1,rsA,t,hi⟩ ⟨hij',okA,ptA,prA,hyy.symm⟩ envA (fun _ h=>h) (by dsimp only; omega)
     · have hie:i=f.sn:=by have:=of_decide_eq_false hc; omega
       have hk2:(rs.map (·.r),t)=missAll hi x0:=by unfold missAll; rw [hL0,←hie]; exact hk
       clear hk
       rename_i x17
       have htl:∀ k,k≤sn→toldN (sp.take k)≤3000000:=fun k hkk=>toldN_few (fun g hg=>by have:=(hsp3 g (List.mem_of_mem_take hg)).2; omega) (by rw [List.length_take]; omega)
       refine W.loop (G:=Nat) (fun k=>[(0,.pointer (some ⟨f.R,0,none⟩)),(3,.pointer (some ⟨x3,0,none⟩)),(4,.pointer (some ⟨x4,0,none⟩)),(6,.slice sa sn sc),(8,.pointer (some ⟨x8,0,none⟩)),(17,.pointer (some ⟨x17,0,none⟩)),(140,.slice sa sn sc),(141,.int .i64 sn),(142,.int .i64 k)])
        (fun k=>(x17,.cells [.int .i64 (toldN (sp.take k):Nat)].toArray 3 (0,0))::(x8,.cells (tldC t).toArray 134 (0,0))::(x3,.cells [.int .u32 y,.int .u32 room,.slice ga gn gc,.slice ra rn rc].toArray 75 (0,0))::(x4,.cells (tldC Tld.zero).toArray 134 (0,0))::(hb++(fM f rs).H))
        (fun k=>k≤sn) (fun k=>sn - k) 0 (Nat.zero_le _) envA (fun _ h=>h.sublist (.cons_cons _ (.cons _ (.cons_cons _ (.cons _ (.refl _)))))) ?_
       intro k hk3
       refine SPS ?_; repeat' (first|refine ⟨fun hc=>?_,fun hc=>?_⟩|intro)
       · have hk':k < sn:=by have:=of_decide_eq_true hc; omega
         obtain ⟨g,hgk⟩:∃ g,sp[k]? = some g:=⟨sp[k]'(by omega),by simp⟩
         have hgg:=hsp3 g (List.mem_of_getElem? hgk)
         obtain ⟨gb,go,rfl,hcan⟩:=hsl.el sC_len hgk (by omega)
         have hia:0≤(k:Int)∧(k:Int) < sn:=by omega
         have ht1:=htl k hk3
         have ht2:=htl (k+1) hk'
         have ht3:=toldN_snoc hgk
         have ex:IntKind.i64.wrap (((toldN (sp.take k):Nat):Int)+IntKind.i64.wrap ((g.2:Int) - (g.1:Int)))=((toldN (sp.take (k+1)):Nat):Int):=by
          rw [i64_id (n:=(g.2:Int) - (g.1:Int)) (by omega) (by omega),i64_id (by omega) (by omega),ht3]
          omega
         refine SPS ?_; repeat' (first|refine ⟨fun hc=>?_,fun hc=>?_⟩|intro)
         refine WL.s rfl (Rd.ldaC rfl (by exact rfl) (hcan.mono (fun _ h=>h.sublist findA))) ?_
         refine SPS ?_; repeat' (first|refine ⟨fun hc=>?_,fun hc=>?_⟩|intro)
         refine WL.p rfl (Pu.iaA rfl rfl (by decide)) ?_
         refine SPS ?_; repeat' (first|refine ⟨fun hc=>?_,fun hc=>?_⟩|intro)
         refine WL.p rfl (Pu.iaA rfl rfl (by decide)) ?_
         refine SPS ?_; repeat' (first|refine ⟨fun hc=>?_,fun hc=>?_⟩|intro)
         rw [ex,i64_succ (by omega)]
         exact Fin.round (k+1) hk' envA (fun _ h=>h.sublist (.cons _ (.refl _))) (by omega)
       · have hke:k=sn:=by have:=of_decide_eq_false hc; omega
         subst hke
         have htl':=htl k (Nat.le_refl _)
         rw [List.take_of_length_le (by omega)] at htl' ⊢
         refine WL.e rfl (Ef.call (by exact rfl) (.nil _) (such_tr _ (.pointer (some ⟨f.R,0,none⟩)) (.func (.func 143) ([]:List Value).toArray ([]:List Value).toArray) rfl rfl)) ?_
         rintro _ _ ⟨_,⟨b2,b3,rfl,rfl⟩,rfl⟩
         refine SPS ?_; repeat' (first|refine ⟨fun hc=>?_,fun hc=>?_⟩|intro)
         refine W.rangeF (gf:=179) (fv:=[]) (cv:=[.pointer (some ⟨b2,0,none⟩),.pointer (some ⟨b3,0,none⟩)]) rfl rfl (fun l D r hr=>?_)
         obtain ⟨RE,hRE⟩:∃ RE:Nat→HL,RE=fun q=>(x17,Obj.cells [.int .i64 ((toldN sp:Int) - (cntB isAck ((rs.map (·.r)).take q):Nat))].toArray 3 (0,0))::(x8,.cells (tldC t).toArray 134 (0,0))::(x3,.cells [.int .u32 y,.int .u32 room,.slice ga gn gc,.slice ra rn rc].toArray 75 (0,0))::(x4,.cells (tldC Tld.zero).toArray 134 (0,0))::(hb++(fM f rs).H):=⟨_,rfl⟩
         have hRw:∀ q w,In F (RE q) w→In F (fM f rs).H w:=fun q w h=>by rw [hRE] at h; exact h.sublist (.cons _ (.cons _ (.cons _ (.cons _ (List.sublist_append_right _ _)))))
         have hcall:=such1_tr F f.R b2 b3 l 143 [] f.sn f.sc f.sa (ptOf (fM f rs)) (by omega) (fun q=>match (fM f rs).rs[q]? with | some m=>isAck m.r | none=>false)
          (fun q H=>H=HS l D r b2 b3 f.R (.func (.func 143) ([]:List Value).toArray ([]:List Value).toArray) (RE q))
          (fun q H hq hH=>by
           subst hH
           obtain ⟨h1,h2,h3,h4⟩:=su_cans (F:=F) (l:=l) (D:=D) (lp:=r) (b2:=b2) (b3:=b3) (R:=f.R) (isV:=.func (.func 143) ([]:List Value).toArray ([]:List Value).toArray) (rest:=RE q) hfr rfl (hRw q)
           exact ⟨h1,h2,h3,h4 q⟩)
          (fun q H hq hH F' hF=>by
           subst hH
           obtain ⟨m,hm⟩:∃ m,(fM f rs).rs[q]? = some m:=⟨rs[q]'(by omega),by show rs[q]? = _; simp⟩
           unfold ptOf
           rw [hm]
           exact isAck_tr F' m (su_rec (hRw q) hF hm))
          (fun q H hq hqq hH=>by
           subst hH
           obtain ⟨m,hm⟩:∃ m,(fM f rs).rs[q]? = some m:=⟨rs[q]'(by omega),by show rs[q]? = _; simp⟩
           rw [hm] at hqq
           have hsn:=cntB_snoc isAck (L:=rs.map (·.r)) (i:=q) (r:=m.r) (by rw [List.getElem?_map,show rs[q]? = some m from hm]; rfl)
           rw [show isAck m.r=false from hqq,if_neg (by simp)] at hsn
           rw [hRE]
           dsimp only
           rw [hsn]
           rfl)
          (fun q H hq hqq hH F' hF=>by
           subst hH
           obtain ⟨m,hm⟩:∃ m,(fM f rs).rs[q]? = some m:=⟨rs[q]'(by omega),by show rs[q]? = _; simp⟩
           rw [hm] at hqq
           have hsn:=cntB_snoc isAck (L:=rs.map (·.r)) (i:=q) (r:=m.r) (by rw [List.getElem?_map,show rs[q]? = some m from hm]; rfl)
           rw [show isAck m.r=true from hqq,if_pos rfl] at hsn
           have hsm:cntB isAck ((rs.map (·.r)).take (q+1))≤2048:=Nat.le_trans (cntB_le _ _) (by simp; omega)
           unfold ptOf
           rw [hm]
           rw [hRE]
           dsimp only
           rw [hsn]
           rw [hsn] at hsm
           obtain ⟨c,hcc⟩:∃ c,cntB isAck ((rs.map (·.r)).take q)=c:=⟨_,rfl⟩
           rw [hcc] at hsm ⊢
           refine TrY.of hr rfl (fun w h=>h.own (l,.loop r) (by simp [HS])) (fun w1=>?_)
           unfold RcM.p HS
           refine SPS ?_; repeat' (first|refine ⟨fun hc=>?_,fun hc=>?_⟩|intro)
           refine Fin.begin (Foc.here _) hr.state ?_
           refine SPS ?_; repeat' (first|refine ⟨fun hc=>?_,fun hc=>?_⟩|intro)
           refine Fin.more (Foc.here _) (fun _ h=>h) ⟨rfl,?_⟩
           simp only [hr.again]
           rw [i64_id (by omega) (by omega),show (toldN sp:Int) - (c:Nat) - 1=(toldN sp:Int) - ((c+1:Nat):Int) by omega])
          (HS l D r b2 b3 f.R (.func (.func 143) ([]:List Value).toArray ([]:List Value).toArray) (RE 0)) (by rfl)
         refine Tr.mono (R:=fun _ H=>H=HS l D r b2 b3 f.R (.func (.func 143) ([]:List Value).toArray ([]:List Value).toArray) (RE f.sn)) ?_ ?_
         · rw [hRE] at hcall ⊢
           exact hcall
         · rintro _ _ rfl
           refine ⟨r,_,.refl _,by rw [hr.state]; simp,?_⟩
           rw [hr.pending,hRE]
           dsimp only [Cx.marked]
           rw [List.take_of_length_le (by simp; omega)]
           have hbs:(rs.map (·.r)).map (·.bs)=f.S.L.map (·.bs):=by
            have h1:rs.map (·.r)=(missAll hi x0).1:=congrArg Prod.fst hk2
            rw [h1,missAll_bs,←hx0]
            have h2:=congrArg AK.L hk1
            dsimp only at h2 ⊢
            rw [h2,ackAll_bs]
           have hft:t.freed=0:=by
            have h1:t=(missAll hi x0).2:=congrArg Prod.snd hk2
            rw [h1]
            unfold missAll
            rw [missF_freed,←hx0]
            have h2:=congrArg AK.t hk1
            dsimp only at h2 ⊢
            rw [h2,ackAll_freed]
            rfl
           have hsms:(fM f rs).small:=by
            show sumB _ (rs.map (·.r))≤_
            rw [sumB_bs (M:=f.S.L) hbs]
            exact hs
           obtain ⟨base,hbase⟩:∃ base,Spn.far f.S.c y=base:=⟨_,rfl⟩
           have hb0:base≤f.sn:=by omega
           have hsp0:sp[0]? = some (0,base):=by rw [hsp1,hbase]; rfl
           have hk0:0 < k:=by rw [←hspn,hsp1,spL_len]; omega
           obtain ⟨gb,go,rfl,hcan⟩:=hsl.el sC_len hsp0 hk0
           have hcan1:Sl.Can F hb gb (go+(0:Int).toNat * 2+1) [.int .i64 (base:Int)]:=hcan.one (i:=1) rfl
           have hia0:0≤(0:Int)∧(0:Int) < (k:Int):=by omega
           have hcap:f.sn≤f.sc:=(fl_row (F:=F) hf).cap
           refine SPN ?_; repeat' (first|refine ⟨fun hc=>?_,fun hc=>?_⟩|intro)
           refine W.drawA ?_
           refine SPN ?_; repeat' (first|refine ⟨fun hc=>?_,fun hc=>?_⟩|intro)
           · obtain ⟨wv,hwv,hww⟩:∃ wv,wv=true∧wv=(decide (y≠f.S.c) || decide (toldN sp=cntB isAck (rs.map (·.r)))):=⟨_,rfl,by
              have h:y≠f.S.c:=by
               have:y≠(fM f rs).c:=by simpa using hc
               exact this
              rw [decide_eq_true h]
              rfl⟩
             refine W.weak (fun _ _ h=>h) (H':=(D,.deferred (some []))::(x8,.cells (tldC { t with whole:=wv }).toArray 134 (0,0))::(x3,.cells [.int .u32 y,.int .u32 room,.slice ga gn gc,.slice ra rn rc].toArray 75 (0,0))::(x4,.cells (tldC Tld.zero).toArray 134 (0,0))::(hb++(fM f rs).H)) (fun _ h=>by rw [hwv]; exact h.sublist (.cons_cons _ (.cons _ (.cons _ (.cons _ (.refl _)))))) ?_
             clear hwv
             refine W.drawA ?_
             refine SPN ?_; repeat' (first|refine ⟨fun hc=>?_,fun hc=>?_⟩|intro)
             refine WD.p rfl (Pu.iaA rfl rfl (by decide)) ?_
             refine WD.s rfl (Rd.ldC rfl (hcan1.mono (fun _ h=>h.sublist findA))) ?_
             refine WD.p rfl (Pu.slHi (up:=(base:Int)) (n:=f.sn) (c:=f.sc) rfl rfl (by omega)) ?_
             simp only [Int.toNat_natCast]
             rw [show (fM f rs).sa=f.sa from rfl,hva,show (fM f rs).sc=f.sc from rfl]
             refine SPN ?_; repeat' (first|refine ⟨fun hc=>?_,fun hc=>?_⟩|intro)
             refine W.loop (G:=Nat) (fun q=>[(0,.pointer (some ⟨f.R,0,none⟩)),(3,.pointer (some ⟨x3,0,none⟩)),(4,.pointer (some ⟨x4,0,none⟩)),(6,.slice (some ⟨gb,go,none⟩) k sc),(8,.pointer (some ⟨x8,0,none⟩)),(179,.slice va base f.sc),(180,.int .i64 base),(181,.int .i64 q)])
              (fun q=>(D,.deferred (some []))::(x8,.cells (tldC { t with whole:=wv,freed:=(sumB (fun _=>true) ((rs.map (·.r)).take q):Nat) }).toArray 134 (0,0))::(x3,.cells [.int .u32 y,.int .u32 room,.slice ga gn gc,.slice ra rn rc].toArray 75 (0,0))::(x4,.cells (tldC Tld.zero).toArray 134 (0,0))::(hb++(fM f rs).H))
              (fun q=>q≤base) (fun q=>base - q) 0 (Nat.zero_le _) envA (fun _ h=>by
               have e:(({ t with whole:=wv,freed:=((sumB (fun _=>true) ((rs.map (·.r)).take 0):Nat):Int) }):Tld)={ t with whole:=wv }:=by rw [show ((sumB (fun _=>true) ((rs.map (·.r)).take 0):Nat):Int)=t.freed from hft.symm]
               dsimp only
               rw [e]
               exact h) ?_
             intro q hq
             refine SPN ?_; repeat' (first|refine ⟨fun hc=>?_,fun hc=>?_⟩|intro)
             · have hq':q < base:=by have:=of_decide_eq_true hc; omega
               obtain ⟨m,hm⟩:∃ m,rs[q]? = some m:=⟨rs[q]'(by omega),by simp⟩
               have hm':(fM f rs).rs[q]? = some m:=hm
               obtain ⟨gb2,go2,hva2,hp⟩:=fl_ptr (F:=F) hfr hm'
               obtain rfl:va=some ⟨gb2,go2,none⟩:=by rw [←hva]; exact hva2
               have hia2:0≤(q:Int)∧(q:Int) < (base:Int):=by omega
               have c6:Sl.Can F (fM f rs).H m.b (0+0+6) [.slice m.ba m.bn m.bc]:=(rec_can hm').one (i:=6) rfl
               have hml:=(hfr.recs m (List.mem_of_getElem? hm')).len
               have hs1:=sumB_snoc (fun _=>true) (L:=rs.map (·.r)) (i:=q) (r:=m.r) (by rw [List.getElem?_map,hm]; rfl)
               rw [if_pos rfl,hml] at hs1
               have hs2:=sum_small hsms (fun _=>true) (q+1)
               rw [show (fM f rs).rs.map (·.r)=rs.map (·.r) from rfl,hs1] at hs2
               unfold RcM.p at hp
               refine SPN ?_; repeat' (first|refine ⟨fun hc=>?_,fun hc=>?_⟩|intro)
               refine WL.s rfl (Rd.ldC rfl (hp.mono (fun _ h=>h.sublist findA))) ?_
               refine SPN ?_; repeat' (first|refine ⟨fun hc=>?_,fun hc=>?_⟩|intro)
               refine W.drawA ?_
               refine SPN ?_; repeat' (first|refine ⟨fun hc=>?_,fun hc=>?_⟩|intro)
               refine WD.s rfl (Rd.ldC rfl (c6.mono (fun _ h=>h.sublist findA))) ?_
               refine SPN ?_; repeat' (first|refine ⟨fun hc=>?_,fun hc=>?_⟩|intro)
               rw [i64_id (n:=((sumB (fun _=>true) ((rs.map (·.r)).take q):Nat):Int)+(m.bn:Int)) (by omega) (by omega),i64_succ (by omega)]
               refine Fin.round (q+1) hq' envA (fun _ h=>?_) (by omega)
               dsimp only
               rw [hs1]
               exact h
             · have hqe:q=base:=by have:=of_decide_eq_false hc; omega
               subst hqe
               have hsk:Flt.sack f.S y gs=some (⟨(rs.map (·.r)).drop q,y,f.paths⟩,{ t with whole:=wv,freed:=(sumB (fun _=>true) ((rs.map (·.r)).take q):Nat) }):=by
                unfold Flt.sack
                rw [hsp]
                dsimp only
                rw [←hk1]
                dsimp only
                rw [hx0,←hk2]
                dsimp only
                rw [hbase,←hww]
                rfl
               rw [hsk]
               refine W.drawE [5] ((x3,.cells [.int .u32 y,.int .u32 room,.slice ga gn gc,.slice ra rn rc].toArray 75 (0,0))::hb) (by kernel_rfl) (by kernel_rfl) (fun _ h=>In.of_sub (.pick (.there (.there .here)) (.last (.there (.there (.there .here))))) h) ?_
               refine SPN ?_; repeat' (first|refine ⟨fun hc=>?_,fun hc=>?_⟩|intro)
               refine WD.e rfl (Rd.ef (Rd.ldC rfl (((fl_can (fM f rs)).one (i:=0) rfl).mono (fun _ h=>h.sublist findA)))) ?_
               rintro _ _ ⟨rfl,rfl⟩
               refine ⟨.inr (fun _ h=>In.of_sub (.pick (.there (.there .here)) (.last (.there (.there (.there .here))))) h),?_⟩
               refine SPN ?_; repeat' (first|refine ⟨fun hc=>?_,fun hc=>?_⟩|intro)
               refine WD.p rfl (Pu.iaA rfl rfl (by decide)) ?_
               refine WD.s rfl (Rd.ldC rfl (hcan1.mono (fun _ h=>h.sublist findA))) ?_
               refine WD.p rfl (Pu.slLo (lo:=(q:Int)) (n:=f.sn) (c:=f.sc) rfl rfl (by omega)) ?_
               refine WD.pA ?_
               refine WD.sA ?_
               refine WD.pA ?_
               refine WD.pA ?_
               refine WD.e0 (Ef.st rfl rfl rfl (.there (.there (.there (.there (.right (.here rfl))))))) ?_
               rintro _ _ ⟨rfl,rfl⟩
               refine ⟨.inr (fun _ h=>In.of_sub (.pick (.there (.there .here)) (.last (.there (.there (.there .here))))) h),?_⟩
               refine SPN ?_; repeat' (first|refine ⟨fun hc=>?_,fun hc=>?_⟩|intro)
               have hdr:=OwnS.drop1 hfr.own (n:=q) hb0
               have hfl:((rs.drop q).flatMap RcM.H).Sublist (rs.flatMap RcM.H):=by
                rw [show rs.flatMap RcM.H=(rs.take q).flatMap RcM.H++(rs.drop q).flatMap RcM.H by rw [←List.flatMap_append,List.take_append_drop]]
                exact List.sublist_append_right _ _
               refine Fin.retM (by exact rfl) .here resA (H':=({ fM f rs with sa:=if f.sc=(q:Int).toNat then (fM f rs).sa else Option.map (fun x=>x.add ((q:Int).toNat * 1)) (fM f rs).sa,sn:=f.sn - (q:Int).toNat,sc:=f.sc - (q:Int).toNat,c:=y,rs:=rs.drop q }:FM).H)
                (fun _ h=>h.sublist (.cons _ (.cons _ (.cons _ (List.Sublist.trans (.cons_cons _ (.append (.refl _) hfl)) (List.sublist_append_right _ _)))))) ⟨rfl,_,⟨?_,fun m hm=>hfr.recs m (List.mem_of_mem_drop hm),hy,?_⟩,rfl,rfl,?_⟩
               · dsimp only
                 rw [List.map_drop]
                 exact hdr
               · dsimp only
                 rw [List.length_drop]
                 omega
               · show Flt.S.mk ((rs.drop q).map (·.r)) y f.paths=_
                 rw [List.map_drop]
           · obtain ⟨wv,hwv,hww⟩:∃ wv,wv=((toldN sp:Int) - (cntB isAck (rs.map (·.r)):Nat) == 0)∧wv=(decide (y≠f.S.c) || decide (toldN sp=cntB isAck (rs.map (·.r)))):=⟨_,rfl,by
              have h:¬ y≠f.S.c:=by
               have:y=(fM f rs).c:=by simpa using hc
               exact not_not_intro this
              rw [decide_eq_false h,Bool.false_or,Bool.eq_iff_iff]
              simp
              omega⟩
             refine W.weak (fun _ _ h=>h) (H':=(D,.deferred (some []))::(x8,.cells (tldC { t with whole:=wv }).toArray 134 (0,0))::(x3,.cells [.int .u32 y,.int .u32 room,.slice ga gn gc,.slice ra rn rc].toArray 75 (0,0))::(x4,.cells (tldC Tld.zero).toArray 134 (0,0))::(hb++(fM f rs).H)) (fun _ h=>by rw [hwv]; exact h.sublist (.cons_cons _ (.cons _ (.cons _ (.cons _ (.refl _)))))) ?_
             clear hwv
             refine W.drawA ?_
             refine SPN ?_; repeat' (first|refine ⟨fun hc=>?_,fun hc=>?_⟩|intro)
             refine WD.p rfl (Pu.iaA rfl rfl (by decide)) ?_
             refine WD.s rfl (Rd.ldC rfl (hcan1.mono (fun _ h=>h.sublist findA))) ?_
             refine WD.p rfl (Pu.slHi (up:=(base:Int)) (n:=f.sn) (c:=f.sc) rfl rfl (by omega)) ?_
             simp only [Int.toNat_natCast]
             rw [show (fM f rs).sa=f.sa from rfl,hva,show (fM f rs).sc=f.sc from rfl]
             refine SPN ?_; repeat' (first|refine ⟨fun hc=>?_,fun hc=>?_⟩|intro)
             refine W.loop (G:=Nat) (fun q=>[(0,.pointer (some ⟨f.R,0,none⟩)),(3,.pointer (some ⟨x3,0,none⟩)),(4,.pointer (some ⟨x4,0,none⟩)),(6,.slice (some ⟨gb,go,none⟩) k sc),(8,.pointer (some ⟨x8,0,none⟩)),(179,.slice va base f.sc),(180,.int .i64 base),(181,.int .i64 q)])
              (fun q=>(D,.deferred (some []))::(x8,.cells (tldC { t with whole:=wv,freed:=(sumB (fun _=>true) ((rs.map (·.r)).take q):Nat) }).toArray 134 (0,0))::(x3,.cells [.int .u32 y,.int .u32 room,.slice ga gn gc,.slice ra rn rc].toArray 75 (0,0))::(x4,.cells (tldC Tld.zero).toArray 134 (0,0))::(hb++(fM f rs).H))
              (fun q=>q≤base) (fun q=>base - q) 0 (Nat.zero_le _) envA (fun _ h=>by
               have e:(({ t with whole:=wv,freed:=((sumB (fun _=>true) ((rs.map (·.r)).take 0):Nat):Int) }):Tld)={ t with whole:=wv }:=by rw [show ((sumB (fun _=>true) ((rs.map (·.r)).take 0):Nat):Int)=t.freed from hft.symm]
               dsimp only
               rw [e]
               exact h) ?_
             intro q hq
             refine SPN ?_; repeat' (first|refine ⟨fun hc=>?_,fun hc=>?_⟩|intro)
             · have hq':q < base:=by have:=of_decide_eq_true hc; omega
               obtain ⟨m,hm⟩:∃ m,rs[q]? = some m:=⟨rs[q]'(by omega),by simp⟩
               have hm':(fM f rs).rs[q]? = some m:=hm
               obtain ⟨gb2,go2,hva2,hp⟩:=fl_ptr (F:=F) hfr hm'
               obtain rfl:va=some ⟨gb2,go2,none⟩:=by rw [←hva]; exact hva2
               have hia2:0≤(q:Int)∧(q:Int) < (base:Int):=by omega
               have c6:Sl.Can F (fM f rs).H m.b (0+0+6) [.slice m.ba m.bn m.bc]:=(rec_can hm').one (i:=6) rfl
               have hml:=(hfr.recs m (List.mem_of_getElem? hm')).len
               have hs1:=sumB_snoc (fun _=>true) (L:=rs.map (·.r)) (i:=q) (r:=m.r) (by rw [List.getElem?_map,hm]; rfl)
               rw [if_pos rfl,hml] at hs1
               have hs2:=sum_small hsms (fun _=>true) (q+1)
               rw [show (fM f rs).rs.map (·.r)=rs.map (·.r) from rfl,hs1] at hs2
               unfold RcM.p at hp
               refine SPN ?_; repeat' (first|refine ⟨fun hc=>?_,fun hc=>?_⟩|intro)
               refine WL.s rfl (Rd.ldC rfl (hp.mono (fun _ h=>h.sublist findA))) ?_
               refine SPN ?_; repeat' (first|refine ⟨fun hc=>?_,fun hc=>?_⟩|intro)
               refine W.drawA ?_
               refine SPN ?_; repeat' (first|refine ⟨fun hc=>?_,fun hc=>?_⟩|intro)
               refine WD.s rfl (Rd.ldC rfl (c6.mono (fun _ h=>h.sublist findA))) ?_
               refine SPN ?_; repeat' (first|refine ⟨fun hc=>?_,fun hc=>?_⟩|intro)
               rw [i64_id (n:=((sumB (fun _=>true) ((rs.map (·.r)).take q):Nat):Int)+(m.bn:Int)) (by omega) (by omega),i64_succ (by omega)]
               refine Fin.round (q+1) hq' envA (fun _ h=>?_) (by omega)
               dsimp only
               rw [hs1]
               exact h
             · have hqe:q=base:=by have:=of_decide_eq_false hc; omega
               subst hqe
               have hsk:Flt.sack f.S y gs=some (⟨(rs.map (·.r)).drop q,y,f.paths⟩,{ t with whole:=wv,freed:=(sumB (fun _=>true) ((rs.map (·.r)).take q):Nat) }):=by
                unfold Flt.sack
                rw [hsp]
                dsimp only
                rw [←hk1]
                dsimp only
                rw [hx0,←hk2]
                dsimp only
                rw [hbase,←hww]
                rfl
               rw [hsk]
               refine W.drawE [5] ((x3,.cells [.int .u32 y,.int .u32 room,.slice ga gn gc,.slice ra rn rc].toArray 75 (0,0))::hb) (by kernel_rfl) (by kernel_rfl) (fun _ h=>In.of_sub (.pick (.there (.there .here)) (.last (.there (.there (.there .here))))) h) ?_
               refine SPN ?_; repeat' (first|refine ⟨fun hc=>?_,fun hc=>?_⟩|intro)
               refine WD.e rfl (Rd.ef (Rd.ldC rfl (((fl_can (fM f rs)).one (i:=0) rfl).mono (fun _ h=>h.sublist findA)))) ?_
               rintro _ _ ⟨rfl,rfl⟩
               refine ⟨.inr (fun _ h=>In.of_sub (.pick (.there (.there .here)) (.last (.there (.there (.there .here))))) h),?_⟩
               refine SPN ?_; repeat' (first|refine ⟨fun hc=>?_,fun hc=>?_⟩|intro)
               refine WD.p rfl (Pu.iaA rfl rfl (by decide)) ?_
               refine WD.s rfl (Rd.ldC rfl (hcan1.mono (fun _ h=>h.sublist findA))) ?_
               refine WD.p rfl (Pu.slLo (lo:=(q:Int)) (n:=f.sn) (c:=f.sc) rfl rfl (by omega)) ?_
               refine WD.pA ?_
               refine WD.sA ?_
               refine WD.pA ?_
               refine WD.pA ?_
               refine WD.e0 (Ef.st rfl rfl rfl (.there (.there (.there (.there (.right (.here rfl))))))) ?_
               rintro _ _ ⟨rfl,rfl⟩
               refine ⟨.inr (fun _ h=>In.of_sub (.pick (.there (.there .here)) (.last (.there (.there (.there .here))))) h),?_⟩
               refine SPN ?_; repeat' (first|refine ⟨fun hc=>?_,fun hc=>?_⟩|intro)
               have hdr:=OwnS.drop1 hfr.own (n:=q) hb0
               have hfl:((rs.drop q).flatMap RcM.H).Sublist (rs.flatMap RcM.H):=by
                rw [show rs.flatMap RcM.H=(rs.take q).flatMap RcM.H++(rs.drop q).flatMap RcM.H by rw [←List.flatMap_append,List.take_append_drop]]
                exact List.sublist_append_right _ _
               refine Fin.retM (by exact rfl) .here resA (H':=({ fM f rs with sa:=if f.sc=(q:Int).toNat then (fM f rs).sa else Option.map (fun x=>x.add ((q:Int).toNat * 1)) (fM f rs).sa,sn:=f.sn - (q:Int).toNat,sc:=f.sc - (q:Int).toNat,c:=y,rs:=rs.drop q }:FM).H)
                (fun _ h=>h.sublist (.cons _ (.cons _ (.cons _ (List.Sublist.trans (.cons_cons _ (.append (.refl _) hfl)) (List.sublist_append_right _ _)))))) ⟨rfl,_,⟨?_,fun m hm=>hfr.recs m (List.mem_of_mem_drop hm),hy,?_⟩,rfl,rfl,?_⟩
               · dsimp only
                 rw [List.map_drop]
                 exact hdr
               · dsimp only
                 rw [List.length_drop]
                 omega
               · show Flt.S.mk ((rs.drop q).map (·.r)) y f.paths=_
                 rw [List.map_drop]
end Go.Proofs.YtlfpemmdehmbfaaGreat
