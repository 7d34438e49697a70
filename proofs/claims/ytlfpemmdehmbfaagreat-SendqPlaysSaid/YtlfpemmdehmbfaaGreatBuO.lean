/- Some texts as one. The document's flight of pieces: Get, Add, Point, walked: they answer as the plain functions do. Conditions: it is well formed; the bytes are few. A sender in memory. Conditions: it is well formed. A sender in memory: what it looks at, walked. Conditions: it is well formed. -/
import Derived.Test.YtlfpemmdehmbfaaGreatBuD
import Derived.Test.YtlfpemmdehmbfaaGreatBuN
import Derived.Test.YtlfpemmdehmbfaaGreatBuH
import Derived.Test.YtlfpemmdehmbfaaGreatBuL
import Derived.Test.YtlfpemmdehmbfaaGreatBuM
import Derived.Test.YtlfpemmdehmbfaaGreatBuK
namespace Go.Proofs.YtlfpemmdehmbfaaGreat
open Go Go.Sl Go.Flt
theorem fr_can {F:Nat→Option Obj} (f:FR):Sl.Can F f.H f.R 0 [.slice f.la f.ln f.lc,.int .u32 f.c,.int .i64 f.paths]:=Can.cut (n:=3) (.here rfl)
theorem fr_src {F:Nat→Option Obj} {f:FR} (hf:f.ok) {i:Nat} {m:RrM} (h:f.rs[i]? = some m):Lst F f.H 1 (m.r.bs.map B) m.ba m.bn m.bc:=by
 refine (Lst.own (F:=F) (H:=m.bb) (hf.recs m (List.mem_of_getElem? h)) (fun _ h=>h)).mono (fun w hw=>?_)
 have e1:f.rs=f.rs.take i++m::f.rs.drop (i+1):=by
  have hi:=(List.getElem?_eq_some_iff.1 h).1
  rw [←(List.getElem?_eq_some_iff.1 h).2,←List.drop_eq_getElem_cons hi,List.take_append_drop]
 unfold FR.H at hw
 rw [e1,List.flatMap_append,List.flatMap_cons] at hw
 exact hw.sublist (.cons _ (.trans (.trans (List.sublist_append_left _ _) (List.sublist_append_right _ _)) (List.sublist_append_right _ _)))
theorem fr_few {f:FR} (hs:f.small) {i:Nat} {m:RrM} (h:f.rs[i]? = some m):m.r.bs.length≤1000000000000:=by
 have h1:=sumB_snoc (fun _=>true) (L:=f.S.L) (i:=i) (r:=m.r) (fr_r h)
 have h2:=fr_sum hs (fun _=>true) (i+1)
 rw [if_pos rfl] at h1
 omega
theorem b_one (bs:List UInt8):∀ u ∈ bs.map B,u.oneCell'=true:=by
 intro u hu
 obtain ⟨b,_,rfl⟩:=List.mem_map.1 hu
 rfl
set_option maxHeartbeats 4000000 in
theorem rgetD_tr (F:Nat→Option Obj) (f:FR) (hf:f.ok) (hs:f.small) (t:Int):Tr Tryz.prog 170 [.pointer (some ⟨f.R,0,none⟩),.int .u32 t].toArray F f.H (fun v H=>
 (Flt.getD f.S t=none∧v=tup [.agg [.int .u32 0,.int .u16 0,.int .u16 0,.bool false,.bool false,.bool false,.slice none 0 0].toArray,.int .i64 0,.bool false]∧H=f.H)∨
 (∃ m:DM,∃ p,Flt.getD f.S t=some (m.d,p)∧m.ok∧v=tup [.agg m.cells.toArray,.int .i64 p,.bool true]∧H=m.bb++f.H)):=by
 refine Tr.enter Tryz.func170 rfl Tryz.ntmps170 rfl (fun w0=>?_)
 have hlen:=hf.len
 have hsl:=fr_len hf
 have r0:Sl.Can F f.H f.R (0+0) [.slice f.la f.ln f.lc]:=(fr_can f).one (i:=0) rfl
 refine SPS ?_; repeat' (first|refine ⟨fun hc=>?_,fun hc=>?_⟩|intro)
 refine WL.e rfl (Ef.callR (c:=f.H) (by exact rfl) (.last (.there .all)) (rat_tr _ f hf t)) ?_
 rintro _ _ ⟨rfl,rfl⟩
 cases hi:atI f.c f.ln t with
 | none=>
   rw [show atR f.c f.ln t=-1 by unfold atR; rw [hi]]
   refine SPS ?_; repeat' (first|refine ⟨fun hc=>?_,fun hc=>?_⟩|intro)
   exact Fin.retW (by exact rfl) resA (H':=f.H) (fun _ h=>h.sublist findA) (.inl ⟨by unfold Flt.getD; rw [hsl,show f.S.c=f.c from rfl,hi],rfl,rfl⟩)
 | some i=>
   have hil:i < f.ln:=by
    unfold atI at hi
    split at hi
    · cases hi; omega
    · cases hi
   obtain ⟨m,hm⟩:∃ m,f.rs[i]? = some m:=⟨f.rs[i]'(by omega),by simp⟩
   have hrl:=fr_few hs hm
   have hbn:=fr_bn hf hm
   obtain ⟨lb,lo,hla,hcan⟩:=fr_el (F:=F) hf hm
   have hia:0≤(i:Int)∧(i:Int) < f.ln:=by omega
   rw [show atR f.c f.ln t=(i:Int) by unfold atR; rw [hi]]
   have r0':∀ b o,Sl.Can F ((b,o)::f.H) f.R (0+0) [.slice f.la f.ln f.lc]:=fun _ _=>r0.mono (fun _ h=>h.sublist (.cons _ (.refl _)))
   refine SPN ?_; repeat' (first|refine ⟨fun hc=>?_,fun hc=>?_⟩|intro)
   rename_i b4
   refine W.cut (G:=Nat) (fun b7=>[(4,.pointer (some ⟨b4,0,none⟩)),(7,.pointer (some ⟨b7,0,none⟩))]) (fun b7=>(b7,.cells m.cells.toArray 210 (0,0))::(b4,.cells [.int .u32 0,.int .u16 0,.int .u16 0,.bool false,.bool false,.bool false,.slice none 0 0].toArray 77 (0,0))::f.H) (fun _=>True) (fun K' hK _=>?_) ?_
   · refine W.drawG 9 f.H (fun _ h=>h.sublist (.cons _ (.refl _))) ?_
     repeat' (first
      | refine WF.pA ?_ | refine WF.sA ?_)
     refine WF.e rfl (Ef.callR (c:=f.H) (by exact rfl) (.last (.there .all)) (rat_tr _ f hf t)) ?_ ?_
     · rintro _ _ ⟨rfl,rfl⟩
       rw [show atR f.c f.ln t=(i:Int) by unfold atR; rw [hi]]
       refine ⟨.inr (fun _ h=>h.sublist (.cons _ (.refl _))),?_⟩
       rw [hla]
       repeat' (first
        | refine WF.pA ?_ | refine WF.sA ?_)
       refine WF.s rfl (Rd.ldaC rfl (by exact rfl) hcan) ?_
       refine WF.nil ?_
       refine WD.aA (fun b7=>?_) (hk:=fun _=>.inr (fun _ h=>h.sublist (.cons _ (.cons _ (.refl _)))))
       refine SPN ?_; repeat' (first|refine ⟨fun hc=>?_,fun hc=>?_⟩|intro)
       exact Fin.cut hK b7 trivial envA (fun _ h=>h)
     · refine WD.aA (fun b7=>?_) (hk:=fun _=>.inr (fun _ h=>h.sublist (.cons _ (.cons _ (.refl _)))))
       refine WD.e rfl (Ef.callR (c:=f.H) (by exact rfl) (.last (.there (.there .all))) (rat_tr _ f hf t)) ?_
       rintro _ _ ⟨rfl,rfl⟩
       refine ⟨.inr (fun _ h=>h.sublist (.cons _ (.cons _ (.refl _)))),?_⟩
       rw [show atR f.c f.ln t=(i:Int) by unfold atR; rw [hi],hla]
       refine SPN ?_; repeat' (first|refine ⟨fun hc=>?_,fun hc=>?_⟩|intro)
       refine WD.s rfl (Rd.ldaC rfl (by exact rfl) hcan) ?_
       refine SPN ?_; repeat' (first|refine ⟨fun hc=>?_,fun hc=>?_⟩|intro)
       exact Fin.cut hK b7 trivial envA (fun _ h=>h)
   · rintro b7 _
     refine SPN ?_; repeat' (first|refine ⟨fun hc=>?_,fun hc=>?_⟩|intro)
     rename_i b8 b5
     refine WL.e rfl (Ef.app (m:=m.bn) (news:=m.r.bs.map B) (by exact rfl) (by exact rfl) rfl rfl (OwnS.empty _ _ b5) (.last .here) (((fr_src hf hm).mono (fun _ h=>h.sublist (.cons _ (.cons _ (.cons _ (.cons _ (.refl _))))))).src) (by rw [List.length_map]; omega) (b_one _) (by rw [List.length_map]; simp; omega) (by rw [List.length_map]; simp [maxLen]; omega)) ?_
     rintro v' _ ⟨bh,hown,rfl⟩
     obtain ⟨sa,sn,sc,rfl,_,_⟩:=OwnS.shape hown
     refine SPN ?_; repeat' (first|refine ⟨fun hc=>?_,fun hc=>?_⟩|intro)
     refine W.draw (bh++((b8,.cells [.int .u32 m.r.tsn,.int .u16 m.r.stream,.int .u16 m.r.ssn,.bool m.r.un,.bool m.r.fi,.bool m.r.la,.slice sa sn sc].toArray 77 (0,0))::(b7,.cells m.cells.toArray 210 (0,0))::f.H)) (by kernel_rfl) (by kernel_rfl) (fun _ h=>h.sublist ((List.Sublist.refl _).append (.cons_cons _ (.cons_cons _ (.cons _ (.refl _)))))) ?_
     refine WD.sA ?_
     refine WD.pA ?_
     refine WD.sA ?_
     refine WD.e0 (Ef.sta rfl rfl (by exact rfl) (by exact rfl) (.right (.there (.there (.here rfl))))) ?_
     rintro _ _ ⟨rfl,rfl⟩
     refine ⟨.inr (fun _ h=>h.sublist ((List.Sublist.refl _).append (.cons_cons _ (.cons_cons _ (.cons _ (.refl _)))))),?_⟩
     refine SPS ?_; repeat' (first|refine ⟨fun hc=>?_,fun hc=>?_⟩|intro)
     refine Fin.retW (by exact rfl) resA (H':=bh++f.H) (fun _ h=>h.sublist ((List.Sublist.refl _).append (.cons _ (.cons _ (.cons _ (.refl _)))))) (.inr ⟨⟨m.r.d,sa,sn,sc,bh⟩,m.r.path,?_,hown,rfl,rfl⟩)
     unfold Flt.getD
     rw [hsl,show f.S.c=f.c from rfl,hi]
     dsimp only
     rw [fr_r hm]
     rfl
structure RpG where
 i:Nat
 sa:Option Addr
 sn:Nat
 sc:Nat
 hb:HL
 ds:List DM
set_option maxHeartbeats 4000000 in
theorem rpoint_tr (F:Nat→Option Obj) (f:FR) (hf:f.ok) (hs:f.small) (hcr:0≤f.c∧f.c < 4294967296):Tr Tryz.prog 120 [.pointer (some ⟨f.R,0,none⟩)].toArray F f.H (fun v H=>∃ (sa:Option Addr) (sn sc:Nat) (hb:HL) (ds:List DM),v=tup [.int .u32 (Spn.u32 (f.c+Spn.u32 (Flt.ptL f.S.L).length)),.slice sa sn sc]∧
 OwnS 77 7 (ds.flatMap DM.cells) (.slice sa sn sc) hb∧(∀ m ∈ ds,m.ok)∧ds.map (·.d)=Flt.ptL f.S.L∧H=hb++(ds.flatMap DM.bb++f.H)):=by
 refine Tr.enter Tryz.func120 rfl Tryz.ntmps120 rfl (fun w0=>?_)
 have hlen:=hf.len
 have hsl:=fr_len hf
 have hfew:=hf.few
 have r0:Sl.Can F f.H f.R (0+0) [.slice f.la f.ln f.lc]:=(fr_can f).one (i:=0) rfl
 have r1:Sl.Can F f.H f.R (0+1) [.int .u32 f.c]:=(fr_can f).one (i:=1) rfl
 have hc0:f.c=Spn.u32 (f.c+Spn.u32 (0:Nat)):=by rw [show Spn.u32 ((0:Nat):Int)=0 from rfl,Int.add_zero,Spn.u32_eq]; omega
 refine SPS ?_; repeat' (first|refine ⟨fun hc=>?_,fun hc=>?_⟩|intro)
 rw [hc0]
 refine W.loop (G:=RpG) (fun g=>[(0,.pointer (some ⟨f.R,0,none⟩)),(4,.int .u32 (Spn.u32 (f.c+Spn.u32 g.i))),(5,.slice g.sa g.sn g.sc),(6,.int .i64 g.i)]) (fun g=>g.hb++(g.ds.flatMap DM.bb++f.H))
  (fun g=>g.i≤f.ln∧OwnS 77 7 (g.ds.flatMap DM.cells) (.slice g.sa g.sn g.sc) g.hb∧(∀ m ∈ g.ds,m.ok)∧g.ds.map (·.d)=(f.S.L.take g.i).map Rc.d∧∀ r ∈ f.S.L.take g.i,r.gone=true) (fun g=>f.ln - g.i) ⟨0,none,0,0,[],[]⟩ ⟨Nat.zero_le _,.inl ⟨rfl,rfl,rfl⟩,(fun _ h=>by cases h),rfl,(fun _ h=>by simp at h)⟩ envA (fun _ h=>h) ?_
 rw [←hc0]
 rintro ⟨i,sa,sn,sc,hb,ds⟩ ⟨hi,hown,hds,hdd,hgone⟩
 dsimp only at hi hown hds hdd hgone ⊢
 have hdl:ds.length=i:=by
  have:=congrArg List.length hdd
  simp only [List.length_map,List.length_take] at this
  omega
 have hHH:∀ w,In F (hb++(ds.flatMap DM.bb++f.H)) w→In F f.H w:=fun _ h=>h.right.right
 have s0:=r0.mono hHH
 refine SPN ?_; repeat' (first|refine ⟨fun hc=>?_,fun hc=>?_⟩|intro)
 rotate_right
 · have hin:i=f.ln:=by have:=of_decide_eq_false (p:=(i:Int) < (f.ln:Int)) (by assumption); omega
   have hpt:Flt.ptL f.S.L=(f.S.L.take i).map Rc.d:=ptL_at hgone (fun r hr=>by have:=(List.getElem?_eq_some_iff.1 hr).1; omega)
   refine Fin.retW (by exact rfl) resA (H':=hb++(ds.flatMap DM.bb++f.H)) (fun _ h=>h) ⟨sa,sn,sc,hb,ds,?_,hown,hds,by rw [hpt,hdd],rfl⟩
   rw [hpt,←hdd,List.length_map]
   rw [hdl]
 have hi':i < f.ln:=by have:=of_decide_eq_true (p:=(i:Int) < (f.ln:Int)) (by assumption); omega
 obtain ⟨m,hm⟩:∃ m,f.rs[i]? = some m:=⟨f.rs[i]'(by omega),by simp⟩
 have hrl:=fr_few hs hm
 have hmr:=fr_r hm
 have hbn:=fr_bn hf hm
 obtain ⟨lb,lo,hla,hcan⟩:=fr_el (F:=F) hf hm
 have hia:0≤(i:Int)∧(i:Int) < f.ln:=by omega
 have c13:Sl.Can F (hb++(ds.flatMap DM.bb++f.H)) lb (lo+(i:Int).toNat * 15+13) [.bool m.r.gone]:=(hcan.one (i:=13) rfl).mono hHH
 have c7:Sl.Can F (hb++(ds.flatMap DM.bb++f.H)) lb (lo+(i:Int).toNat * 15+0) [.int .u32 m.r.tsn,.int .u16 m.r.stream,.int .u16 m.r.ssn,.bool m.r.un,.bool m.r.fi,.bool m.r.la,.slice m.ba m.bn m.bc]:=(hcan.sub 0 7).mono hHH
 rw [hla] at s0 ⊢
 cases hgo:m.r.gone with
 | false=>
   rw [hgo] at c13
   have hpt:Flt.ptL f.S.L=(f.S.L.take i).map Rc.d:=ptL_at hgone (fun r hr=>by rw [hmr] at hr; cases hr; exact hgo)
   refine SPN ?_; repeat' (first|refine ⟨fun hc=>?_,fun hc=>?_⟩|intro)
   refine Fin.retW (by exact rfl) resA (H':=hb++(ds.flatMap DM.bb++f.H)) (fun _ h=>h) ⟨sa,sn,sc,hb,ds,?_,hown,hds,by rw [hpt,hdd],rfl⟩
   rw [hpt,←hdd,List.length_map]
   rw [hdl]
 | true=>
   rw [hgo] at c13
   refine SPN ?_; repeat' (first|refine ⟨fun hc=>?_,fun hc=>?_⟩|intro)
   rw [hla]
   refine SPN ?_; repeat' (first|refine ⟨fun hc=>?_,fun hc=>?_⟩|intro)
   refine WL.s rfl (Rd.ldaC rfl (by exact rfl) c7) ?_
   refine SPN ?_; repeat' (first|refine ⟨fun hc=>?_,fun hc=>?_⟩|intro)
   rename_i b7 b5
   have hfs:∀ w,In F ((b5,.cells ([]:List Value).toArray 5 (0,0))::(b7,.cells [.int .u32 m.r.tsn,.int .u16 m.r.stream,.int .u16 m.r.ssn,.bool m.r.un,.bool m.r.fi,.bool m.r.la,.slice m.ba m.bn m.bc].toArray 77 (0,0))::(hb++(ds.flatMap DM.bb++f.H))) w→In F f.H w:=fun _ h=>(h.sublist (.cons _ (.cons _ (.refl _)))).right.right
   refine WL.e rfl (Ef.app (m:=m.bn) (news:=m.r.bs.map B) (by exact rfl) (by exact rfl) rfl rfl (OwnS.empty _ _ b5) (.last .here) (((fr_src hf hm).mono hfs).src) (by rw [List.length_map]; omega) (b_one _) (by rw [List.length_map]; simp; omega) (by rw [List.length_map]; simp [maxLen]; omega)) ?_
   rintro v' _ ⟨bh,hown1,rfl⟩
   obtain ⟨sa1,sn1,sc1,rfl,_,_⟩:=OwnS.shape hown1
   refine SPN ?_; repeat' (first|refine ⟨fun hc=>?_,fun hc=>?_⟩|intro)
   refine WL.e rfl (Ef.app (m:=1) (news:=DM.cells ⟨m.r.d,sa1,sn1,sc1,bh⟩) (hb:=hb) (by exact rfl) (by exact rfl) rfl rfl hown (.last (.there (.right (.there .here)))) (Src.own (n:=7) (.here rfl)) rfl (dm_one _) (by rw [ds_len,DM.len]; omega) (by rw [ds_len,DM.len]; simp [maxLen]; omega)) ?_
   rintro v' _ ⟨hb',hown',rfl⟩
   obtain ⟨sa2,sn2,sc2,rfl,_,_⟩:=OwnS.shape hown'
   refine SPN ?_; repeat' (first|refine ⟨fun hc=>?_,fun hc=>?_⟩|intro)
   rw [i64_succ (by omega)]
   refine Fin.round ⟨i+1,sa2,sn2,sc2,hb',ds++[⟨m.r.d,sa1,sn1,sc1,bh⟩]⟩ ⟨hi',?_,?_,?_,?_⟩ (by rw [show IntKind.u32.wrap (Spn.u32 (f.c+Spn.u32 i)+1)=Spn.u32 (f.c+Spn.u32 ((i+1:Nat):Int)) by show Spn.u32 _=_; simp only [Spn.u32_eq]; omega]; exact envA) (fun _ h=>?_) (by dsimp only; omega)
   · dsimp only
     rw [List.flatMap_append]
     simpa using hown'
   · intro q hq
     rcases List.mem_append.1 hq with hq | hq
     · exact hds q hq
     · rw [List.mem_singleton.1 hq]
       exact hown1
   · dsimp only
     rw [List.map_append,hdd,List.take_add_one,hmr,List.map_append]
     rfl
   · intro r hr
     dsimp only at hr
     rw [List.take_add_one,hmr] at hr
     rcases List.mem_append.1 hr with hr | hr
     · exact hgone r hr
     · rw [List.mem_singleton.1 hr]
       exact hgo
   · have:=In.of_sub (.pickL (L:=hb') .here (.pickL (L:=ds.flatMap DM.bb) (.there (.right (.there .here))) (.pickL (L:=bh) (.there .here) (.last (L:=f.H) (.there (.there .all)))))) h
     rw [List.flatMap_append]
     simpa using this
set_option maxHeartbeats 4000000 in
theorem radd_tr (F:Nat→Option Obj) (f:FR) (hf:f.ok) (d:Dt) (ba:Option Addr) (bn bc:Nat) (hl:Lst F [] 1 (d.bs.map B) ba bn bc) (hdl:d.bs.length≤1000000000000) (p now id:Int) :
 Tr Tryz.prog 166 [.pointer (some ⟨f.R,0,none⟩),.agg [.int .u32 d.tsn,.int .u16 d.stream,.int .u16 d.ssn,.bool d.un,.bool d.fi,.bool d.la,.slice ba bn bc].toArray,.int .i64 p,.int .i64 now,.int .i64 id].toArray F f.H (fun v H=>
  v=tup [.int .u32 (if Flt.addE f.S d p=0 then newT f.S else 0),.int .i64 (Flt.addE f.S d p)]∧∃ f':FR,f'.ok∧H=f'.H∧f'.R=f.R∧f'.S=Flt.add f.S d p now id):=by
 refine Tr.enter Tryz.func166 rfl Tryz.ntmps166 rfl (fun w0=>?_)
 have hlen:=hf.len
 have hfew:=hf.few
 have hL:=fr_len hf
 have hbl:d.bs.length=bn:=by have:=hl.len; simp at this; exact this
 unfold FR.H FR.hd
 refine SPS ?_; repeat' (first|refine ⟨fun hc=>?_,fun hc=>?_⟩|intro)
 · have he:Flt.addE f.S d p=1:=by unfold Flt.addE; rw [if_pos (.inl (of_decide_eq_true hc))]
   refine Fin.retW (by exact rfl) resA (H':=f.H) (fun _ h=>h.sublist (.cons _ (.refl _))) ⟨by rw [he]; rfl,f,hf,rfl,rfl,by unfold Flt.add; rw [he]; rfl⟩
 · have he:Flt.addE f.S d p=1:=by unfold Flt.addE; rw [if_pos (.inr (.inl (of_decide_eq_true hc)))]
   refine Fin.retW (by exact rfl) resA (H':=f.H) (fun _ h=>h.sublist (.cons _ (.refl _))) ⟨by rw [he]; rfl,f,hf,rfl,rfl,by unfold Flt.add; rw [he]; rfl⟩
 · have h0:d.bs=[]:=List.eq_nil_of_length_eq_zero (by simp at hc; omega)
   have he:Flt.addE f.S d p=1:=by unfold Flt.addE; rw [if_pos (.inr (.inr h0))]
   refine Fin.retW (by exact rfl) resA (H':=f.H) (fun _ h=>h.sublist (.cons _ (.refl _))) ⟨by rw [he]; rfl,f,hf,rfl,rfl,by unfold Flt.add; rw [he]; rfl⟩
 · have h0:¬ (p < 0∨f.S.paths≤p∨d.bs=[]):=by
    rw [show f.S.paths=f.paths from rfl]
    rintro (h | h | h)
    · simp_all
    · simp_all
    · rw [h] at hbl
      simp at hbl
      subst hbl
      simp_all
   have he:Flt.addE f.S d p=6:=by unfold Flt.addE; rw [if_neg h0,if_pos (by rw [hL]; have:=of_decide_eq_true hc; omega)]
   refine Fin.retW (by exact rfl) resA (H':=f.H) (fun _ h=>h.sublist (.cons _ (.refl _))) ⟨by rw [he]; rfl,f,hf,rfl,rfl,by unfold Flt.add; rw [he]; rfl⟩
 have h0:¬ (p < 0∨f.S.paths≤p∨d.bs=[]):=by
  rw [show f.S.paths=f.paths from rfl]
  rintro (h | h | h)
  · simp_all
  · simp_all
  · rw [h] at hbl
    simp at hbl
    subst hbl
    simp_all
 have hlt:f.ln < 2048:=by have:=of_decide_eq_false hc; omega
 have he:Flt.addE f.S d p=0:=by unfold Flt.addE; rw [if_neg h0,if_neg (by rw [hL]; omega)]
 rename_i b6 _ _ _ b5
 refine WL.e rfl (Ef.app (m:=bn) (news:=d.bs.map B) (by exact rfl) (by exact rfl) rfl rfl (OwnS.empty _ _ b5) (.last .here) ((hl.mono (fun _ h=>h.sublist (List.nil_sublist _))).src) (by rw [List.length_map]; omega) (b_one _) (by rw [List.length_map]; simp; omega) (by rw [List.length_map]; simp [maxLen]; omega)) ?_
 rintro v' _ ⟨bh,hown1,rfl⟩
 obtain ⟨sa1,sn1,sc1,rfl,_,_⟩:=OwnS.shape hown1
 refine SPS ?_; repeat' (first|refine ⟨fun hc=>?_,fun hc=>?_⟩|intro)
 obtain ⟨m,hm⟩:∃ m:RrM,m=⟨newR f.S d p now id,sa1,sn1,sc1,bh⟩:=⟨_,rfl⟩
 have hmc:m.cells=[.int .u32 (IntKind.u32.wrap (IntKind.u32.wrap (f.c+1)+IntKind.u32.wrap (f.ln:Int))),.int .u16 d.stream,.int .u16 d.ssn,.bool d.un,.bool d.fi,.bool d.la,.slice sa1 sn1 sc1,.int .i64 p,.int .i64 now,.int .i64 id,.int .i64 0,.bool false,.bool false,.bool false,.bool false]:=by
  rw [hm]
  unfold RrM.cells newR newT
  rw [hL]
  rfl
 rw [←hmc]
 refine WD.e rfl (Ef.app (m:=1) (news:=m.cells) (hb:=f.lb) (by exact rfl) (by exact rfl) rfl rfl hf.own (.last (.there (.right (.there (.there .here))))) (Src.own (n:=15) (.here (by rw [hmc]; rfl))) rfl (by rw [hmc]; intro u hu; simp only [List.mem_cons,List.not_mem_nil,or_false] at hu; rcases hu with rfl | rfl | rfl | rfl | rfl | rfl | rfl | rfl | rfl | rfl | rfl | rfl | rfl | rfl | rfl <;> rfl) (by rw [flat_len' RrM.cells 15 (fun _=>rfl),hmc]; simp; omega) (by rw [flat_len' RrM.cells 15 (fun _=>rfl),hmc]; simp [maxLen]; omega)) ?_
 rintro v' _ ⟨lb',hown',rfl⟩
 refine ⟨.inl (by kernel_rfl),?_⟩
 obtain ⟨sa2,sn2,sc2,rfl,_,_⟩:=OwnS.shape hown'
 refine SPS ?_; repeat' (first|refine ⟨fun hc=>?_,fun hc=>?_⟩|intro)
 refine Fin.retW (by exact rfl) resA (H':=({ f with la:=sa2,ln:=sn2,lc:=sc2,lb:=lb',rs:=f.rs++[m] }:FR).H) (fun _ h=>?_) ⟨?_,{ f with la:=sa2,ln:=sn2,lc:=sc2,lb:=lb',rs:=f.rs++[m] },⟨?_,?_,?_⟩,rfl,rfl,?_⟩
 · have:=In.of_sub (.pick (.right (.there (.right (.there .here)))) (.pickL (L:=lb') .here (.pickL (L:=f.rs.flatMap (·.bb)) (.there (.right (.there .all))) (.last (L:=bh) (.there .here))))) h
   unfold FR.H FR.hd
   dsimp only
   rw [List.flatMap_append,List.flatMap_cons,List.flatMap_nil,List.append_nil,show m.bb=bh by rw [hm]]
   exact this
 · rw [he]
   unfold newT
   rw [hL]
   rfl
 · dsimp only
   rw [List.flatMap_append,List.flatMap_cons,List.flatMap_nil,List.append_nil]
   exact hown'
 · intro q hq
   rcases List.mem_append.1 hq with hq | hq
   · exact hf.recs q hq
   · rw [List.mem_singleton.1 hq,hm]
     exact hown1
 · dsimp only
   rw [List.length_append]
   show f.rs.length+1≤2048
   omega
 · unfold Flt.add
   rw [he,if_pos rfl]
   unfold FR.S
   dsimp only
   rw [List.map_append,hm]
   rfl
end Go.Proofs.YtlfpemmdehmbfaaGreat
namespace Go.Proofs.YtlfpemmdehmbfaaGreat
open Go Go.Sl Go.Pth
structure WaM where
 b:Nat
 pm:PaM
 timer:Int
 set:Bool
 mark:Int
def WaM.W (m:WaM):Snd.Way:=⟨m.pm.s,m.timer,m.set,m.mark⟩
def WaM.cells (m:WaM):List Value:=[ptr m.pm.P,.int .i64 m.timer,.bool m.set,.int .u32 m.mark]
def WaM.hd (m:WaM):Nat × Obj:=(m.b,.cells m.cells.toArray 94 (0,0))
def WaM.H (m:WaM):HL:=m.hd::m.pm.H
structure OwM where
 d:Flt.Dt
 id:Int
 ba:Option Addr
 bn:Nat
 bc:Nat
 bb:HL
def OwM.cells (m:OwM):List Value:=[.int .u32 m.d.tsn,.int .u16 m.d.stream,.int .u16 m.d.ssn,.bool m.d.un,.bool m.d.fi,.bool m.d.la,.slice m.ba m.bn m.bc,.int .i64 m.id]
def OwM.O (m:OwM):Snd.Owed:=⟨m.d,m.id⟩
def lifeC (l:Snd.Life):List Value:=[.int .i64 l.id,.int .i64 l.til]
theorem OwM.clen (m:OwM):m.cells.length=8:=rfl
theorem lifeC_len (l:Snd.Life):(lifeC l).length=2:=rfl
structure SdM where
 R:Nat
 o:OqM
 f:FM
 ws:List WaM
 wa:Option Addr
 wn:Nat
 wc:Nat
 wb:HL
 room:Int
 first:Int
 mtu:Int
 lives:List Snd.Life
 la:Option Addr
 ln:Nat
 lc:Nat
 lb:HL
 owed:List OwM
 oa:Option Addr
 on_:Nat
 oc:Nat
 ob:HL
 told:Bool
 cum:Int
 at_:Int
 by_:Int
def SdM.cells (s:SdM):List Value:=[ptr s.o.R,ptr s.f.R,.slice s.wa s.wn s.wc,.int .i64 s.room,.int .i64 s.first,.int .i64 s.mtu,.slice s.la s.ln s.lc,.slice s.oa s.on_ s.oc,.bool s.told,.int .u32 s.cum,.int .i64 s.at_,.int .i64 s.by_]
def SdM.hd (s:SdM):Nat × Obj:=(s.R,.cells s.cells.toArray 88 (0,0))
def SdM.X (s:SdM):HL:=s.lb++(s.ob++s.owed.flatMap (·.bb))
def SdM.T (s:SdM):HL:=s.o.H++(s.f.H++(s.wb++(s.ws.flatMap WaM.H++s.X)))
def SdM.H (s:SdM):HL:=s.hd::s.T
def SdM.S (s:SdM):Snd.S:=⟨s.o.S,s.f.S,s.ws.map WaM.W,s.room,s.first,s.mtu,s.lives,s.owed.map OwM.O,s.told,s.cum,s.at_,s.by_⟩
structure SdM.ok (n:Nat) (s:SdM):Prop where
 o:s.o.ok
 f:s.f.ok
 ways:OwnS 92 1 (s.ws.map (fun m=>ptr m.b)) (.slice s.wa s.wn s.wc) s.wb
 lives:OwnS 116 2 (s.lives.flatMap lifeC) (.slice s.la s.ln s.lc) s.lb
 owed:OwnS 177 8 (s.owed.flatMap OwM.cells) (.slice s.oa s.on_ s.oc) s.ob
 own:∀ m ∈ s.owed,OwnS 5 1 (m.d.bs.map B) (.slice m.ba m.bn m.bc) m.bb
 pl:Snd.Ok n s.S
theorem SdM.ok.wn {n:Nat} {s:SdM} (h:s.ok n):s.wn=s.ws.length:=by have:=OwnS.len h.ways; simp at this; omega
theorem SdM.ok.nws {n:Nat} {s:SdM} (h:s.ok n):1≤s.ws.length∧s.ws.length≤4:=by have:=h.pl.nws; simpa [SdM.S] using this
theorem SdM.ok.paths {n:Nat} {s:SdM} (h:s.ok n):s.f.S.paths=s.ws.length:=by have:=h.pl.paths; simpa [SdM.S] using this
theorem SdM.ok.way {n:Nat} {s:SdM} (h:s.ok n) {k:Nat} {m:WaM} (hk:s.ws[k]? = some m):m.W.Ok:=h.pl.ws m.W (by
 have:=List.mem_of_getElem? hk
 exact List.mem_map.2 ⟨m,this,rfl⟩)
theorem SdM.ok.small {n:Nat} {s:SdM} (h:s.ok n):s.f.small:=by
 have:=h.pl.f.small (fun _=>true)
 unfold FM.small
 have e:s.S.f.L=s.f.rs.map (·.r):=rfl
 rw [e] at this
 omega
theorem SdM.ok.pathOk {n:Nat} {s:SdM} (h:s.ok n):pathOk s.f.S.L:=by
 have h1:=h.pl.f.g; have h2:=h.paths; have h3:=h.nws
 intro r hr
 obtain ⟨i,hi⟩:=List.getElem?_of_mem hr
 have:=h1.path i r hi
 have e:s.S.f=s.f.S:=rfl
 rw [e] at this
 omega
theorem SdM.can {F:Nat→Option Obj} (s:SdM):Sl.Can F s.H s.R 0 s.cells:=Can.cut (n:=12) (.here rfl)
theorem SdM.cans {F:Nat→Option Obj} (s:SdM):Sl.Can F s.H s.R (0+0) [ptr s.o.R]∧Sl.Can F s.H s.R (0+1) [ptr s.f.R]∧Sl.Can F s.H s.R (0+2) [.slice s.wa s.wn s.wc]∧Sl.Can F s.H s.R (0+3) [.int .i64 s.room]∧Sl.Can F s.H s.R (0+4) [.int .i64 s.first]∧
 Sl.Can F s.H s.R (0+5) [.int .i64 s.mtu]∧Sl.Can F s.H s.R (0+6) [.slice s.la s.ln s.lc]∧Sl.Can F s.H s.R (0+7) [.slice s.oa s.on_ s.oc]∧Sl.Can F s.H s.R (0+8) [.bool s.told]∧Sl.Can F s.H s.R (0+9) [.int .u32 s.cum]∧Sl.Can F s.H s.R (0+10) [.int .i64 s.at_]∧Sl.Can F s.H s.R (0+11) [.int .i64 s.by_]:=
 ⟨s.can.one (i:=0) rfl,s.can.one (i:=1) rfl,s.can.one (i:=2) rfl,s.can.one (i:=3) rfl,s.can.one (i:=4) rfl,s.can.one (i:=5) rfl,s.can.one (i:=6) rfl,s.can.one (i:=7) rfl,s.can.one (i:=8) rfl,s.can.one (i:=9) rfl,s.can.one (i:=10) rfl,s.can.one (i:=11) rfl⟩
theorem SdM.atWays (s:SdM):s.wb.Sublist s.H:=.cons _ ((List.sublist_append_left _ _).trans ((List.sublist_append_right _ _).trans (List.sublist_append_right _ _)))
theorem SdM.atWay (s:SdM) {k:Nat} {m:WaM} (hk:s.ws[k]? = some m):m.H.Sublist s.H:=.cons _ ((flat_sub WaM.H (List.mem_of_getElem? hk)).trans ((List.sublist_append_left _ _).trans ((List.sublist_append_right _ _).trans ((List.sublist_append_right _ _).trans (List.sublist_append_right _ _)))))
theorem SdM.wayPtr {n:Nat} {s:SdM} (h:s.ok n) {k:Nat} {m:WaM} (hk:s.ws[k]? = some m):∃ b off,s.wa=some ⟨b,off,none⟩∧k < s.wn∧∀ F:Nat→Option Obj,Sl.Can F s.H b (off+(k:Int).toNat * 1) [ptr m.b]:=by
 obtain ⟨b,off,h1,h2,h3⟩:=own_el (v:=fun m:WaM=>ptr m.b) h.ways hk
 exact ⟨b,off,h1,h2,fun F=>(h3 F).mono (fun _ hh=>hh.sublist s.atWays)⟩
theorem SdM.wayC {F:Nat→Option Obj} {s:SdM} {k:Nat} {m:WaM} (hk:s.ws[k]? = some m):Sl.Can F s.H m.b 0 m.cells:=(Can.cut (F:=F) (H:=m.H) (n:=4) (.here rfl)).mono (fun _ hh=>hh.sublist (s.atWay hk))
theorem SdM.wayCans {F:Nat→Option Obj} {s:SdM} {k:Nat} {m:WaM} (hk:s.ws[k]? = some m):Sl.Can F s.H m.b (0+0) [ptr m.pm.P]∧Sl.Can F s.H m.b (0+1) [.int .i64 m.timer]∧Sl.Can F s.H m.b (0+2) [.bool m.set]∧Sl.Can F s.H m.b (0+3) [.int .u32 m.mark]:=
 ⟨(SdM.wayC hk).one (i:=0) rfl,(SdM.wayC hk).one (i:=1) rfl,(SdM.wayC hk).one (i:=2) rfl,(SdM.wayC hk).one (i:=3) rfl⟩
structure Part (s:SdM) (c Hr:HL):Prop where
 sub:Sub c s.H Hr
theorem SdM.flP (s:SdM):Part s s.f.H (s.hd::(s.o.H++(s.wb++(s.ws.flatMap WaM.H++s.X)))):=⟨.last (.there (.right .here))⟩
theorem SdM.flE {s:SdM} {f':FM} (hR:f'.R=s.f.R):(f'.H++(s.hd::(s.o.H++(s.wb++(s.ws.flatMap WaM.H++s.X))))).Perm ({ s with f:=f' }:SdM).H:=by
 have e:({ s with f:=f' }:SdM).hd=s.hd:=by unfold SdM.hd SdM.cells; rw [←hR]
 have:=(Sub.pick (.right .here) (.pickL (L:=s.o.H) (.right .here) (.pickL (L:=f'.H) .here (.last .all)))).perm' (H:=f'.H++(s.hd::(s.o.H++(s.wb++(s.ws.flatMap WaM.H++s.X)))))
 unfold SdM.H SdM.T
 rw [e]
 rw [List.append_nil] at this
 exact this
theorem SdM.flB {s:SdM} {f':FM} (hR:f'.R=s.f.R) {F:Nat→Option Obj} {w:World} (h:In F (f'.H++(s.hd::(s.o.H++(s.wb++(s.ws.flatMap WaM.H++s.X))))) w):In F ({ s with f:=f' }:SdM).H w:=h.perm (s.flE hR)
theorem SdM.lvP (s:SdM):Part s s.lb (s.hd::(s.o.H++(s.f.H++(s.wb++(s.ws.flatMap WaM.H++(s.ob++s.owed.flatMap (·.bb))))))):=⟨by
 unfold SdM.H SdM.T SdM.X
 exact .last (.there (.right (.right (.right (.right .here)))))⟩
theorem SdM.oqP (s:SdM):Part s s.o.H (s.hd::(s.f.H++(s.wb++(s.ws.flatMap WaM.H++s.X)))):=⟨.last (.there .here)⟩
theorem SdM.oqE {s:SdM} {o':OqM} (hR:o'.R=s.o.R):(o'.H++(s.hd::(s.f.H++(s.wb++(s.ws.flatMap WaM.H++s.X))))).Perm ({ s with o:=o' }:SdM).H:=by
 have e:({ s with o:=o' }:SdM).hd=s.hd:=by unfold SdM.hd SdM.cells; rw [←hR]
 have:=(Sub.pick (.right .here) (.pickL (L:=o'.H) .here (.last .all))).perm' (H:=o'.H++(s.hd::(s.f.H++(s.wb++(s.ws.flatMap WaM.H++s.X)))))
 unfold SdM.H SdM.T
 rw [e]
 rw [List.append_nil] at this
 exact this
theorem ws_split {l:List WaM} {i:Nat} {m:WaM} (h:l[i]? = some m):l.flatMap WaM.H=(l.take i).flatMap WaM.H++(m.hd::(m.pm.H++(l.drop (i+1)).flatMap WaM.H)):=by
 have hi:=(List.getElem?_eq_some_iff.1 h).1
 have he:=(List.getElem?_eq_some_iff.1 h).2
 have:l=l.take i++m::l.drop (i+1):=by rw [←he,←List.drop_eq_getElem_cons hi,List.take_append_drop]
 have h2:l.flatMap WaM.H=(l.take i++m::l.drop (i+1)).flatMap WaM.H:=congrArg (fun x=>List.flatMap WaM.H x) this
 rw [h2,List.flatMap_append,List.flatMap_cons]
 rfl
theorem ws_set {l:List WaM} {i:Nat} {m m':WaM} (h:l[i]? = some m):(l.set i m').flatMap WaM.H=(l.take i).flatMap WaM.H++(m'.hd::(m'.pm.H++(l.drop (i+1)).flatMap WaM.H)):=by
 have hi:=(List.getElem?_eq_some_iff.1 h).1
 rw [List.set_eq_take_append_cons_drop,if_pos hi,List.flatMap_append,List.flatMap_cons]
 rfl
def SdM.paR (s:SdM) (k:Nat) (m:WaM):HL:=s.hd::(s.o.H++(s.f.H++(s.wb++((s.ws.take k).flatMap WaM.H++(m.hd::((s.ws.drop (k+1)).flatMap WaM.H++s.X))))))
theorem SdM.split {s:SdM} {k:Nat} {m:WaM} (hk:s.ws[k]? = some m):s.H=s.hd::(s.o.H++(s.f.H++(s.wb++((s.ws.take k).flatMap WaM.H++(m.hd::(m.pm.H++((s.ws.drop (k+1)).flatMap WaM.H++s.X))))))):=by
 unfold SdM.H SdM.T
 rw [ws_split hk,List.append_assoc,List.cons_append,List.append_assoc]
def SdM.setW (s:SdM) (k:Nat) (m:WaM):SdM:={ s with ws:=s.ws.set k m }
theorem SdM.splitS {s:SdM} {k:Nat} {m:WaM} (hk:s.ws[k]? = some m) (m':WaM):(s.setW k m').H=s.hd::(s.o.H++(s.f.H++(s.wb++((s.ws.take k).flatMap WaM.H++(m'.hd::(m'.pm.H++((s.ws.drop (k+1)).flatMap WaM.H++s.X))))))):=by
 unfold SdM.H SdM.T SdM.setW
 dsimp only
 rw [ws_set hk,List.append_assoc,List.cons_append,List.append_assoc]
 rfl
theorem SdM.paP {s:SdM} {k:Nat} {m:WaM} (hk:s.ws[k]? = some m):Part s m.pm.H (s.paR k m):=⟨by
 rw [SdM.split hk]
 exact .last (.there (.right (.right (.right (.right (.there .here))))))⟩
theorem SdM.paE {s:SdM} {k:Nat} {m:WaM} (hk:s.ws[k]? = some m) {p:PaM} (hR:p.P=m.pm.P):(p.H++s.paR k m).Perm (s.setW k { m with pm:=p }).H:=by
 have e:WaM.hd { m with pm:=p }=m.hd:=by unfold WaM.hd WaM.cells; rw [←hR]
 have:=(Sub.pick (.right .here) (.pickL (L:=s.o.H) (.right .here) (.pickL (L:=s.f.H) (.right .here) (.pickL (L:=s.wb) (.right .here) (.pickL (L:=(s.ws.take k).flatMap WaM.H) (.right .here) (.pick (.right .here) (.pickL (L:=p.H) .here (.last .all)))))))).perm' (H:=p.H++s.paR k m)
 rw [SdM.splitS hk,e]
 rw [List.append_nil] at this
 exact this
theorem SdM.paB {s:SdM} {k:Nat} {m:WaM} (hk:s.ws[k]? = some m) {p:PaM} (hR:p.P=m.pm.P) {F:Nat→Option Obj} {w:World} (h:In F (p.H++s.paR k m) w):In F (s.setW k { m with pm:=p }).H w:=h.perm (SdM.paE hk hR)
theorem In.front {F:Nat→Option Obj} {w:World} {c Hr T:HL} (ps:HL) (hp:(c++Hr).Perm T) (h:In F (c++(ps++Hr)) w):In F (ps++T) w:=by
 refine h.perm ?_
 refine List.Perm.trans ?_ (List.Perm.append_left ps hp)
 rw [←List.append_assoc,←List.append_assoc]
 exact List.Perm.append_right Hr List.perm_append_comm
theorem In.front1 {F:Nat→Option Obj} {w:World} {c Hr T:HL} {p:Nat × Obj} (hp:(c++Hr).Perm T) (h:In F (c++(p::Hr)) w):In F (p::T) w:=In.front [p] hp h
theorem In.front2 {F:Nat→Option Obj} {w:World} {c Hr T:HL} {p q:Nat × Obj} (hp:(c++Hr).Perm T) (h:In F (c++(p::q::Hr)) w):In F (p::q::T) w:=In.front [p,q] hp h
theorem SdM.put {s s':SdM} {off:Nat} {vs:List Value} (hR:s'.R=s.R) (hT:s'.T=s.T) (hs:spliceK s.cells off vs some=some s'.cells):PutAt s.R off vs s.H s'.H:=by
 unfold SdM.H SdM.hd
 rw [hT,hR]
 exact .here hs
theorem SdM.wayPut {s:SdM} {k:Nat} {m m':WaM} (hk:s.ws[k]? = some m) {off:Nat} {vs:List Value} (hb:m'.b=m.b) (hp:m'.pm=m.pm) (hs:spliceK m.cells off vs some=some m'.cells):PutAt m.b off vs s.H (s.setW k m').H:=by
 rw [SdM.split hk,SdM.splitS hk m',hp]
 unfold WaM.hd
 rw [hb]
 exact .there (.right (.right (.right (.right (.here hs)))))
theorem SdM.ok.setF {n n':Nat} {s:SdM} (h:s.ok n) {f':FM} (hf:f'.ok) (hp:Snd.Ok n' { s.S with f:=f'.S }):({ s with f:=f' }:SdM).ok n':=⟨h.o,hf,h.ways,h.lives,h.owed,h.own,hp⟩
theorem SdM.ok.setO {n n':Nat} {s:SdM} (h:s.ok n) {o':OqM} (ho:o'.ok) (hp:Snd.Ok n' { s.S with q:=o'.S }):({ s with o:=o' }:SdM).ok n':=⟨ho,h.f,h.ways,h.lives,h.owed,h.own,hp⟩
theorem SdM.setW_S (s:SdM) (k:Nat) (m:WaM):(s.setW k m).S={ s.S with ws:=s.S.ws.set k m.W }:=by unfold SdM.setW SdM.S; dsimp only; rw [List.map_set]
theorem SdM.ok.setW {n:Nat} {s:SdM} (h:s.ok n) {k:Nat} {m m':WaM} (hk:s.ws[k]? = some m) (hb:m'.b=m.b) (hw:m'.W.Ok):(s.setW k m').ok n:=by
 refine ⟨h.o,h.f,?_,h.lives,h.owed,h.own,?_⟩
 · have e:(s.ws.set k m').map (fun m=>ptr m.b)=s.ws.map (fun m=>ptr m.b):=by
    rw [List.map_set,hb]
    refine List.ext_getElem? (fun j=>?_)
    by_cases hj:k=j
    · subst hj
      have hi:=(List.getElem?_eq_some_iff.1 hk).1
      rw [List.getElem?_set_self (by simpa using hi),List.getElem?_map,hk]
      rfl
    · rw [List.getElem?_set_ne hj]
   show OwnS _ 1 ((s.ws.set k m').map (fun m=>ptr m.b)) _ _
   rw [e]
   exact h.ways
 · rw [SdM.setW_S]
   exact Snd.setW_ok h.pl k hw
theorem SdM.setW_setW (s:SdM) (k:Nat) (m m':WaM):(s.setW k m).setW k m'=s.setW k m':=by unfold SdM.setW; dsimp only; rw [List.set_set]
theorem SdM.setW_get {s:SdM} {k:Nat} {m:WaM} (hk:s.ws[k]? = some m) (m':WaM):(s.setW k m').ws[k]? = some m':=List.getElem?_set_self (List.getElem?_eq_some_iff.1 hk).1
theorem SdM.hdSub (s:SdM):[s.hd].Sublist s.H:=.cons_cons _ (List.nil_sublist _)
theorem SdM.hdCan {F:Nat→Option Obj} (s:SdM):Sl.Can F [s.hd] s.R 0 s.cells:=Can.cut (n:=12) (.here rfl)
attribute [irreducible] SdM.H
end Go.Proofs.YtlfpemmdehmbfaaGreat
namespace Go.Proofs.YtlfpemmdehmbfaaGreat
open Go Go.Sl Go.Pth
theorem clock_tr (F:Nat→Option Obj) (now:Int):Tr Tryz.prog 61 [.int .i64 now].toArray F [] (fun v H=>v=.int .i64 (Snd.clock now)∧H=[]):=by
 refine Tr.enter Tryz.func61 rfl Tryz.ntmps61 rfl (fun w0=>?_)
 refine SPU ?_; repeat' (first|refine ⟨fun hc=>?_,fun hc=>?_⟩|intro)
 simp only [Go.Pth.go_mx,Go.Pth.go_mn]
 exact Fin.retW (by exact rfl) resA (fun _ h=>h) ⟨rfl,rfl⟩
theorem round_tr (F:Nat→Option Obj) (n:Int) (hn:0≤n∧n≤1000000):Tr Tryz.prog 183 [.int .i64 n].toArray F [] (fun v H=>v=.int .i64 ((n+3) / 4 * 4)∧H=[]):=by
 refine Tr.enter Tryz.func183 rfl Tryz.ntmps183 rfl (fun w0=>?_)
 refine SPU ?_; repeat' (first|refine ⟨fun hc=>?_,fun hc=>?_⟩|intro)
 · exfalso; have:=of_decide_eq_true hc; omega
 · exfalso; have:=of_decide_eq_true hc; omega
 · refine WL.p rfl (Pu.andNot rfl rfl) ?_
   rw [i64_id (n:=n+3) (by omega) (by omega),strike3 (by omega)]
   refine SPU ?_; repeat' (first|refine ⟨fun hc=>?_,fun hc=>?_⟩|intro)
   exact Fin.retW (by exact rfl) resA (fun _ h=>h) ⟨rfl,rfl⟩
theorem need_tr (F:Nat→Option Obj) (n:Nat) (hn:n≤1000000):Tr Tryz.prog 132 [.int .i64 n].toArray F [] (fun v H=>v=.int .i64 (Snd.need n)∧H=[]):=by
 refine Tr.enter Tryz.func132 rfl Tryz.ntmps132 rfl (fun w0=>?_)
 refine SPU ?_; repeat' (first|refine ⟨fun hc=>?_,fun hc=>?_⟩|intro)
 refine WL.e rfl (Ef.callR (by exact rfl) (.nil _) (round_tr _ n (by omega))) ?_
 rintro _ _ ⟨rfl,rfl⟩
 refine SPU ?_; repeat' (first|refine ⟨fun hc=>?_,fun hc=>?_⟩|intro)
 rw [i64_id (n:=16+((n:Int)+3) / 4 * 4) (by omega) (by omega)]
 exact Fin.retW (by exact rfl) resA (fun _ h=>h) ⟨rfl,rfl⟩
theorem SdM.ok.wrow {n:Nat} {s:SdM} (h:s.ok n):∃ b off,s.wa=some ⟨b,off,none⟩∧∀ (F:Nat→Option Obj) (k:Nat) m,s.ws[k]? = some m→Sl.Can F s.H b (off+(k:Int).toNat * 1) [ptr m.b]:=by
 have h1:=h.nws
 obtain ⟨m0,hm0⟩:∃ m,s.ws[0]? = some m:=⟨s.ws[0],List.getElem?_eq_getElem (by omega)⟩
 obtain ⟨b,off,ha,_,_⟩:=SdM.wayPtr h hm0
 refine ⟨b,off,ha,fun F k m hk=>?_⟩
 obtain ⟨b',off',ha',_,hc⟩:=SdM.wayPtr h hk
 rw [ha] at ha'
 cases ha'
 exact hc F
theorem SdM.wayAt {n:Nat} {s:SdM} (h:s.ok n) {k:Nat} (hk:k < s.ws.length):∃ m,s.ws[k]? = some m∧s.S.ws[k]? = some m.W∧(0≤(k:Int)∧(k:Int) < s.wn):=by
 have h1:=h.wn
 exact ⟨s.ws[k],List.getElem?_eq_getElem hk,by unfold SdM.S; dsimp only; rw [List.getElem?_map,List.getElem?_eq_getElem hk]; rfl,by omega⟩
theorem SdM.ok.out {n:Nat} {s:SdM} (h:s.ok n) (k:Int):Flt.out s.f.S k≤3072000:=h.pl.f.small _
theorem piece_tr (F:Nat→Option Obj) {n:Nat} (s:SdM) (hs:s.ok n):Tr Tryz.prog 135 [ptr s.R].toArray F s.H (fun v H=>v=.int .i64 (Snd.piece s.S)∧H=s.H):=by
 refine Tr.enter Tryz.func135 rfl Tryz.ntmps135 rfl (fun w0=>?_)
 obtain ⟨c0,c1,c2,c3,c4,c5,c6,c7,c8,c9,c10,c11⟩:=s.cans (F:=F)
 have hm:=hs.pl.mtu
 have em:s.S.mtu=s.mtu:=rfl
 rw [em] at hm
 refine SPX ?_; repeat' (first|refine ⟨fun hc=>?_,fun hc=>?_⟩|intro)
 refine WD.e rfl (Ef.callR (by exact rfl) s.oqP.sub (osize_tr _ s.o hs.o)) ?_
 rintro _ _ ⟨rfl,rfl⟩
 refine ⟨.inr (fun _ h=>h),?_⟩
 refine SPX ?_; repeat' (first|refine ⟨fun hc=>?_,fun hc=>?_⟩|intro)
 simp (disch:=omega) only [i64_id,Int.tdiv_eq_ediv_of_nonneg,Go.Pth.go_mx,Go.Pth.go_mn]
 exact Fin.retW (by exact rfl) resA (fun _ h=>h) ⟨rfl,rfl⟩
theorem may_tr (F:Nat→Option Obj) {n:Nat} (s:SdM) (hs:s.ok n) (k:Nat) (hk:k < s.ws.length):Tr Tryz.prog 67 [ptr s.R,.int .i64 k].toArray F s.H (fun v H=>v=.bool (Snd.mayW s.S k)∧H=s.H):=by
 refine Tr.enter Tryz.func67 rfl Tryz.ntmps67 rfl (fun w0=>?_)
 obtain ⟨c0,c1,c2,c3,c4,c5,c6,c7,c8,c9,c10,c11⟩:=s.cans (F:=F)
 obtain ⟨b,off,hwa,hel⟩:=hs.wrow
 obtain ⟨m,hm,hmS,hkn⟩:=SdM.wayAt hs hk
 have hcan:=hel F k m hm
 obtain ⟨d0,d1,d2,d3⟩:=SdM.wayCans (F:=F) hm
 rw [hwa] at c2
 refine SPX ?_; repeat' (first|refine ⟨fun hc=>?_,fun hc=>?_⟩|intro)
 refine WD.e rfl (Ef.callR (by exact rfl) s.flP.sub (out_tr _ s.f hs.f hs.small k)) ?_
 rintro _ _ ⟨rfl,rfl⟩
 refine ⟨.inr (fun _ h=>h),?_⟩
 refine SPX ?_; repeat' (first|refine ⟨fun hc=>?_,fun hc=>?_⟩|intro)
 refine WD.e rfl (Ef.callR (by exact rfl) (SdM.paP hm).sub (size_tr _ m.pm)) ?_
 rintro _ _ ⟨rfl,rfl⟩
 refine ⟨.inr (fun _ h=>h),?_⟩
 refine SPX ?_; repeat' (first|refine ⟨fun hc=>?_,fun hc=>?_⟩|intro)
 refine Fin.retW (by exact rfl) resA (fun _ h=>h) ⟨?_,rfl⟩
 unfold Snd.mayW Snd.sizeW
 rw [hmS]
 rfl
structure GK where
 i:Nat
theorem saway_tr (F:Nat→Option Obj) {n:Nat} (s:SdM) (hs:s.ok n):Tr Tryz.prog 136 [ptr s.R].toArray F s.H (fun v H=>v=.int .i64 (Snd.away s.S)∧H=s.H):=by
 refine Tr.enter Tryz.func136 rfl Tryz.ntmps136 rfl (fun w0=>?_)
 obtain ⟨c0,c1,c2,c3,c4,c5,c6,c7,c8,c9,c10,c11⟩:=s.cans (F:=F)
 have hwn:=hs.wn
 have hnws:=hs.nws
 refine SPX ?_; repeat' (first|refine ⟨fun hc=>?_,fun hc=>?_⟩|intro)
 refine W.loop (G:=GK) (fun g=>[(0,ptr s.R),(9,.int .i64 s.wn),(10,.int .i64 g.i),(3,.int .i64 (((List.range g.i).map (fun k:Nat=>Flt.out s.f.S k)).sum:Nat))]) (fun _=>s.H) (fun g=>g.i≤s.wn) (fun g=>s.wn - g.i) ⟨0⟩ (Nat.zero_le _) envA (fun _ h=>h) ?_
 rintro ⟨i⟩ hi
 dsimp only at hi ⊢
 refine SPX ?_; repeat' (first|refine ⟨fun hc=>?_,fun hc=>?_⟩|intro)
 · have hi':i < s.wn:=by have:=of_decide_eq_true hc; omega
   refine WL.e rfl (Ef.callR (by exact rfl) s.flP.sub (out_tr _ s.f hs.f hs.small i)) ?_
   rintro _ _ ⟨rfl,rfl⟩
   have h1:=hs.out i
   have h2:=Snd.sum_le (g:=fun k:Nat=>Flt.out s.f.S k) (b:=3072000) (l:=List.range i) (fun k _=>hs.out k)
   rw [List.length_range] at h2
   have e1:((List.range (i+1)).map (fun k:Nat=>Flt.out s.f.S k)).sum=((List.range i).map (fun k:Nat=>Flt.out s.f.S k)).sum+Flt.out s.f.S i:=by rw [List.range_succ,List.map_append,List.sum_append]; simp
   refine SPX ?_; repeat' (first|refine ⟨fun hc=>?_,fun hc=>?_⟩|intro)
   rw [i64_succ (by omega),i64_id (n:=((((List.range i).map (fun k:Nat=>Flt.out s.f.S k)).sum:Nat):Int)+(Flt.out s.f.S i:Int)) (by omega) (by omega)]
   exact Fin.round ⟨i+1⟩ hi' (by dsimp only; rw [e1]; push_cast; exact envA) (fun _ h=>h) (by dsimp only; omega)
 · have hi':i=s.ws.length:=by have:=of_decide_eq_false hc; omega
   subst hi'
   refine Fin.retW (by exact rfl) resA (fun _ h=>h) ⟨?_,rfl⟩
   unfold Snd.away
   rw [show s.S.ws.length=s.ws.length by simp [SdM.S]]
   rfl
theorem find_first {p:Nat→Bool} {n i:Nat} (hi:i < n) (hp:p i=true) (hno:∀ j,j < i→p j=false):(List.range n).find? p=some i:=by
 rw [List.find?_range_eq_some]
 exact ⟨hp,by simpa using hi,fun j hj=>by rw [hno j hj]; rfl⟩
theorem find_none {p:Nat→Bool} {n:Nat} (hno:∀ j,j < n→p j=false):(List.range n).find? p=none:=by
 rw [List.find?_eq_none]
 intro j hj
 rw [hno j (by simpa using hj)]
 simp
theorem snext_tr (F:Nat→Option Obj) {n:Nat} (s:SdM) (hs:s.ok n) (k:Nat) (hk:k≤1000):Tr Tryz.prog 85 [ptr s.R,.int .i64 k].toArray F s.H (fun v H=>v=.int .i64 (Snd.nextW s.S k)∧H=s.H):=by
 refine Tr.enter Tryz.func85 rfl Tryz.ntmps85 rfl (fun w0=>?_)
 obtain ⟨c0,c1,c2,c3,c4,c5,c6,c7,c8,c9,c10,c11⟩:=s.cans (F:=F)
 obtain ⟨b,off,hwa,hel⟩:=hs.wrow
 have hwn:=hs.wn
 have hnws:=hs.nws
 have hlen:s.S.ws.length=s.ws.length:=by simp [SdM.S]
 rw [hwa] at c2
 refine SPX ?_; repeat' (first|refine ⟨fun hc=>?_,fun hc=>?_⟩|intro)
 refine W.loop (G:=GK) (fun g=>[(0,ptr s.R),(1,.int .i64 k),(5,.int .i64 s.wn),(13,.int .i64 s.wn),(14,.int .i64 g.i)]) (fun _=>s.H) (fun g=>g.i≤s.wn∧∀ j,j < g.i→Snd.activeW s.S (Snd.turn s.ws.length k j)=false) (fun g=>s.wn - g.i) ⟨0⟩ ⟨Nat.zero_le _,fun j hj=>absurd hj (Nat.not_lt_zero _)⟩ envA (fun _ h=>h) ?_
 rintro ⟨i⟩ ⟨hi,hno⟩
 dsimp only at hi hno ⊢
 have hn0:(s.wn:Int)≠0:=by omega
 refine SPX ?_; repeat' (first|refine ⟨fun hc=>?_,fun hc=>?_⟩|intro)
 · have hi':i < s.wn:=by have:=of_decide_eq_true hc; omega
   refine WL.p rfl (Pu.rem rfl rfl hn0) ?_
   rw [i64_succ (by omega),i64_id (n:=((k+1:Nat):Int)+(i:Int)) (by omega) (by omega)]
   have e1:(((k+1:Nat):Int)+(i:Int)).tmod s.wn=((Snd.turn s.ws.length k i:Nat):Int):=by
    rw [Int.tmod_eq_emod_of_nonneg (by omega),hwn]
    unfold Snd.turn
    push_cast
    rfl
   rw [e1]
   have hq:Snd.turn s.ws.length k i < s.ws.length:=Nat.mod_lt _ (by omega)
   obtain ⟨q,hqe⟩:∃ q,Snd.turn s.ws.length k i=q:=⟨_,rfl⟩
   rw [hqe] at hq ⊢
   obtain ⟨m,hm,hmS,hkn⟩:=SdM.wayAt hs hq
   have hcan:=hel F q m hm
   obtain ⟨d0,d1,d2,d3⟩:=SdM.wayCans (F:=F) hm
   have hact:Snd.activeW s.S q=Pth.active m.pm.s:=by unfold Snd.activeW; rw [hmS]; rfl
   refine SPX ?_; repeat' (first|refine ⟨fun hc=>?_,fun hc=>?_⟩|intro)
   refine WL.e rfl (Ef.callR (by exact rfl) (SdM.paP hm).sub (active_tr _ m.pm)) ?_
   rintro _ _ ⟨rfl,rfl⟩
   refine SPX ?_; repeat' (first|refine ⟨fun hc=>?_,fun hc=>?_⟩|intro)
   · refine Fin.retW (by exact rfl) resA (fun _ h=>h) ⟨?_,rfl⟩
     unfold Snd.nextW
     rw [hlen,find_first (i:=i) (by omega) (by rw [hqe,hact]; exact hc) hno]
     dsimp only
     rw [hqe]
     rfl
   · rw [i64_succ (by omega)]
     refine Fin.round ⟨i+1⟩ ⟨hi',fun j hj=>?_⟩ envA (fun _ h=>h) (by dsimp only; omega)
     dsimp only at hj
     by_cases hji:j < i
     · exact hno j hji
     · rw [show j=i by omega,hqe,hact]
       exact hc
 · have hi':i=s.ws.length:=by have:=of_decide_eq_false hc; omega
   subst hi'
   refine WL.p rfl (Pu.rem rfl rfl hn0) ?_
   rw [i64_succ (by omega)]
   have e1:((k+1:Nat):Int).tmod s.wn=(((k+1) % s.ws.length:Nat):Int):=by
    rw [Int.tmod_eq_emod_of_nonneg (by omega),hwn]
    push_cast
    rfl
   rw [e1]
   refine SPX ?_; repeat' (first|refine ⟨fun hc=>?_,fun hc=>?_⟩|intro)
   refine Fin.retW (by exact rfl) resA (fun _ h=>h) ⟨?_,rfl⟩
   unfold Snd.nextW
   rw [hlen,find_none hno]
   rfl
theorem beq_nat (n:Nat):((n:Int) == 0)=decide (n=0):=by
 by_cases h:n=0
 · simp [h]
 · simp [h]
theorem sempty_tr (F:Nat→Option Obj) {n:Nat} (s:SdM) (hs:s.ok n):Tr Tryz.prog 12 [ptr s.R].toArray F s.H (fun v H=>v=.bool (Snd.empty s.S)∧H=s.H):=by
 refine Tr.enter Tryz.func12 rfl Tryz.ntmps12 rfl (fun w0=>?_)
 obtain ⟨c0,c1,c2,c3,c4,c5,c6,c7,c8,c9,c10,c11⟩:=s.cans (F:=F)
 have hon:s.owed.length=s.on_:=by have:=OwnS.len hs.owed; rw [flat_len' OwM.cells 8 OwM.clen] at this; omega
 have hfl:=hs.f.len
 have e:Snd.empty s.S=(decide (Oq.waiting s.o.S=0) && (decide (s.on_=0) && decide (s.f.sn=0))):=by
  unfold Snd.empty SdM.S FM.S
  dsimp only
  rw [←hon,←hfl]
  congr 1
  congr 1
  · simp
  · simp
 rw [e]
 refine SPX ?_; repeat' (first|refine ⟨fun hc=>?_,fun hc=>?_⟩|intro)
 refine WL.e rfl (Ef.callR (by exact rfl) s.oqP.sub (owait_tr _ s.o hs.o)) ?_
 rintro _ _ ⟨rfl,rfl⟩
 refine SPX ?_; repeat' (first|refine ⟨fun hc=>?_,fun hc=>?_⟩|intro)
 · refine WL.e rfl (Ef.callR (by exact rfl) s.flP.sub (count_tr _ s.f)) ?_
   rintro _ _ ⟨rfl,rfl⟩
   refine SPX ?_; repeat' (first|refine ⟨fun hc=>?_,fun hc=>?_⟩|intro)
   refine Fin.retW (by exact rfl) resA (fun _ h=>h) ⟨?_,rfl⟩
   have h1:=beq_iff_eq.1 ‹((Oq.waiting s.o.S:Int) == 0)=true›
   have h2:=beq_iff_eq.1 ‹((s.on_:Int) == 0)=true›
   rw [decide_eq_true (show Oq.waiting s.o.S=0 by omega),decide_eq_true (show s.on_=0 by omega),beq_nat]
   rfl
 · refine Fin.retW (by exact rfl) resA (fun _ h=>h) ⟨?_,rfl⟩
   have h2:=beq_eq_false_iff_ne.1 hc
   rw [decide_eq_false (show ¬ s.on_=0 by omega),Bool.false_and,Bool.and_false]
   rfl
 · refine Fin.retW (by exact rfl) resA (fun _ h=>h) ⟨?_,rfl⟩
   have h2:=beq_eq_false_iff_ne.1 hc
   rw [decide_eq_false (show ¬ Oq.waiting s.o.S=0 by omega),Bool.false_and]
   rfl
theorem sroom_tr (F:Nat→Option Obj) (s:SdM):Tr Tryz.prog 14 [ptr s.R].toArray F s.H (fun v H=>v=.int .i64 s.S.room∧H=s.H):=by
 refine Tr.enter Tryz.func14 rfl Tryz.ntmps14 rfl (fun w0=>?_)
 obtain ⟨c0,c1,c2,c3,c4,c5,c6,c7,c8,c9,c10,c11⟩:=s.cans (F:=F)
 refine SPX ?_; repeat' (first|refine ⟨fun hc=>?_,fun hc=>?_⟩|intro)
 exact Fin.retW (by exact rfl) resA (fun _ h=>h) ⟨rfl,rfl⟩
theorem srun_tr (F:Nat→Option Obj) {n:Nat} (s:SdM) (hs:s.ok n) (k:Nat) (hk:k < s.ws.length) (now:Int):Tr Tryz.prog 64 [ptr s.R,.int .i64 k,.int .i64 now].toArray F s.H (fun v H=>v=.tuple #[]∧∃ s':SdM,s'.ok n∧H=s'.H∧s'.R=s.R∧s'.S=Snd.run s.S k now):=by
 refine Tr.enter Tryz.func64 rfl Tryz.ntmps64 rfl (fun w0=>?_)
 obtain ⟨c0,c1,c2,c3,c4,c5,c6,c7,c8,c9,c10,c11⟩:=s.cans (F:=F)
 obtain ⟨b,off,hwa,hel⟩:=hs.wrow
 obtain ⟨m,hm,hmS,hkn⟩:=SdM.wayAt hs hk
 have hcan:=hel F k m hm
 obtain ⟨d0,d1,d2,d3⟩:=SdM.wayCans (F:=F) hm
 have hv:=(hs.way hm).value
 have hcl:=Snd.clock_rng now
 dsimp only [WaM.W] at hv
 rw [hwa] at c2
 refine SPX ?_; repeat' (first|refine ⟨fun hc=>?_,fun hc=>?_⟩|intro)
 · refine WD.e rfl (Ef.callR (by exact rfl) (.nil _) (clock_tr _ now)) ?_
   rintro _ _ ⟨rfl,rfl⟩
   refine ⟨.inr (fun _ h=>h),?_⟩
   refine SPX ?_; repeat' (first|refine ⟨fun hc=>?_,fun hc=>?_⟩|intro)
   refine WD.e rfl (Ef.callR (by exact rfl) (SdM.paP hm).sub (rto_tr _ m.pm)) ?_
   rintro _ _ ⟨rfl,rfl⟩
   refine ⟨.inr (fun _ h=>h),?_⟩
   refine SPX ?_; repeat' (first|refine ⟨fun hc=>?_,fun hc=>?_⟩|intro)
   rw [i64_id (n:=Snd.clock now+m.pm.s.r.value) (by omega) (by omega)]
   refine WD.e0 (Ef.st rfl rfl rfl (SdM.wayPut (m':={ m with timer:=Snd.clock now+m.pm.s.r.value }) hm rfl rfl (off:=0+1) rfl)) ?_
   rintro _ _ ⟨rfl,rfl⟩
   refine ⟨.inl (by kernel_rfl),?_⟩
   refine SPX ?_; repeat' (first|refine ⟨fun hc=>?_,fun hc=>?_⟩|intro)
   have ht:m.timer=-1:=by simpa using hc
   have ew:WaM.W { m with timer:=Snd.clock now+m.pm.s.r.value }=Snd.runW (Snd.clock now) m.W:=by unfold Snd.runW WaM.W; dsimp only; rw [if_pos ht]
   refine Fin.endW (by exact rfl) resA (fun _ h=>h) ⟨rfl,s.setW k { m with timer:=Snd.clock now+m.pm.s.r.value },hs.setW hm rfl (by rw [ew]; exact Snd.runW_ok (hs.way hm) (Snd.clock_at now)),rfl,rfl,?_⟩
   rw [SdM.setW_S,ew]
   unfold Snd.run
   rw [hmS]
 · have ht:¬ m.timer=-1:=by simpa using hc
   refine Fin.endW (by exact rfl) resA (fun _ h=>h) ⟨rfl,s,hs,rfl,rfl,?_⟩
   unfold Snd.run
   rw [hmS]
   dsimp only
   have ew:Snd.runW (Snd.clock now) m.W=m.W:=by unfold Snd.runW; exact if_neg ht
   rw [ew]
   have el:s.S.ws.set k m.W=s.S.ws:=by
    have h0:=(List.getElem?_eq_some_iff.1 hmS)
    obtain ⟨hlt,he⟩:=h0
    rw [←he]
    exact List.set_getElem_self hlt
   rw [el]
end Go.Proofs.YtlfpemmdehmbfaaGreat
