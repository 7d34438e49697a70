/- Some texts as one. The law's 'does' with a sender, walked. Conditions: it is well formed; what the thing done is in memory. The law's 'meant' with the document's sender, walked. Conditions: it is well formed; what the thing done is in memory. The law's comparing of what two senders tell, walked: it is found the same where the plain is. Conditions: it can be read. What is told is short, in plain Lean. No conditions: laws only. From a row's reading of an argument to what can be read in memory: the shapes of arguments (whole numbers, bools, strings, slices, structs), and what a reading of such a shape tells. No conditions: laws only. -/
import Derived.Test.YtlfpemmdehmbfaaGreatBuD
import Derived.Test.YtlfpemmdehmbfaaGreatBuX
import Derived.Test.YtlfpemmdehmbfaaGreatBuT
import Derived.Test.YtlfpemmdehmbfaaGreatBuQ
import Derived.Test.YtlfpemmdehmbfaaGreatBuU
import Derived.Test.YtlfpemmdehmbfaaGreatBuW
import Derived.Test.YtlfpemmdehmbfaaGreatBuR
import Derived.Laws.StructEq
import Derived.Test.YtlfpemmdehmbfaaGreatBuK
import Derived.Test.YtlfpemmdehmbfaaGreatBuC
import Derived.Deep.Slices
import Derived.ChangeArms
import Derived.OpenShut
namespace Go.Proofs.YtlfpemmdehmbfaaGreat
open Go Go.Sl Go.Pth
def Ov.dg (o:Ov) (bs:List UInt8) (gs:List (Nat × Nat)):Snd.Dg:=⟨o.kind,o.stream,o.ord,bs,o.life,o.by_,gs,o.rwnd,o.path⟩
structure ToM where
 o:OuM
 fa:Option Addr
 fn:Nat
 fc:Nat
 fb:HL
 ka:Option Addr
 kn:Nat
 kc:Nat
 kb:HL
def ToM.none:ToM:=⟨⟨[],.none,0,0,[]⟩,.none,0,0,[],.none,0,0,[]⟩
def ToM.cells (t:ToM) (d:Snd.Dn):List Value:=toldV d.e d.a d.b (.slice t.o.sa t.o.sn t.o.sc) d.fc (.slice t.fa t.fn t.fc) d.is_ (.slice t.ka t.kn t.kc)
def ToM.H (t:ToM):HL:=t.o.hb++(t.o.bb++(t.fb++t.kb))
structure ToM.ok (t:ToM) (d:Snd.Dn):Prop where
 o:t.o.ok
 l:t.o.L=d.l
 f:OwnS 239 2 (d.fs.flatMap skC) (.slice t.fa t.fn t.fc) t.fb
 k:OwnS 3 1 (d.k.map intC) (.slice t.ka t.kn t.kc) t.kb
theorem ToM.none_ok {d:Snd.Dn} (h1:d.l=[]) (h2:d.fs=[]) (h3:d.k=[]):ToM.none.ok d:=⟨⟨.inl ⟨rfl,rfl,rfl⟩,fun _ h=>by cases h⟩,h1.symm,by rw [h2]; exact .inl ⟨rfl,rfl,rfl⟩,by rw [h3]; exact .inl ⟨rfl,rfl,rfl⟩⟩
def DoesQ (n:Nat) (s:SdM) (d:Snd.Dn) (v:Value) (H:HL):Prop:=∃ (t:ToM) (s':SdM),t.ok d∧s'.ok (n+1)∧s'.R=s.R∧s'.S=d.s∧v=.agg (t.cells d).toArray∧H=t.H++s'.H
theorem SdM.ok.up {n m:Nat} {s:SdM} (h:s.ok n) (hm:n≤m):s.ok m:=⟨h.o,h.f,h.ways,h.lives,h.owed,h.own,h.pl.up hm⟩
structure GDn where
 i:Nat
 M:List DM
 la:Option Addr
 ln:Nat
 lc:Nat
 lb:HL
theorem perm5 {α:Type} (A B P M R:List α):(A++(B++(P++(M++R)))).Perm (P++(A++((M++B)++R))):=by
 classical
 exact List.perm_iff_count.2 (fun a=>by simp only [List.count_append]; omega)
structure GBy where
 i:Nat
 xs:List Value
 hb:HL
set_option maxHeartbeats 8000000 in
theorem does_tr (F:Nat→Option Obj) {n:Nat} (s:SdM) (hs:s.ok n) (hn:n < 900000) (o:Ov) (bs:List UInt8) (gs:List (Nat × Nat)) (ho:o.Is F bs gs) (cum now:Int) (hnow:now≤9223372036854775807) (hb:bs.length≤1000000000) (hg:gs.length≤1000) :
 Tr Tryz.prog 10 [ptr s.R,.agg o.cells.toArray,.int .u32 cum,.int .i64 now].toArray F s.H (DoesQ n s (Snd.did s.S (o.dg bs gs) cum now)):=by
 refine Tr.enter Tryz.func10 rfl Tryz.ntmps10 rfl (fun w0=>?_)
 have hok:=Snd.did_ok hs.pl (o.dg bs gs) ho.stream.1 cum now
 unfold Ov.cells
 refine SPQ ?_; repeat' (first|refine ⟨fun hc=>?_,fun hc=>?_⟩|intro)
 cases h0:(o.kind == 0) with
 | true=>
   have hk:o.kind=0:=by simpa using h0
   have hd:Snd.did s.S (o.dg bs gs) cum now={ Snd.Dn.of (Snd.put s.S o.stream o.ord bs o.life now) with e:=Snd.putE s.S o.stream bs.length o.life now }:=by unfold Snd.did; exact if_pos hk
   rw [hd]
   refine SPX ?_; repeat' (first|refine ⟨fun hc=>?_,fun hc=>?_⟩|intro)
   rename_i b1 b2 b3 b4 b5
   have hbn:=ho.bn
   refine WL.e rfl (Ef.app (m:=bs.length) (news:=bs.map B) (hb:=[(b5,.cells ([]:List Value).toArray 5 (0,0))]) (by exact rfl) (by exact rfl) rfl rfl (OwnS.empty _ _ b5) (.one [_] _) (by rw [←hbn]; exact (ho.bytes.src).mono (fun _ h=>h.sublist (List.nil_sublist _))) (by simp) (B_one bs) (by simp; omega) (by simp [maxLen]; omega)) ?_
   rintro v' _ ⟨hb',hown,rfl⟩
   rw [List.nil_append] at hown
   obtain ⟨ta,tn,tc,rfl,_,_⟩:=OwnS.shape hown
   have htn:tn=bs.length:=by have:=hown.len; simp at this; omega
   refine SPX ?_; repeat' (first|refine ⟨fun hc=>?_,fun hc=>?_⟩|intro)
   refine WL.e rfl (Ef.callW (c:=s.H) (by exact rfl) (.skipL hb' (.skip _ (.skip _ (.skip _ (.skip _ (.all _)))))) (fun F' hF=>sput_tr F' s hs (by omega) o.stream ho.stream o.ord bs ta tn tc ((Lst.own (F:=F) (H:=hb') hown (fun _ h=>h)).mono (fun w h=>(hF w h).left)) o.life now)) ?_
   rintro _ _ ⟨_,⟨rfl,s',hs',rfl,hR',hS'⟩,rfl⟩
   refine SPX ?_; repeat' (first|refine ⟨fun hc=>?_,fun hc=>?_⟩|intro)
   refine W.loop (G:=GBy) (fun g=>[(8,ptr b2),(9,ptr b3),(10,ptr b4),(11,.int .i64 g.i)])
    (fun g=>g.hb++((b4,.cells [.int .u16 o.stream,.bool o.ord,.slice ta tn tc].toArray 38 (0,0))::(b3,.cells (toldV (Snd.putE s.S o.stream bs.length o.life now) 0 0 nilS 0 nilS false nilS).toArray 60 (0,0))::(b2,.cells (toldV 0 0 0 nilS 0 nilS false nilS).toArray 60 (0,0))::s'.H))
    (fun g=>g.i≤tn∧OwnS 5 1 g.xs (.slice ta tn tc) g.hb) (fun g=>tn - g.i) ⟨0,_,hb'⟩ ⟨Nat.zero_le _,hown⟩ envA (fun _ h=>In.of_sub (.pickL (L:=hb') (.right .here) (.pick (.right .here) (.pick (.right .here) (.pick (.right .here) (.last .here))))) h) ?_
   rintro ⟨i,xs,hb⟩ ⟨hi,hx⟩
   dsimp only at hi hx ⊢
   unfold toldV nilS
   refine SPX ?_; repeat' (first|refine ⟨fun hc=>?_,fun hc=>?_⟩|intro)
   · have hi':i < tn:=by simp at hc; omega
     obtain ⟨q,oo,rfl⟩:=hx.addr (by omega)
     have hia:0≤(i:Int)∧(i:Int) < tn:=by omega
     obtain ⟨hb',hx',hput⟩:=hx.put i [.int .u8 85] (by have:=hx.len; simp at this ⊢; omega)
     refine SPX ?_; repeat' (first|refine ⟨fun hc=>?_,fun hc=>?_⟩|intro)
     refine WL.e0 (Ef.st rfl rfl rfl (PutAt.left (by simpa using hput))) ?_
     rintro _ _ ⟨rfl,rfl⟩
     refine SPX ?_; repeat' (first|refine ⟨fun hc=>?_,fun hc=>?_⟩|intro)
     rw [i64_succ (by omega)]
     exact Fin.round ⟨i+1,_,hb'⟩ ⟨hi',hx'⟩ envA (fun _ h=>h) (by dsimp only; omega)
   · exact Fin.retW (by exact rfl) resA (H':=ToM.none.H++s'.H) (fun _ h=>In.of_sub (.last (.right (.there (.there (.there .all))))) h) ⟨ToM.none,s',ToM.none_ok rfl rfl rfl,hs',hR',hS',rfl,rfl⟩
 | false=>
 have k0:¬ o.kind=0:=by simpa using h0
 refine SPQ ?_; repeat' (first|refine ⟨fun hc=>?_,fun hc=>?_⟩|intro)
 cases h1:(o.kind == 1) with
 | true=>
   have hk:o.kind=1:=by simpa using h1
   have hd:Snd.did s.S (o.dg bs gs) cum now=(match Snd.sack s.S (Spn.u32 (cum+o.by_)) o.rwnd gs now with | none=>{ Snd.Dn.of s.S with e:=1 } | some s'=>Snd.Dn.of s'):=by unfold Snd.did; exact (if_neg k0).trans (if_pos hk)
   rw [hd]
   refine SPX ?_; repeat' (first|refine ⟨fun hc=>?_,fun hc=>?_⟩|intro)
   rename_i b1 b2 b3 b4
   have hkn:=ho.kn
   refine WD.e rfl (Ef.app (m:=gs.length) (news:=gs.flatMap gC) (hb:=[(b4,.cells ([]:List Value).toArray 257 (0,0))]) (by exact rfl) (by exact rfl) rfl rfl (OwnS.empty _ _ b4) (.one [_] _) (by rw [←hkn]; exact (ho.gaps.src).mono (fun _ h=>h.sublist (List.nil_sublist _))) (by rw [flat_len' gC 2 gC_len]) (gC_one gs) (by rw [flat_len' gC 2 gC_len]; simp; omega) (by rw [flat_len' gC 2 gC_len]; simp [maxLen]; omega)) ?_
   rintro v' _ ⟨hb',hown,rfl⟩
   rw [List.nil_append] at hown
   obtain ⟨ta,tn,tc,rfl,_,_⟩:=OwnS.shape hown
   refine ⟨.inr (fun _ h=>h.right),?_⟩
   refine SPX ?_; repeat' (first|refine ⟨fun hc=>?_,fun hc=>?_⟩|intro)
   refine WD.e rfl (Ef.callW (c:=s.H) (by exact rfl) (.skipL hb' (.skip _ (.skip _ (.skip _ (.all _))))) (fun F' hF=>ssack_tr F' s hs (Spn.u32 (cum+o.by_)) o.rwnd (Flt.u32_mod _) ho.rwnd.1 gs ta tn tc ((Lst.own (F:=F) (H:=hb') hown (fun _ h=>h)).mono (fun w h=>(hF w h).left)) ho.gs16 hg none 0 0 now)) ?_
   rintro _ _ ⟨H1,hq,rfl⟩
   refine ⟨.inl (by kernel_rfl),?_⟩
   cases hsk:Snd.sack s.S (Spn.u32 (cum+o.by_)) o.rwnd gs now with
   | none=>
     rw [hsk] at hq
     obtain ⟨rfl,rfl⟩:=hq
     refine SPX ?_; repeat' (first|refine ⟨fun hc=>?_,fun hc=>?_⟩|intro)
     exact Fin.retW (by exact rfl) resA (H':=ToM.none.H++s.H) (fun _ h=>h.left) ⟨ToM.none,s,ToM.none_ok rfl rfl rfl,hs.up (Nat.le_succ n),rfl,rfl,rfl,rfl⟩
   | some S'=>
     rw [hsk] at hq
     obtain ⟨rfl,s',hs',rfl,hR',hS'⟩:=hq
     refine SPX ?_; repeat' (first|refine ⟨fun hc=>?_,fun hc=>?_⟩|intro)
     exact Fin.retW (by exact rfl) resA (H':=ToM.none.H++s'.H) (fun _ h=>h.left) ⟨ToM.none,s',ToM.none_ok rfl rfl rfl,hs'.up (Nat.le_succ n),hR',hS',rfl,rfl⟩
 | false=>
 have k1:¬ o.kind=1:=by simpa using h1
 refine SPQ ?_; repeat' (first|refine ⟨fun hc=>?_,fun hc=>?_⟩|intro)
 cases h2:(o.kind == 2) with
 | true=>
   have hk:o.kind=2:=by simpa using h2
   have hd:Snd.did s.S (o.dg bs gs) cum now=Snd.Dn.of (Snd.expire s.S now):=by unfold Snd.did; exact (if_neg k0).trans ((if_neg k1).trans (if_pos hk))
   rw [hd]
   refine SPX ?_; repeat' (first|refine ⟨fun hc=>?_,fun hc=>?_⟩|intro)
   refine WL.e rfl (Ef.call (c:=s.H) (by exact rfl) (.skip _ (.skip _ (.skip _ (.all _)))) (sexp_tr _ s hs (by omega) now)) ?_
   rintro _ _ ⟨_,⟨rfl,s',hs',hR',hS',rfl⟩,rfl⟩
   refine SPX ?_; repeat' (first|refine ⟨fun hc=>?_,fun hc=>?_⟩|intro)
   exact Fin.retW (by exact rfl) resA (H':=ToM.none.H++s'.H) (fun _ h=>h.left) ⟨ToM.none,s',ToM.none_ok rfl rfl rfl,hs',hR',hS',rfl,rfl⟩
 | false=>
 have k2:¬ o.kind=2:=by simpa using h2
 refine SPQ ?_; repeat' (first|refine ⟨fun hc=>?_,fun hc=>?_⟩|intro)
 cases h3:(o.kind == 3) with
 | true=>
   have hk:o.kind=3:=by simpa using h3
   have hd:Snd.did s.S (o.dg bs gs) cum now={ Snd.Dn.of (Snd.timeout s.S now).s with a:=(Snd.timeout s.S now).late,b:=(Snd.timeout s.S now).gone }:=by unfold Snd.did; exact (if_neg k0).trans ((if_neg k1).trans ((if_neg k2).trans (if_pos hk)))
   rw [hd]
   refine SPX ?_; repeat' (first|refine ⟨fun hc=>?_,fun hc=>?_⟩|intro)
   refine WL.e rfl (Ef.call (c:=s.H) (by exact rfl) (.skip _ (.skip _ (.skip _ (.all _)))) (slate_tr _ s hs now)) ?_
   rintro _ _ ⟨_,⟨rfl,s',hs',hR',hS',rfl⟩,rfl⟩
   dsimp only [tup]
   refine SPX ?_; repeat' (first|refine ⟨fun hc=>?_,fun hc=>?_⟩|intro)
   exact Fin.retW (by exact rfl) resA (H':=ToM.none.H++s'.H) (fun _ h=>h.left) ⟨ToM.none,s',ToM.none_ok rfl rfl rfl,hs'.up (Nat.le_succ n),hR',hS',rfl,rfl⟩
 | false=>
 have k3:¬ o.kind=3:=by simpa using h3
 refine SPQ ?_; repeat' (first|refine ⟨fun hc=>?_,fun hc=>?_⟩|intro)
 cases h4:(o.kind == 4) with
 | true=>
   have hk:o.kind=4:=by simpa using h4
   have hd:Snd.did s.S (o.dg bs gs) cum now=(match Snd.next s.S now with | (s',none)=>Snd.Dn.of s' | (s',some (k,l))=>{ Snd.Dn.of s' with a:=k,l:=l,is_:=true }):=by unfold Snd.did; exact (if_neg k0).trans ((if_neg k1).trans ((if_neg k2).trans ((if_neg k3).trans (if_pos hk))))
   rw [hd]
   refine SPX ?_; repeat' (first|refine ⟨fun hc=>?_,fun hc=>?_⟩|intro)
   rename_i b1 b2 b3
   refine WL.e rfl (Ef.call (c:=s.H) (by exact rfl) (.skip _ (.skip _ (.skip _ (.all _)))) (snx_tr _ s hs now)) ?_
   rintro v _ ⟨H0,hq,rfl⟩
   have huni:∃ (s':SdM) (q:OuM) (kk:Int) (fl:Bool),v=tup [.int .i64 kk,.slice q.sa q.sn q.sc,.bool fl]∧s'.ok n∧s'.R=s.R∧q.ok∧q.ds.length≤75∧(∀ m ∈ q.ds,m.d.bs.length≤1000000)∧H0=q.hb++(q.bb++s'.H)∧(match Snd.next s.S now with | (s',none)=>Snd.Dn.of s' | (s',some (k,l))=>{ Snd.Dn.of s' with a:=k,l:=l,is_:=true })={ Snd.Dn.of s'.S with a:=kk,l:=q.L,is_:=fl }:=by
    cases hf:Snd.next s.S now with
    | mk S' r=>
    rw [hf] at hq
    cases r with
    | none=>
      obtain ⟨rfl,s',hs',hR',hS',rfl⟩:=hq
      exact ⟨s',⟨[],none,0,0,[]⟩,0,false,rfl,hs',hR',⟨.inl ⟨rfl,rfl,rfl⟩,fun _ h=>by cases h⟩,Nat.zero_le _,(fun _ h=>by cases h),rfl,by rw [hS']; rfl⟩
    | some r=>
      obtain ⟨k,l⟩:=r
      obtain ⟨s',q,rfl,hs',hR',hS',hq,hqL,rfl⟩:=hq
      obtain ⟨_,_,hp,_,hl⟩:=Snd.next_pc hs.pl hf
      refine ⟨s',q,k,true,rfl,hs',hR',hq,by rw [←hqL] at hl; simpa [OuM.L] using hl,fun m hm=>?_,rfl,by rw [hS',hqL]⟩
      have:=(hp m.d (by rw [←hqL]; exact List.mem_map.2 ⟨m,hm,rfl⟩)).2
      omega
   clear hq
   obtain ⟨s',q,kk,fl,rfl,hs',hR',hq,hq75,hqb,rfl,hu⟩:=huni
   rw [hu]
   clear hu
   dsimp only [tup]
   have hqn:=hq.len
   refine SPX ?_; repeat' (first|refine ⟨fun hc=>?_,fun hc=>?_⟩|intro)
   refine W.loop (G:=GDn) (fun g=>[(8,ptr b2),(9,ptr b3),(13,.slice q.sa q.sn q.sc),(15,.int .i64 g.i)])
    (fun g=>(b3,.cells (toldV 0 kk 0 (.slice g.la g.ln g.lc) 0 nilS fl nilS).toArray 60 (0,0))::(b2,.cells (toldV 0 0 0 nilS 0 nilS false nilS).toArray 60 (0,0))::(g.lb++(g.M.flatMap (·.bb)++(q.hb++((q.ds.drop g.i).flatMap (·.bb)++s'.H)))))
    (fun g=>g.i≤q.sn∧(∀ m ∈ g.M,m.ok)∧g.M.map (·.d)=(q.ds.take g.i).map (·.d)∧OwnS 77 7 (g.M.flatMap DM.cells) (.slice g.la g.ln g.lc) g.lb) (fun g=>q.sn - g.i) ⟨0,[],none,0,0,[]⟩ ⟨Nat.zero_le _,(fun _ h=>by cases h),rfl,.inl ⟨rfl,rfl,rfl⟩⟩ envA (fun _ h=>(h.perm List.perm_append_comm).sublist (.cons_cons _ (.cons_cons _ (.cons _ (.refl _))))) ?_
   rintro ⟨i,M,la,ln,lc,lb⟩ ⟨hi,hM,hMd,hown⟩
   dsimp only at hi hM hMd hown ⊢
   unfold toldV nilS
   have hMl:M.length=i:=by have:=congrArg List.length hMd; simp at this; omega
   have hln:ln=i:=by have:=hown.len; rw [flat_len' DM.cells 7 DM.len] at this; omega
   refine SPX ?_; repeat' (first|refine ⟨fun hc=>?_,fun hc=>?_⟩|intro)
   · have hi':i < q.sn:=by have:=of_decide_eq_true hc; omega
     obtain ⟨m,hm⟩:∃ m,q.ds[i]? = some m:=⟨q.ds[i]'(by omega),List.getElem?_eq_getElem _⟩
     obtain ⟨sb,so,hqa,hcan⟩:=(Lst.own (F:=F) hq.row (fun _ h=>h)).el DM.len hm (by omega)
     have hdrop:q.ds.drop i=m::q.ds.drop (i+1):=by rw [List.drop_eq_getElem_cons (by omega),(List.getElem?_eq_some_iff.1 hm).2]
     have hia:0≤(i:Int)∧(i:Int) < q.sn:=by omega
     have hmo:=hq.own m (List.mem_of_getElem? hm)
     have hml:=hqb m (List.mem_of_getElem? hm)
     have hbn:m.bn=m.d.bs.length:=by have:=OwnS.len hmo; simp at this; omega
     rw [hdrop,List.flatMap_cons,List.append_assoc m.bb,hqa]
     refine SPX ?_; repeat' (first|refine ⟨fun hc=>?_,fun hc=>?_⟩|intro)
     refine WL.s rfl (Rd.ldaC rfl (by exact rfl) (hcan.mono (fun _ h=>h.sublist findA))) ?_
     unfold DM.cells at hcan ⊢
     refine SPX ?_; repeat' (first|refine ⟨fun hc=>?_,fun hc=>?_⟩|intro)
     rename_i b4 b5
     refine WL.s rfl (Rd.ldC rfl ((hcan.sub 6 1).mono (fun _ h=>h.sublist findA))) ?_
     refine SPX ?_; repeat' (first|refine ⟨fun hc=>?_,fun hc=>?_⟩|intro)
     refine WL.e rfl (Ef.app (m:=m.bn) (news:=m.d.bs.map B) (hb:=[(b5,.cells ([]:List Value).toArray 5 (0,0))]) (by exact rfl) (by exact rfl) rfl rfl (OwnS.empty _ _ b5) (.one [_] _) ((Lst.own (F:=F) (H:=m.bb) hmo (fun _ h=>h)).src.mono (fun _ h=>h.sublist findA)) (by simp [hbn]) (B_one _) (by simp; omega) (by simp [maxLen]; omega)) ?_
     rintro v' _ ⟨hb',hown',rfl⟩
     rw [List.nil_append] at hown'
     obtain ⟨ta,tn,tc,rfl,_,_⟩:=OwnS.shape hown'
     refine SPX ?_; repeat' (first|refine ⟨fun hc=>?_,fun hc=>?_⟩|intro)
     rename_i b6
     refine WL.e rfl (Ef.app (m:=1) (news:=DM.cells ⟨m.d,ta,tn,tc,hb'⟩) (hb:=lb) (by exact rfl) (by exact rfl) rfl rfl hown (.last (.there (.right (.there (.there (.there .here)))))) (Src.own (n:=7) (.here rfl)) rfl (dm_one _) (by rw [flat_len' DM.cells 7 DM.len,DM.len]; omega) (by rw [flat_len' DM.cells 7 DM.len,DM.len]; simp [maxLen]; omega)) ?_
     rintro v' _ ⟨lb',hown2,rfl⟩
     obtain ⟨la',ln',lc',rfl,_,_⟩:=OwnS.shape hown2
     refine SPX ?_; repeat' (first|refine ⟨fun hc=>?_,fun hc=>?_⟩|intro)
     refine W.loop (G:=GBy) (fun g=>[(8,ptr b2),(9,ptr b3),(13,.slice (some ⟨sb,so,Option.none⟩) q.sn q.sc),(15,.int .i64 i),(17,.int .i64 g.i)])
      (fun g=>lb'++(hb'++((b3,.cells (toldV 0 kk 0 (.slice la' ln' lc') 0 nilS fl nilS).toArray 60 (0,0))::(b2,.cells (toldV 0 0 0 nilS 0 nilS false nilS).toArray 60 (0,0))::(M.flatMap (·.bb)++(q.hb++(g.hb++((q.ds.drop (i+1)).flatMap (·.bb)++s'.H)))))))
      (fun g=>g.i≤m.bn∧OwnS 5 1 g.xs (.slice m.ba m.bn m.bc) g.hb) (fun g=>m.bn - g.i) ⟨0,_,m.bb⟩ ⟨Nat.zero_le _,hmo⟩ envA (fun _ h=>h.sublist ((List.Sublist.refl _).append (.cons _ ((List.Sublist.refl _).append (.cons _ (.refl _)))))) ?_
     rintro ⟨j,xs,xb⟩ ⟨hj,hx⟩
     dsimp only at hj hx ⊢
     unfold toldV nilS
     refine SPX ?_; repeat' (first|refine ⟨fun hc=>?_,fun hc=>?_⟩|intro)
     refine WL.s rfl (Rd.ldC rfl ((hcan.sub 6 1).mono (fun _ h=>h.sublist findA))) ?_
     refine SPX ?_; repeat' (first|refine ⟨fun hc=>?_,fun hc=>?_⟩|intro)
     · have hj':j < m.bn:=by have:=of_decide_eq_true hc; omega
       refine WL.s rfl (Rd.ldC rfl ((hcan.sub 6 1).mono (fun _ h=>h.sublist findA))) ?_
       obtain ⟨p,oo,hma⟩:=hx.addr (by omega)
       rw [hma] at hx ⊢
       have hja:0≤(j:Int)∧(j:Int) < m.bn:=by omega
       obtain ⟨xb',hx',hput⟩:=hx.put j [.int .u8 85] (by have:=hx.len; simp at this ⊢; omega)
       refine SPX ?_; repeat' (first|refine ⟨fun hc=>?_,fun hc=>?_⟩|intro)
       refine WL.e0 (Ef.st rfl rfl rfl (.right (.right (.there (.there (.right (.right (PutAt.left (by simpa using hput))))))))) ?_
       rintro _ _ ⟨rfl,rfl⟩
       refine SPX ?_; repeat' (first|refine ⟨fun hc=>?_,fun hc=>?_⟩|intro)
       rw [i64_succ (by omega)]
       exact Fin.round ⟨j+1,_,xb'⟩ ⟨hj',hx'⟩ envA (fun _ h=>h) (by dsimp only; omega)
     · rw [i64_succ (by omega),←hqa]
       refine Fin.round ⟨i+1,M++[⟨m.d,ta,tn,tc,hb'⟩],la',ln',lc',lb'⟩ ⟨hi',?_,?_,?_⟩ envA (fun _ h=>?_) (by dsimp only; omega)
       · intro z hz
         rcases List.mem_append.1 hz with hz | hz
         · exact hM z hz
         · rw [List.mem_singleton.1 hz]; exact hown'
       · rw [List.map_append,hMd,List.take_add_one,hm]
         simp
       · show OwnS _ 7 ((M++[DM.mk m.d ta tn tc hb']).flatMap DM.cells) _ _
         rw [List.flatMap_append,show List.flatMap DM.cells [DM.mk m.d ta tn tc hb']=DM.cells ⟨m.d,ta,tn,tc,hb'⟩ from List.append_nil _]
         exact hown2
       · have h1:=h.sublist ((List.Sublist.refl lb').append ((List.Sublist.refl hb').append (.cons_cons _ (.cons_cons _ ((List.Sublist.refl (M.flatMap (·.bb))).append ((List.Sublist.refl q.hb).append (List.sublist_append_right xb _)))))))
         have h2:=h1.perm (perm5 lb' hb' [_,_] (M.flatMap (·.bb)) _)
         rw [List.flatMap_append]
         simpa [toldV,nilS] using h2
   · have hi':i=q.sn:=by have:=of_decide_eq_false hc; omega
     refine Fin.retW (by exact rfl) resA (H':=({ ToM.none with o:=⟨M,la,ln,lc,lb⟩ }:ToM).H++s'.H) (fun _ h=>?_) ⟨{ ToM.none with o:=⟨M,la,ln,lc,lb⟩ },s',⟨⟨hown,hM⟩,?_,.inl ⟨rfl,rfl,rfl⟩,.inl ⟨rfl,rfl,rfl⟩⟩,hs'.up (Nat.le_succ n),hR',rfl,rfl,rfl⟩
     · have hsub:((lb++M.flatMap (·.bb))++s'.H).Sublist (lb++(M.flatMap (·.bb)++(q.hb++((q.ds.drop i).flatMap (·.bb)++s'.H)))):=by
        rw [List.append_assoc]
        exact (List.Sublist.refl _).append ((List.Sublist.refl _).append ((List.sublist_append_right _ _).trans (List.sublist_append_right _ _)))
       have:=h.sublist (.cons _ (.cons _ hsub))
       unfold ToM.H ToM.none OuM.bb
       simpa using this
     · show M.map (·.d)=q.ds.map (·.d)
       rw [hMd,hi',←hqn,List.take_length]
 | false=>
 have k4:¬ o.kind=4:=by simpa using h4
 refine SPQ ?_; repeat' (first|refine ⟨fun hc=>?_,fun hc=>?_⟩|intro)
 cases h5:(o.kind == 5) with
 | true=>
   have hk:o.kind=5:=by simpa using h5
   have hd:Snd.did s.S (o.dg bs gs) cum now=(match Snd.forward s.S now with | (s',none)=>Snd.Dn.of s' | (s',some (y,sk,b))=>{ Snd.Dn.of s' with a:=b,fc:=y,fs:=sk,is_:=true }):=by unfold Snd.did; exact (if_neg k0).trans ((if_neg k1).trans ((if_neg k2).trans ((if_neg k3).trans ((if_neg k4).trans (if_pos hk)))))
   rw [hd]
   refine SPX ?_; repeat' (first|refine ⟨fun hc=>?_,fun hc=>?_⟩|intro)
   refine WL.e rfl (Ef.call (c:=s.H) (by exact rfl) (.skip _ (.skip _ (.skip _ (.all _)))) (fwd_tr _ s hs now)) ?_
   rintro _ _ ⟨_,hq,rfl⟩
   cases hf:Snd.forward s.S now with
   | mk S' r=>
   rw [hf] at hq
   cases r with
   | none=>
     obtain ⟨rfl,s',hs',hR',hS',rfl⟩:=hq
     dsimp only [tup]
     refine SPX ?_; repeat' (first|refine ⟨fun hc=>?_,fun hc=>?_⟩|intro)
     exact Fin.retW (by exact rfl) resA (H':=ToM.none.H++s'.H) (fun _ h=>h.left) ⟨ToM.none,s',ToM.none_ok rfl rfl rfl,hs'.up (Nat.le_succ n),hR',hS',rfl,rfl⟩
   | some r=>
     obtain ⟨y,sk,b⟩:=r
     obtain ⟨ka,kn,kc,kb,s',rfl,hown,hs',hR',hS',rfl⟩:=hq
     dsimp only [tup]
     refine SPX ?_; repeat' (first|refine ⟨fun hc=>?_,fun hc=>?_⟩|intro)
     exact Fin.retW (by exact rfl) resA (H':=({ ToM.none with fa:=ka,fn:=kn,fc:=kc,fb:=kb }:ToM).H++s'.H) (fun _ h=>by unfold ToM.H ToM.none OuM.bb; simpa using h.left) ⟨{ ToM.none with fa:=ka,fn:=kn,fc:=kc,fb:=kb },s',⟨⟨.inl ⟨rfl,rfl,rfl⟩,fun _ h=>by cases h⟩,rfl,hown,.inl ⟨rfl,rfl,rfl⟩⟩,hs'.up (Nat.le_succ n),hR',hS',rfl,rfl⟩
 | false=>
 have k5:¬ o.kind=5:=by simpa using h5
 refine SPQ ?_; repeat' (first|refine ⟨fun hc=>?_,fun hc=>?_⟩|intro)
 cases h6:(o.kind == 6) with
 | true=>
   have hk:o.kind=6:=by simpa using h6
   have hd:Snd.did s.S (o.dg bs gs) cum now={ Snd.Dn.of (Snd.beat s.S now) with k:=Snd.beatL s.S now }:=by unfold Snd.did; exact (if_neg k0).trans ((if_neg k1).trans ((if_neg k2).trans ((if_neg k3).trans ((if_neg k4).trans ((if_neg k5).trans (if_pos hk))))))
   rw [hd]
   refine SPX ?_; repeat' (first|refine ⟨fun hc=>?_,fun hc=>?_⟩|intro)
   refine WL.e rfl (Ef.call (c:=s.H) (by exact rfl) (.skip _ (.skip _ (.skip _ (.all _)))) (sbeat_tr _ s hs now)) ?_
   rintro _ _ ⟨_,⟨ka,kn,kc,kb,s',rfl,hown,hs',hR',hS',rfl⟩,rfl⟩
   refine SPX ?_; repeat' (first|refine ⟨fun hc=>?_,fun hc=>?_⟩|intro)
   exact Fin.retW (by exact rfl) resA (H':=({ ToM.none with ka:=ka,kn:=kn,kc:=kc,kb:=kb }:ToM).H++s'.H) (fun _ h=>by unfold ToM.H ToM.none OuM.bb; simpa using h.left) ⟨{ ToM.none with ka:=ka,kn:=kn,kc:=kc,kb:=kb },s',⟨⟨.inl ⟨rfl,rfl,rfl⟩,fun _ h=>by cases h⟩,rfl,.inl ⟨rfl,rfl,rfl⟩,hown⟩,hs'.up (Nat.le_succ n),hR',hS',rfl,rfl⟩
 | false=>
 have k6:¬ o.kind=6:=by simpa using h6
 refine SPQ ?_; repeat' (first|refine ⟨fun hc=>?_,fun hc=>?_⟩|intro)
 cases h7:(o.kind == 7) with
 | true=>
   have hk:o.kind=7:=by simpa using h7
   have hd:Snd.did s.S (o.dg bs gs) cum now={ Snd.Dn.of (Snd.beaten s.S o.path o.life now) with is_:=Snd.beatenB s.S o.path o.life now }:=by unfold Snd.did; exact (if_neg k0).trans ((if_neg k1).trans ((if_neg k2).trans ((if_neg k3).trans ((if_neg k4).trans ((if_neg k5).trans ((if_neg k6).trans (if_pos hk)))))))
   rw [hd]
   refine SPX ?_; repeat' (first|refine ⟨fun hc=>?_,fun hc=>?_⟩|intro)
   refine WL.e rfl (Ef.call (c:=s.H) (by exact rfl) (.skip _ (.skip _ (.skip _ (.all _)))) (sbeaten_tr _ s hs o.path o.life now hnow)) ?_
   rintro _ _ ⟨_,⟨rfl,s',hs',hR',hS',rfl⟩,rfl⟩
   refine SPX ?_; repeat' (first|refine ⟨fun hc=>?_,fun hc=>?_⟩|intro)
   exact Fin.retW (by exact rfl) resA (H':=ToM.none.H++s'.H) (fun _ h=>h.left) ⟨ToM.none,s',ToM.none_ok rfl rfl rfl,hs'.up (Nat.le_succ n),hR',hS',rfl,rfl⟩
 | false=>
   have k7:¬ o.kind=7:=by simpa using h7
   have hd:Snd.did s.S (o.dg bs gs) cum now=Snd.Dn.of s.S:=by unfold Snd.did; exact (if_neg k0).trans ((if_neg k1).trans ((if_neg k2).trans ((if_neg k3).trans ((if_neg k4).trans ((if_neg k5).trans ((if_neg k6).trans (if_neg k7)))))))
   rw [hd]
   refine SPX ?_; repeat' (first|refine ⟨fun hc=>?_,fun hc=>?_⟩|intro)
   exact Fin.retW (by exact rfl) resA (H':=ToM.none.H++s.H) (fun _ h=>h.sublist (.cons _ (.cons _ (.cons _ (.refl _))))) ⟨ToM.none,s,ToM.none_ok rfl rfl rfl,hs.up (Nat.le_succ n),rfl,rfl,rfl,rfl⟩
end Go.Proofs.YtlfpemmdehmbfaaGreat
namespace Go.Proofs.YtlfpemmdehmbfaaGreat
open Go Go.Sl Go.Pth
def MeantQ (n:Nat) (s:DsM) (d:Snd.Dn) (v:Value) (H:HL):Prop:=∃ (t:ToM) (s':DsM),t.ok d∧s'.ok (n+1)∧s'.R=s.R∧s'.S=d.s∧v=.agg (t.cells d).toArray∧H=t.H++s'.H
theorem DsM.ok.up {n m:Nat} {s:DsM} (h:s.ok n) (hm:n≤m):s.ok m:=⟨h.q,h.f,h.ways,h.tims,h.sets,h.marks,h.lives,h.owed,h.own,h.pl.up hm⟩
set_option maxHeartbeats 8000000 in
theorem meant_tr (F:Nat→Option Obj) {n:Nat} (s:DsM) (hs:s.ok n) (hn:n < 900000) (hmk:Snd.MarkOk s.S) (o:Ov) (bs:List UInt8) (gs:List (Nat × Nat)) (ho:o.Is F bs gs) (cum now:Int) (hnow:now≤9223372036854775807) (hb:bs.length≤1000000000) (hg:gs.length≤1000) :
 Tr Tryz.prog 11 [ptr s.R,.agg o.cells.toArray,.int .u32 cum,.int .i64 now].toArray F s.H (MeantQ n s (Snd.did s.S (o.dg bs gs) cum now)):=by
 refine Tr.enter Tryz.func11 rfl Tryz.ntmps11 rfl (fun w0=>?_)
 unfold Ov.cells
 refine SPQ ?_; repeat' (first|refine ⟨fun hc=>?_,fun hc=>?_⟩|intro)
 cases h0:(o.kind == 0) with
 | true=>
   have hk:o.kind=0:=by simpa using h0
   have hd:Snd.did s.S (o.dg bs gs) cum now={ Snd.Dn.of (Snd.put s.S o.stream o.ord bs o.life now) with e:=Snd.putE s.S o.stream bs.length o.life now }:=by unfold Snd.did; exact if_pos hk
   rw [hd]
   refine SPY ?_; repeat' (first|refine ⟨fun hc=>?_,fun hc=>?_⟩|intro)
   refine WL.e rfl (Ef.callW (c:=s.H) (by exact rfl) (.skip _ (.skip _ (.skip _ (.all _)))) (fun F' hF=>dsput_tr F' s hs (by omega) o.stream ho.stream o.ord bs o.ba o.bn o.bc (ho.bytes.mono (fun w h=>(hF w h).sublist (List.nil_sublist _))) (by omega) o.life now)) ?_
   rintro _ _ ⟨_,⟨rfl,s',hs',rfl,hR',hS'⟩,rfl⟩
   refine SPY ?_; repeat' (first|refine ⟨fun hc=>?_,fun hc=>?_⟩|intro)
   exact Fin.retW (by exact rfl) resA (H':=ToM.none.H++s'.H) (fun _ h=>h.left) ⟨ToM.none,s',ToM.none_ok rfl rfl rfl,hs',hR',hS',rfl,rfl⟩
 | false=>
 have k0:¬ o.kind=0:=by simpa using h0
 refine SPQ ?_; repeat' (first|refine ⟨fun hc=>?_,fun hc=>?_⟩|intro)
 cases h1:(o.kind == 1) with
 | true=>
   have hk:o.kind=1:=by simpa using h1
   have hd:Snd.did s.S (o.dg bs gs) cum now=(match Snd.sack s.S (Spn.u32 (cum+o.by_)) o.rwnd gs now with | none=>{ Snd.Dn.of s.S with e:=1 } | some s'=>Snd.Dn.of s'):=by unfold Snd.did; exact (if_neg k0).trans (if_pos hk)
   rw [hd]
   refine SPY ?_; repeat' (first|refine ⟨fun hc=>?_,fun hc=>?_⟩|intro)
   refine WL.e rfl (Ef.callW (c:=s.H) (by exact rfl) (.skip _ (.skip _ (.skip _ (.all _)))) (fun F' hF=>dsack_tr F' s hs (by omega) (Spn.u32 (cum+o.by_)) o.rwnd (Flt.u32_mod _) ho.rwnd.1 hmk gs o.ka o.kn o.kc (ho.gaps.mono (fun w h=>(hF w h).sublist (List.nil_sublist _))) ho.gs16 hg none 0 0 now)) ?_
   rintro _ _ ⟨H1,hq,rfl⟩
   cases hsk:Snd.sack s.S (Spn.u32 (cum+o.by_)) o.rwnd gs now with
   | none=>
     rw [hsk] at hq
     obtain ⟨rfl,rfl⟩:=hq
     refine SPY ?_; repeat' (first|refine ⟨fun hc=>?_,fun hc=>?_⟩|intro)
     exact Fin.retW (by exact rfl) resA (H':=ToM.none.H++s.H) (fun _ h=>h.left) ⟨ToM.none,s,ToM.none_ok rfl rfl rfl,hs.up (Nat.le_succ n),rfl,rfl,rfl,rfl⟩
   | some S'=>
     rw [hsk] at hq
     obtain ⟨rfl,s',hs',rfl,hR',hS'⟩:=hq
     refine SPY ?_; repeat' (first|refine ⟨fun hc=>?_,fun hc=>?_⟩|intro)
     exact Fin.retW (by exact rfl) resA (H':=ToM.none.H++s'.H) (fun _ h=>h.left) ⟨ToM.none,s',ToM.none_ok rfl rfl rfl,hs'.up (Nat.le_succ n),hR',hS',rfl,rfl⟩
 | false=>
 have k1:¬ o.kind=1:=by simpa using h1
 refine SPQ ?_; repeat' (first|refine ⟨fun hc=>?_,fun hc=>?_⟩|intro)
 cases h2:(o.kind == 2) with
 | true=>
   have hk:o.kind=2:=by simpa using h2
   have hd:Snd.did s.S (o.dg bs gs) cum now=Snd.Dn.of (Snd.expire s.S now):=by unfold Snd.did; exact (if_neg k0).trans ((if_neg k1).trans (if_pos hk))
   rw [hd]
   refine SPY ?_; repeat' (first|refine ⟨fun hc=>?_,fun hc=>?_⟩|intro)
   refine WL.e rfl (Ef.call (c:=s.H) (by exact rfl) (.skip _ (.skip _ (.skip _ (.all _)))) (dsexp_tr _ s hs (by omega) now)) ?_
   rintro _ _ ⟨_,⟨rfl,s',hs',hR',hS',rfl⟩,rfl⟩
   refine SPY ?_; repeat' (first|refine ⟨fun hc=>?_,fun hc=>?_⟩|intro)
   exact Fin.retW (by exact rfl) resA (H':=ToM.none.H++s'.H) (fun _ h=>h.left) ⟨ToM.none,s',ToM.none_ok rfl rfl rfl,hs',hR',hS',rfl,rfl⟩
 | false=>
 have k2:¬ o.kind=2:=by simpa using h2
 refine SPQ ?_; repeat' (first|refine ⟨fun hc=>?_,fun hc=>?_⟩|intro)
 cases h3:(o.kind == 3) with
 | true=>
   have hk:o.kind=3:=by simpa using h3
   have hd:Snd.did s.S (o.dg bs gs) cum now={ Snd.Dn.of (Snd.timeout s.S now).s with a:=(Snd.timeout s.S now).late,b:=(Snd.timeout s.S now).gone }:=by unfold Snd.did; exact (if_neg k0).trans ((if_neg k1).trans ((if_neg k2).trans (if_pos hk)))
   rw [hd]
   refine SPY ?_; repeat' (first|refine ⟨fun hc=>?_,fun hc=>?_⟩|intro)
   refine WL.e rfl (Ef.call (c:=s.H) (by exact rfl) (.skip _ (.skip _ (.skip _ (.all _)))) (dslate_tr _ s hs now)) ?_
   rintro _ _ ⟨_,⟨rfl,s',hs',hR',hS',rfl⟩,rfl⟩
   dsimp only [tup]
   refine SPY ?_; repeat' (first|refine ⟨fun hc=>?_,fun hc=>?_⟩|intro)
   exact Fin.retW (by exact rfl) resA (H':=ToM.none.H++s'.H) (fun _ h=>h.left) ⟨ToM.none,s',ToM.none_ok rfl rfl rfl,hs'.up (Nat.le_succ n),hR',hS',rfl,rfl⟩
 | false=>
 have k3:¬ o.kind=3:=by simpa using h3
 refine SPQ ?_; repeat' (first|refine ⟨fun hc=>?_,fun hc=>?_⟩|intro)
 cases h4:(o.kind == 4) with
 | true=>
   have hk:o.kind=4:=by simpa using h4
   have hd:Snd.did s.S (o.dg bs gs) cum now=(match Snd.next s.S now with | (s',none)=>Snd.Dn.of s' | (s',some (k,l))=>{ Snd.Dn.of s' with a:=k,l:=l,is_:=true }):=by unfold Snd.did; exact (if_neg k0).trans ((if_neg k1).trans ((if_neg k2).trans ((if_neg k3).trans (if_pos hk))))
   rw [hd]
   refine SPY ?_; repeat' (first|refine ⟨fun hc=>?_,fun hc=>?_⟩|intro)
   refine WL.e rfl (Ef.call (c:=s.H) (by exact rfl) (.skip _ (.skip _ (.skip _ (.all _)))) (dnx_tr _ s hs now)) ?_
   rintro v _ ⟨H0,hq,rfl⟩
   cases hf:Snd.next s.S now with
   | mk S' r=>
   rw [hf] at hq
   cases r with
   | none=>
     obtain ⟨rfl,s',hs',hR',hS',rfl⟩:=hq
     dsimp only [tup]
     refine SPY ?_; repeat' (first|refine ⟨fun hc=>?_,fun hc=>?_⟩|intro)
     exact Fin.retW (by exact rfl) resA (H':=ToM.none.H++s'.H) (fun _ h=>h.left) ⟨ToM.none,s',ToM.none_ok rfl rfl rfl,hs'.up (Nat.le_succ n),hR',hS',rfl,rfl⟩
   | some r=>
     obtain ⟨k,l⟩:=r
     obtain ⟨s',q,rfl,hs',hR',hS',hq,hqL,rfl⟩:=hq
     dsimp only [tup]
     refine SPY ?_; repeat' (first|refine ⟨fun hc=>?_,fun hc=>?_⟩|intro)
     exact Fin.retW (by exact rfl) resA (H':=({ ToM.none with o:=q }:ToM).H++s'.H) (fun _ h=>by unfold ToM.H ToM.none; simpa using h.left) ⟨{ ToM.none with o:=q },s',⟨hq,hqL,.inl ⟨rfl,rfl,rfl⟩,.inl ⟨rfl,rfl,rfl⟩⟩,hs'.up (Nat.le_succ n),hR',hS',rfl,rfl⟩
 | false=>
 have k4:¬ o.kind=4:=by simpa using h4
 refine SPQ ?_; repeat' (first|refine ⟨fun hc=>?_,fun hc=>?_⟩|intro)
 cases h5:(o.kind == 5) with
 | true=>
   have hk:o.kind=5:=by simpa using h5
   have hd:Snd.did s.S (o.dg bs gs) cum now=(match Snd.forward s.S now with | (s',none)=>Snd.Dn.of s' | (s',some (y,sk,b))=>{ Snd.Dn.of s' with a:=b,fc:=y,fs:=sk,is_:=true }):=by unfold Snd.did; exact (if_neg k0).trans ((if_neg k1).trans ((if_neg k2).trans ((if_neg k3).trans ((if_neg k4).trans (if_pos hk)))))
   rw [hd]
   refine SPY ?_; repeat' (first|refine ⟨fun hc=>?_,fun hc=>?_⟩|intro)
   refine WL.e rfl (Ef.call (c:=s.H) (by exact rfl) (.skip _ (.skip _ (.skip _ (.all _)))) (dfwd_tr _ s hs now)) ?_
   rintro _ _ ⟨_,hq,rfl⟩
   cases hf:Snd.forward s.S now with
   | mk S' r=>
   rw [hf] at hq
   cases r with
   | none=>
     obtain ⟨rfl,s',hs',hR',hS',rfl⟩:=hq
     dsimp only [tup]
     refine SPY ?_; repeat' (first|refine ⟨fun hc=>?_,fun hc=>?_⟩|intro)
     exact Fin.retW (by exact rfl) resA (H':=ToM.none.H++s'.H) (fun _ h=>h.left) ⟨ToM.none,s',ToM.none_ok rfl rfl rfl,hs'.up (Nat.le_succ n),hR',hS',rfl,rfl⟩
   | some r=>
     obtain ⟨y,sk,b⟩:=r
     obtain ⟨ka,kn,kc,kb,s',rfl,hown,hs',hR',hS',rfl⟩:=hq
     dsimp only [tup]
     refine SPY ?_; repeat' (first|refine ⟨fun hc=>?_,fun hc=>?_⟩|intro)
     exact Fin.retW (by exact rfl) resA (H':=({ ToM.none with fa:=ka,fn:=kn,fc:=kc,fb:=kb }:ToM).H++s'.H) (fun _ h=>by unfold ToM.H ToM.none OuM.bb; simpa using h.left) ⟨{ ToM.none with fa:=ka,fn:=kn,fc:=kc,fb:=kb },s',⟨⟨.inl ⟨rfl,rfl,rfl⟩,fun _ h=>by cases h⟩,rfl,hown,.inl ⟨rfl,rfl,rfl⟩⟩,hs'.up (Nat.le_succ n),hR',hS',rfl,rfl⟩
 | false=>
 have k5:¬ o.kind=5:=by simpa using h5
 refine SPQ ?_; repeat' (first|refine ⟨fun hc=>?_,fun hc=>?_⟩|intro)
 cases h6:(o.kind == 6) with
 | true=>
   have hk:o.kind=6:=by simpa using h6
   have hd:Snd.did s.S (o.dg bs gs) cum now={ Snd.Dn.of (Snd.beat s.S now) with k:=Snd.beatL s.S now }:=by unfold Snd.did; exact (if_neg k0).trans ((if_neg k1).trans ((if_neg k2).trans ((if_neg k3).trans ((if_neg k4).trans ((if_neg k5).trans (if_pos hk))))))
   rw [hd]
   refine SPY ?_; repeat' (first|refine ⟨fun hc=>?_,fun hc=>?_⟩|intro)
   refine WL.e rfl (Ef.call (c:=s.H) (by exact rfl) (.skip _ (.skip _ (.skip _ (.all _)))) (dsbeat_tr _ s hs now)) ?_
   rintro _ _ ⟨_,⟨ka,kn,kc,kb,s',rfl,hown,hs',hR',hS',rfl⟩,rfl⟩
   refine SPY ?_; repeat' (first|refine ⟨fun hc=>?_,fun hc=>?_⟩|intro)
   exact Fin.retW (by exact rfl) resA (H':=({ ToM.none with ka:=ka,kn:=kn,kc:=kc,kb:=kb }:ToM).H++s'.H) (fun _ h=>by unfold ToM.H ToM.none OuM.bb; simpa using h.left) ⟨{ ToM.none with ka:=ka,kn:=kn,kc:=kc,kb:=kb },s',⟨⟨.inl ⟨rfl,rfl,rfl⟩,fun _ h=>by cases h⟩,rfl,.inl ⟨rfl,rfl,rfl⟩,hown⟩,hs'.up (Nat.le_succ n),hR',hS',rfl,rfl⟩
 | false=>
 have k6:¬ o.kind=6:=by simpa using h6
 refine SPQ ?_; repeat' (first|refine ⟨fun hc=>?_,fun hc=>?_⟩|intro)
 cases h7:(o.kind == 7) with
 | true=>
   have hk:o.kind=7:=by simpa using h7
   have hd:Snd.did s.S (o.dg bs gs) cum now={ Snd.Dn.of (Snd.beaten s.S o.path o.life now) with is_:=Snd.beatenB s.S o.path o.life now }:=by unfold Snd.did; exact (if_neg k0).trans ((if_neg k1).trans ((if_neg k2).trans ((if_neg k3).trans ((if_neg k4).trans ((if_neg k5).trans ((if_neg k6).trans (if_pos hk)))))))
   rw [hd]
   refine SPY ?_; repeat' (first|refine ⟨fun hc=>?_,fun hc=>?_⟩|intro)
   refine WL.e rfl (Ef.call (c:=s.H) (by exact rfl) (.skip _ (.skip _ (.skip _ (.all _)))) (dsbeaten_tr _ s hs o.path o.life now hnow)) ?_
   rintro _ _ ⟨_,⟨rfl,s',hs',hR',hS',rfl⟩,rfl⟩
   refine SPY ?_; repeat' (first|refine ⟨fun hc=>?_,fun hc=>?_⟩|intro)
   exact Fin.retW (by exact rfl) resA (H':=ToM.none.H++s'.H) (fun _ h=>h.left) ⟨ToM.none,s',ToM.none_ok rfl rfl rfl,hs'.up (Nat.le_succ n),hR',hS',rfl,rfl⟩
 | false=>
   have k7:¬ o.kind=7:=by simpa using h7
   have hd:Snd.did s.S (o.dg bs gs) cum now=Snd.Dn.of s.S:=by unfold Snd.did; exact (if_neg k0).trans ((if_neg k1).trans ((if_neg k2).trans ((if_neg k3).trans ((if_neg k4).trans ((if_neg k5).trans ((if_neg k6).trans (if_neg k7)))))))
   rw [hd]
   refine SPY ?_; repeat' (first|refine ⟨fun hc=>?_,fun hc=>?_⟩|intro)
   exact Fin.retW (by exact rfl) resA (H':=ToM.none.H++s.H) (fun _ h=>h.sublist (.cons _ (.cons _ (.cons _ (.refl _))))) ⟨ToM.none,s,ToM.none_ok rfl rfl rfl,hs.up (Nat.le_succ n),rfl,rfl,rfl,rfl⟩
end Go.Proofs.YtlfpemmdehmbfaaGreat
namespace Go.Proofs.YtlfpemmdehmbfaaGreat
open Go Go.Sl Go.Pth
instance dqBody1:Body Tryz.prog 78:=⟨by kernel_rfl⟩
instance dqBody2:Body Tryz.prog 30:=⟨by kernel_rfl⟩
instance dqBody3:Body Tryz.prog 31:=⟨by kernel_rfl⟩
theorem bb_sub {m:DM} {ds:List DM} (h:m ∈ ds):m.bb.Sublist (ds.flatMap DM.bb):=by
 obtain ⟨l1,l2,rfl⟩:=List.append_of_mem h
 rw [List.flatMap_append,List.flatMap_cons]
 exact (List.sublist_append_left _ _).trans (List.sublist_append_right _ _)
theorem eqInts {P:Program} {w:World} {d:Nat} {xs ys:Array Value}:∀ {fs:List Field},(∀ f ∈ fs,∃ k n,P.underlying f.type=some (.int k)∧xs[f.offset]? = some (.int k n)∧ys[f.offset]? = some (.int k n))→(Op.eqFields (d+1) xs ys fs).run P w=.ok true w
 | [],_=>by simp [Op.eqFields]
 | f::fs,h=>by
   obtain ⟨k,n,hu,hx,hy⟩:=h f List.mem_cons_self
   have ih:=eqInts (P:=P) (w:=w) (d:=d) (fun g hg=>h g (List.mem_cons_of_mem _ hg))
   have px:(part f.type xs f.offset).run P w=.ok (.int k n) w:=by simp [part,isAgg,run_underlying hu,hx]
   have py:(part f.type ys f.offset).run P w=.ok (.int k n) w:=by simp [part,isAgg,run_underlying hu,hy]
   have hq:=run_equalIn_int w d f.type k k n n hu
   unfold Op.eqFields
   split
   · simp [Sem.run_bind,px,py,hq,ih]
   · exact ih
theorem neSame {x:Cx} {env:Env} {dst:Option Tmp} {ty:TypeId} {pos:String} {aft:Array Edge} {gd:Option (Nat × Bool)} {T T':TypeId} {p q:Operand} {xs:Array Value} (hp:ev env p=some (.agg xs)) (hq:ev env q=some (.agg xs))
 (hu:x.P.underlying T=some (.struct (x.P.fieldsOf T))) (hs:x.P.stoodInHeld T=false) (hg:x.P.eqGuardType x.P.depth T=false) (hf:∀ f ∈ (x.P.fieldsOf T).toList,∃ k n,x.P.underlying f.type=some (.int k)∧xs[f.offset]? = some (.int k n)∧xs[f.offset]? = some (.int k n)) :
 Pu x env ⟨dst,.binOp .neq T p q T',ty,pos,aft,gd⟩ (.bool false):=⟨fun a he w=>by
 have h1:=run_equalIn_struct (P:=x.P) w 9999 T xs xs hu hs
 rw [eqInts hf] at h1
 simp [execOp,he.eval hp,he.eval hq,run_eqGuard_agg w .neq T _ _ xs xs hg,run_neq_struct,h1]⟩
theorem skNe {x:Cx} (hP:x.P=Tryz.prog) {env:Env} {dst:Option Tmp} {ty:TypeId} {pos:String} {aft:Array Edge} {gd:Option (Nat × Bool)} {T':TypeId} {p q:Operand} {s:Rm.Sk} (hp:ev env p=some (.agg (skC s).toArray)) (hq:ev env q=some (.agg (skC s).toArray)) :
 Pu x env ⟨dst,.binOp .neq 239 p q T',ty,pos,aft,gd⟩ (.bool false):=by
 have hfs:(Tryz.prog.fieldsOf 239).toList.map (fun f=>(f.type,f.offset))=[(35,0),(35,1)]:=by kernel_rfl
 have h16:Tryz.prog.underlying 35=some (.int .u16):=by kernel_rfl
 refine neSame hp hq (by rw [hP]; kernel_rfl) (by rw [hP]; kernel_rfl) (by rw [hP]; kernel_rfl) (fun f hf=>?_)
 rw [hP] at hf ⊢
 have hm:(f.type,f.offset) ∈ (Tryz.prog.fieldsOf 239).toList.map (fun f=>(f.type,f.offset)):=List.mem_map.2 ⟨f,hf,rfl⟩
 rw [hfs] at hm
 rcases List.mem_cons.1 hm with h | h
 · obtain ⟨h1,h2⟩:=Prod.mk.inj h
   rw [h1,h2]
   exact ⟨.u16,s.st,h16,rfl,rfl⟩
 · obtain ⟨h1,h2⟩:=Prod.mk.inj (List.mem_singleton.1 h)
   rw [h1,h2]
   exact ⟨.u16,s.n,h16,rfl,rfl⟩
set_option maxHeartbeats 4000000 in
theorem sameSk_tr (F:Nat→Option Obj) (X:HL) (l:List Rm.Sk) (sa:Option Addr) (sn sc:Nat) (ta:Option Addr) (tn tc:Nat) (hl:Lst F X 2 (l.flatMap skC) sa sn sc) (hm:Lst F X 2 (l.flatMap skC) ta tn tc) (hs:l.length≤1000000) :
 Tr Tryz.prog 78 [.slice sa sn sc,.slice ta tn tc].toArray F X (fun v H=>v=.bool true∧H=X):=by
 refine Tr.enter Tryz.func78 rfl Tryz.ntmps78 rfl (fun w0=>?_)
 have h1:=hl.len
 have h2:=hm.len
 rw [flat_len' skC 2 skC_len] at h1 h2
 obtain rfl:tn=sn:=by omega
 refine SPY ?_; repeat' (first|refine ⟨fun hc=>?_,fun hc=>?_⟩|intro)
 · exfalso; simp at hc
 refine W.loop (G:=Nat) (fun i=>[(0,.slice sa tn sc),(1,.slice ta tn tc),(5,.int .i64 i)]) (fun _=>X) (fun i=>i≤tn) (fun i=>tn - i) 0 (Nat.zero_le _) envA (fun _ h=>h) ?_
 intro i hi
 refine SPY ?_; repeat' (first|refine ⟨fun hc=>?_,fun hc=>?_⟩|intro)
 · have hi':i < tn:=by have:=of_decide_eq_true hc; omega
   obtain ⟨a,hga⟩:∃ a,l[i]? = some a:=⟨l[i]'(by omega),by simp⟩
   obtain ⟨b,o,rfl,c1⟩:=hl.el skC_len hga (by omega)
   obtain ⟨b',o',rfl,c2⟩:=hm.el skC_len hga (by omega)
   have hia:0≤(i:Int)∧(i:Int) < tn:=by omega
   refine W.drawA ?_
   refine SPY ?_; repeat' (first|refine ⟨fun hc=>?_,fun hc=>?_⟩|intro)
   refine WD.s rfl (Rd.ldaC rfl (by exact rfl) c1) ?_
   refine SPY ?_; repeat' (first|refine ⟨fun hc=>?_,fun hc=>?_⟩|intro)
   refine WD.s rfl (Rd.ldaC rfl (by exact rfl) c2) ?_
   refine SPY ?_; repeat' (first|refine ⟨fun hc=>?_,fun hc=>?_⟩|intro)
   refine WD.p rfl (by exact skNe rfl rfl rfl) ?_
   refine SPY ?_; repeat' (first|refine ⟨fun hc=>?_,fun hc=>?_⟩|intro)
   rw [i64_succ (by omega)]
   exact Fin.round (i+1) hi' envA (fun _ h=>h) (by omega)
 · exact Fin.retW (by exact rfl) resA (fun _ h=>h) ⟨rfl,rfl⟩
set_option maxHeartbeats 4000000 in
theorem sameF_tr (F:Nat→Option Obj) (X:HL) (y:Int) (l:List Rm.Sk) (sa:Option Addr) (sn sc:Nat) (ta:Option Addr) (tn tc:Nat) (hl:Lst F X 2 (l.flatMap skC) sa sn sc) (hm:Lst F X 2 (l.flatMap skC) ta tn tc) (hs:l.length≤1000000) :
 Tr Tryz.prog 30 [.agg [.int .u32 y,.slice sa sn sc].toArray,.agg [.int .u32 y,.slice ta tn tc].toArray].toArray F X (fun v H=>v=.bool true∧H=X):=by
 refine Tr.enter Tryz.func30 rfl Tryz.ntmps30 rfl (fun w0=>?_)
 refine SPY ?_; repeat' (first|refine ⟨fun hc=>?_,fun hc=>?_⟩|intro)
 · refine WL.e rfl (Ef.callR (by exact rfl) (.all _) (sameSk_tr _ _ l sa sn sc ta tn tc (hl.mono (fun _ h=>h.sublist (.cons _ (.cons _ (.refl _))))) (hm.mono (fun _ h=>h.sublist (.cons _ (.cons _ (.refl _))))) hs)) ?_
   rintro _ _ ⟨rfl,rfl⟩
   refine SPY ?_; repeat' (first|refine ⟨fun hc=>?_,fun hc=>?_⟩|intro)
   exact Fin.retW (by exact rfl) resA (H':=X) (fun _ h=>h.sublist (.cons _ (.cons _ (.refl _)))) ⟨rfl,rfl⟩
 · exfalso; simp at hc
set_option maxHeartbeats 8000000 in
theorem dsame_tr (F:Nat→Option Obj) (X:HL) (d:Flt.Dt) (ba:Option Addr) (bn bc:Nat) (b2:Option Addr) (n2 c2:Nat) (ha:Lst F X 1 (d.bs.map B) ba bn bc) (hb:Lst F X 1 (d.bs.map B) b2 n2 c2) :
 Tr Tryz.prog 31 [.agg [.int .u32 d.tsn,.int .u16 d.stream,.int .u16 d.ssn,.bool d.un,.bool d.fi,.bool d.la,.slice ba bn bc].toArray,.agg [.int .u32 d.tsn,.int .u16 d.stream,.int .u16 d.ssn,.bool d.un,.bool d.fi,.bool d.la,.slice b2 n2 c2].toArray].toArray F X (fun v H=>v=.bool true∧H=X):=by
 refine Tr.enter Tryz.func31 rfl Tryz.ntmps31 rfl (fun w0=>?_)
 have h1:d.bs.length=bn:=by have:=ha.len; simpa using this
 have h2:d.bs.length=n2:=by have:=hb.len; simpa using this
 refine SPS ?_; repeat' (first|refine ⟨fun hc=>?_,fun hc=>?_⟩|intro)
 all_goals try (exfalso; simp at hc; done)
 refine WL.s rfl (Rd.cvBS (bs:=d.bs) (m:=bn) rfl (Src.mono ha.src (fun _ h=>h.sublist (.cons _ (.cons _ (.refl _))))) h1) ?_
 refine SPS ?_; repeat' (first|refine ⟨fun hc=>?_,fun hc=>?_⟩|intro)
 refine WL.s rfl (Rd.cvBS (bs:=d.bs) (m:=n2) rfl (Src.mono hb.src (fun _ h=>h.sublist (.cons _ (.cons _ (.refl _))))) h2) ?_
 refine SPS ?_; repeat' (first|refine ⟨fun hc=>?_,fun hc=>?_⟩|intro)
 refine WL.p rfl (by exact Pu.eqS rfl rfl) ?_
 refine SPS ?_; repeat' (first|refine ⟨fun hc=>?_,fun hc=>?_⟩|intro)
 refine Fin.retW (by exact rfl) resA (H':=X) (fun _ h=>h.sublist (.cons _ (.cons _ (.refl _)))) ⟨?_,rfl⟩
 simp [tup]
structure ToldIs (F:Nat→Option Obj) (X:HL) (t:ToM) (d:Snd.Dn):Prop where
 l:t.o.L=d.l
 row:Lst F X 7 (t.o.ds.flatMap DM.cells) t.o.sa t.o.sn t.o.sc
 bs:∀ m ∈ t.o.ds,Lst F X 1 (m.d.bs.map B) m.ba m.bn m.bc
 f:Lst F X 2 (d.fs.flatMap skC) t.fa t.fn t.fc
 k:Lst F X 1 (d.k.map intC) t.ka t.kn t.kc
theorem ToldIs.of {F:Nat→Option Obj} {X:HL} {t:ToM} {d:Snd.Dn} (h:t.ok d) (hs:∀ w,In F X w→In F t.H w):ToldIs F X t d:=by
 unfold ToM.H at hs
 refine ⟨h.l,Lst.own h.o.row (fun w hw=>(hs w hw).left),fun m hm=>Lst.own (h.o.own m hm) (fun w hw=>?_),Lst.own h.f (fun w hw=>(hs w hw).right.right.left),Lst.own h.k (fun w hw=>(hs w hw).right.right.right)⟩
 have:=(hs w hw).right.left
 unfold OuM.bb at this
 exact this.sublist (bb_sub hm)
theorem sameT_tr (F:Nat→Option Obj) (X:HL) (t u:ToM) (d:Snd.Dn) (ht:ToldIs F X t d) (hu:ToldIs F X u d) (hl:d.l.length≤1000000) (hk:d.k.length≤1000000) (hf:d.fs.length≤1000000) :
 Tr Tryz.prog 9 [.agg (t.cells d).toArray,.agg (u.cells d).toArray].toArray F X (fun v H=>v=.bool true∧H=X):=by
 refine Tr.enter Tryz.func9 rfl Tryz.ntmps9 rfl (fun w0=>?_)
 unfold ToM.cells toldV
 have htl:t.o.ds.length=d.l.length:=by have:=congrArg List.length ht.l; unfold OuM.L at this; simpa using this
 have hul:u.o.ds.length=d.l.length:=by have:=congrArg List.length hu.l; unfold OuM.L at this; simpa using this
 have htn:t.o.ds.length=t.o.sn:=by have:=ht.row.len; rw [flat_len' DM.cells 7 DM.len] at this; omega
 have hun:u.o.ds.length=u.o.sn:=by have:=hu.row.len; rw [flat_len' DM.cells 7 DM.len] at this; omega
 have e1:u.o.sn=t.o.sn:=by omega
 have htk:=ht.k.len
 have huk:=hu.k.len
 simp only [List.length_map] at htk huk
 have e2:u.kn=t.kn:=by omega
 rw [e1,e2]
 refine SPY ?_; repeat' (first|refine ⟨fun hc=>?_,fun hc=>?_⟩|intro)
 all_goals try (exfalso; simp at hc; done)
 refine WL.e rfl (Ef.callR (by exact rfl) (.all _) (sameF_tr _ _ d.fc d.fs t.fa t.fn t.fc u.fa u.fn u.fc (ht.f.mono (fun _ h=>h.sublist (.cons _ (.cons _ (.refl _))))) (hu.f.mono (fun _ h=>h.sublist (.cons _ (.cons _ (.refl _))))) hf)) ?_
 rintro _ _ ⟨rfl,rfl⟩
 rename_i b2 b3 _ _ _ _ _
 refine SPY ?_; repeat' (first|refine ⟨fun hc=>?_,fun hc=>?_⟩|intro)
 refine W.loop (G:=Nat) (fun i=>[(2,ptr b2),(3,ptr b3),(5,.int .i64 i)]) (fun _=>(b3,.cells [.int .i64 d.e,.int .i64 d.a,.int .i64 d.b,.slice u.o.sa t.o.sn u.o.sc,.int .u32 d.fc,.slice u.fa u.fn u.fc,.bool d.is_,.slice u.ka t.kn u.kc].toArray 60 (0,0))::(b2,.cells [.int .i64 d.e,.int .i64 d.a,.int .i64 d.b,.slice t.o.sa t.o.sn t.o.sc,.int .u32 d.fc,.slice t.fa t.fn t.fc,.bool d.is_,.slice t.ka t.kn t.kc].toArray 60 (0,0))::X) (fun i=>i≤t.o.sn) (fun i=>t.o.sn - i) 0 (Nat.zero_le _) envA (fun _ h=>h) ?_
 intro i hi
 refine SPY ?_; repeat' (first|refine ⟨fun hc=>?_,fun hc=>?_⟩|intro)
 · have hi':i < t.o.sn:=by have:=of_decide_eq_true hc; omega
   obtain ⟨m,hm⟩:∃ m,t.o.ds[i]? = some m:=⟨t.o.ds[i]'(by omega),List.getElem?_eq_getElem _⟩
   obtain ⟨q,hq⟩:∃ q,u.o.ds[i]? = some q:=⟨u.o.ds[i]'(by omega),List.getElem?_eq_getElem _⟩
   have hmq:q.d=m.d:=by
    have h1:=congrArg (·[i]?) (hu.l.trans ht.l.symm)
    unfold OuM.L at h1
    simp only [List.getElem?_map,hm,hq,Option.map_some,Option.some.injEq] at h1
    exact h1
   obtain ⟨b,o,hb,c1⟩:=ht.row.el DM.len hm (by omega)
   obtain ⟨b',o',hb',c2⟩:=hu.row.el DM.len hq (by omega)
   have hia:0≤(i:Int)∧(i:Int) < t.o.sn:=by omega
   have hm1:=ht.bs m (List.mem_of_getElem? hm)
   have hq1:=hu.bs q (List.mem_of_getElem? hq)
   rw [hmq] at hq1
   unfold DM.cells at c1 c2
   rw [hmq] at c2
   rw [hb,hb']
   refine W.drawA ?_
   refine SPY ?_; repeat' (first|refine ⟨fun hc=>?_,fun hc=>?_⟩|intro)
   refine WD.s rfl (Rd.ldaC rfl (by exact rfl) (c1.mono (fun _ h=>h.sublist (.cons _ (.cons _ (.refl _)))))) ?_
   refine SPY ?_; repeat' (first|refine ⟨fun hc=>?_,fun hc=>?_⟩|intro)
   refine WD.s rfl (Rd.ldaC rfl (by exact rfl) (c2.mono (fun _ h=>h.sublist (.cons _ (.cons _ (.refl _)))))) ?_
   refine SPY ?_; repeat' (first|refine ⟨fun hc=>?_,fun hc=>?_⟩|intro)
   refine WD.e rfl (Ef.callR (by exact rfl) (.all _) (dsame_tr _ _ m.d m.ba m.bn m.bc q.ba q.bn q.bc (hm1.mono (fun _ h=>h.sublist (.cons _ (.cons _ (.refl _))))) (hq1.mono (fun _ h=>h.sublist (.cons _ (.cons _ (.refl _))))))) ?_
   rintro _ _ ⟨rfl,rfl⟩
   refine ⟨.inr (fun _ h=>h),?_⟩
   refine SPY ?_; repeat' (first|refine ⟨fun hc=>?_,fun hc=>?_⟩|intro)
   rw [i64_succ (by omega),←hb,←hb']
   exact Fin.round (i+1) hi' envA (fun _ h=>h) (by omega)
 · refine W.loop (G:=Nat) (fun i=>[(2,ptr b2),(3,ptr b3),(6,.int .i64 i)]) (fun _=>(b3,.cells [.int .i64 d.e,.int .i64 d.a,.int .i64 d.b,.slice u.o.sa t.o.sn u.o.sc,.int .u32 d.fc,.slice u.fa u.fn u.fc,.bool d.is_,.slice u.ka t.kn u.kc].toArray 60 (0,0))::(b2,.cells [.int .i64 d.e,.int .i64 d.a,.int .i64 d.b,.slice t.o.sa t.o.sn t.o.sc,.int .u32 d.fc,.slice t.fa t.fn t.fc,.bool d.is_,.slice t.ka t.kn t.kc].toArray 60 (0,0))::X) (fun i=>i≤t.kn) (fun i=>t.kn - i) 0 (Nat.zero_le _) envA (fun _ h=>h) ?_
   intro i hi
   refine SPY ?_; repeat' (first|refine ⟨fun hc=>?_,fun hc=>?_⟩|intro)
   · have hi':i < t.kn:=by have:=of_decide_eq_true hc; omega
     obtain ⟨k,hk2⟩:∃ k,d.k[i]? = some k:=⟨d.k[i]'(by omega),List.getElem?_eq_getElem _⟩
     have hrt:=ht.k
     have hru:=hu.k
     rw [List.map_eq_flatMap] at hrt hru
     obtain ⟨b,o,hb,c1⟩:=hrt.el (cells:=fun k=>[intC k]) (fun _=>rfl) hk2 (by omega)
     obtain ⟨b',o',hb',c2⟩:=hru.el (cells:=fun k=>[intC k]) (fun _=>rfl) hk2 (by omega)
     have hia:0≤(i:Int)∧(i:Int) < t.kn:=by omega
     rw [hb,hb']
     refine W.drawA ?_
     refine SPY ?_; repeat' (first|refine ⟨fun hc=>?_,fun hc=>?_⟩|intro)
     · exfalso; simp at hc
     rw [i64_succ (by omega),←hb,←hb']
     exact Fin.round (i+1) hi' envA (fun _ h=>h) (by omega)
   · exact Fin.retW (by exact rfl) resA (H':=X) (fun _ h=>h.sublist (.cons _ (.cons _ (.refl _)))) ⟨rfl,rfl⟩
end Go.Proofs.YtlfpemmdehmbfaaGreat
namespace Go.Snd
open Go Go.Pth
theorem i64_most (n:Int):IntKind.i64.wrap n≤9223372036854775807:=by
 have h1:IntKind.i64.signed=true:=rfl
 have h2:IntKind.i64.bits=64:=rfl
 unfold IntKind.wrap
 rw [h1,h2]
 simp only [Bool.true_and,decide_eq_true_eq]
 split <;> omega
theorem cutSk_len (l:List Rm.Sk) (m:Int):(cutSk l m).length≤l.length:=by
 unfold cutSk
 rw [List.length_take]
 exact Nat.min_le_right _ _
theorem did_short {n:Nat} {s:S} (h:Ok n s) (o:Dg) (cum now:Int):(did s o cum now).l.length≤1000000∧(did s o cum now).k.length≤1000000∧(did s o cum now).fs.length≤1000000:=by
 have hz:∀ t:S,(Dn.of t).l.length≤1000000∧(Dn.of t).k.length≤1000000∧(Dn.of t).fs.length≤1000000:=fun t=>⟨Nat.zero_le _,Nat.zero_le _,Nat.zero_le _⟩
 unfold did
 split
 · exact hz (put s o.stream o.ord o.bs o.life now)
 · split
   · split
     · exact hz s
     · exact hz _
   · split
     · exact hz _
     · split
       · exact hz (timeout s now).s
       · split
         · split
           · exact hz _
           · rename_i s' k l hn
             have:=(next_pc h hn).2.2.2.2
             exact ⟨by dsimp only; omega,Nat.zero_le _,Nat.zero_le _⟩
         · split
           · split
             · exact hz _
             · rename_i s' y sk b hn
               refine ⟨Nat.zero_le _,Nat.zero_le _,?_⟩
               dsimp only
               unfold forward at hn
               split at hn
               · cases hn
               · rename_i f a hd
                 split at hn
                 · cases hn
                 · cases hn
                   have h1:=due_len (y:=f.1) (sk:=f.2) hd
                   have h2:=h.f.g.few
                   have h3:=cutSk_len f.2 (s.mtu - 20)
                   omega
           · split
             · refine ⟨Nat.zero_le _,?_,Nat.zero_le _⟩
               dsimp only
               unfold beatL
               have h2:=h.nws
               refine Nat.le_trans (List.length_filter_le _ _) ?_
               rw [List.length_range]
               omega
             · split
               · exact hz (beaten s o.path o.life now)
               · exact hz s
end Go.Snd
namespace Go.Sl
open Go
inductive Sh where
 | int (k:IntKind)
 | bool
 | str
 | slice (e:Sh)
 | struct (fs:List Sh)
 | arr2 (k:IntKind)
mutual
def Sh.size:Sh→Nat
 | .struct fs=>Sh.sizes fs
 | .arr2 _=>2
 | _=>1
def Sh.sizes:List Sh→Nat
 | []=>0
 | s::r=>s.size+Sh.sizes r
end
mutual
def Sh.fits (P:Program):Sh→TypeId→Bool
 | .int k,t=>match P.underlying t with | some (.int k')=>decide (k'=k) | _=>false
 | .bool,t=>match P.underlying t with | some .bool=>true | _=>false
 | .str,t=>match P.underlying t with | some .string=>true | _=>false
 | .slice e,t=>match P.underlying t with | some (.slice u)=>e.fits P u && Nat.beq (P.cellsOf u) e.size && Nat.blt 0 e.size | _=>false
 | .struct fs,t=>match P.underlying t with | some (.struct a)=>Sh.fitsAll P fs a.toList 0 && Nat.beq (P.cellsOf t) (Sh.sizes fs) | _=>false
 | .arr2 k,t=>match P.underlying t with
   | some (.array n e)=>match P.underlying e with
     | some (.int k')=>(decide (k'=k) && Nat.beq n 2) && (Nat.beq (P.cellsOf e) 1 && Nat.beq (P.cellsOf t) 2)
     | _=>false
   | _=>false
def Sh.fitsAll (P:Program):List Sh→List Field→Nat→Bool
 | [],[],_=>true
 | s::r,f::fs,off=>s.fits P f.type && Nat.beq f.offset off && Nat.beq (P.cellsOf f.type) s.size && Sh.fitsAll P r fs (off+s.size)
 | _,_,_=>false
end
mutual
def Sh.rep (w:World):Sh→List Value→Prop
 | .int k,cs=>∃ n,cs=[.int k n]∧k.min≤n∧n≤k.max
 | .bool,cs=>∃ b,cs=[.bool b]
 | .str,cs=>∃ s,cs=[.string s]∧s.size≤maxLen
 | .slice e,cs=>∃ sa n c,cs=[.slice sa n c]∧n≤c∧c≤maxLen∧(sa=none→n=0)∧∃ xs:List (List Value),xs.length=n∧(∀ x ∈ xs,x.length=e.size∧e.rep w x)∧
    (0 < n→∃ b off cells T fr,sa=some ⟨b,off,none⟩∧w.heap[b]? = some (.cells cells T fr)∧∀ j u,xs.flatten[j]? = some u→cells[off+j]? = some u)
 | .struct fs,cs=>Sh.repAll w fs cs
 | .arr2 k,cs=>∃ a b,cs=[.int k a,.int k b]∧(k.min≤a∧a≤k.max)∧(k.min≤b∧b≤k.max)
def Sh.repAll (w:World):List Sh→List Value→Prop
 | [],cs=>cs=[]
 | s::r,cs=>∃ c1 c2,cs=c1++c2∧c1.length=s.size∧s.rep w c1∧Sh.repAll w r c2
end
theorem cell_spot {w:World} {a:Addr} {v:Value} (h:w.cell? a=some v):∃ cells T fr,a=⟨a.block,a.off,none⟩∧w.heap[a.block]? = some (.cells cells T fr)∧cells[a.off]? = some v:=by
 unfold World.cell? at h
 split at h
 · rename_i c T fr hh
   split at h
   · cases h
   · rename_i hs
     refine ⟨c,T,fr,?_,hh,h⟩
     obtain ⟨b,o,sp⟩:=a
     cases sp with
     | none=>rfl
     | some _=>simp at hs
 · cases h
theorem flatten_get {n sz:Nat}:∀ (xs:List (List Value)),(∀ x ∈ xs,x.length=sz)→∀ (j:Nat) (u:Value),xs.flatten[j]? = some u→∃ i k x,xs[i]? = some x∧x[k]? = some u∧k < sz∧j=i * sz+k
 | [],_,_,_,h=>by simp at h
 | x::xs,hl,j,u,h=>by
   rw [List.flatten_cons] at h
   have hx:=hl x (by simp)
   by_cases hj:j < x.length
   · rw [List.getElem?_append_left hj] at h
     exact ⟨0,j,x,rfl,h,by omega,by omega⟩
   · rw [List.getElem?_append_right (by omega)] at h
     obtain ⟨i,k,y,h1,h2,h3,h4⟩:=flatten_get (n:=n) xs (fun y hy=>hl y (by simp [hy])) _ u h
     refine ⟨i+1,k,y,by simpa using h1,h2,h3,?_⟩
     rw [Nat.succ_mul]; omega
section
variable {H:Type} {enc:TypeId × Value→H} {P:Program} {w:World} {base:Nat} {spare:Nat→Bool} {held:Bool}
mutual
theorem Sh.rep_of:∀ (s:Sh) {t:TypeId} {cs:List Value} {x:DataW H × List MemPlace} {fuel:Nat},s.fits P t=true→DataW.trod enc P w base spare held fuel t cs=some x→s.rep w cs∧cs.length=s.size
 | .int k,t,cs,x,fuel,hf,h=>by
   unfold Sh.fits at hf
   split at hf
   · rename_i k' hu
     have:=of_decide_eq_true hf
     subst this
     obtain ⟨n,rfl,_,hw⟩:=DataW.trod_int hu h
     unfold Lit.wf at hw
     simp only [Bool.and_eq_true,decide_eq_true_eq] at hw
     exact ⟨by unfold Sh.rep; exact ⟨n,rfl,hw⟩,by simp [Sh.size]⟩
   · cases hf
 | .bool,t,cs,x,fuel,hf,h=>by
   unfold Sh.fits at hf
   split at hf
   · rename_i hu
     obtain ⟨b,rfl,_⟩:=DataW.trod_bool hu h
     exact ⟨by unfold Sh.rep; exact ⟨b,rfl⟩,by simp [Sh.size]⟩
   · cases hf
 | .str,t,cs,x,fuel,hf,h=>by
   unfold Sh.fits at hf
   split at hf
   · rename_i hu
     obtain ⟨b,rfl,_,hb⟩:=DataW.trod_string hu h
     exact ⟨by unfold Sh.rep; exact ⟨b,rfl,hb⟩,by simp [Sh.size]⟩
   · cases hf
 | .slice e,t,cs,x,fuel,hf,h=>by
   unfold Sh.fits at hf
   split at hf
   · rename_i u hu
     simp only [Bool.and_eq_true] at hf
     have hc:=Nat.eq_of_beq_eq_true hf.1.2
     have hpos:0 < e.size:=Nat.le_of_ble_eq_true hf.2
     refine ⟨?_,?_⟩
     · unfold Sh.rep
       rcases Go.Deep.open_slice hu h with ⟨rfl,_⟩ | ⟨a,len,cap,m,n,D,Pl,rfl,hb,hl,hm,hmm,hxx,hx⟩
       · exact ⟨none,0,0,rfl,Nat.le_refl _,by simp [maxLen],fun _=>rfl,[],rfl,by simp,fun h=>by omega⟩
       · have hlm:len≤m:=by rw [hmm]; split <;> omega
         have hel:∀ i,i < len→∃ y:List Value,w.cells? base (a.add (i * e.size)) e.size=some y∧e.rep w y∧y.length=e.size:=fun i hi=>by
          obtain ⟨y,h1,h2⟩:=hx i (by omega)
          rw [hc] at h1
          exact ⟨y,h1,Sh.rep_of e hf.1.1 h2⟩
         have hxs:∃ xs:List (List Value),xs.length=len∧∀ i y,xs[i]? = some y→w.cells? base (a.add (i * e.size)) e.size=some y∧e.rep w y∧y.length=e.size:=by
          clear hxx hx hl hm hmm hlm h
          induction len with
          | zero=>exact ⟨[],rfl,by simp⟩
          | succ k ih=>
            obtain ⟨xs,h1,h2⟩:=ih (fun i hi=>hel i (by omega))
            obtain ⟨y,hy⟩:=hel k (by omega)
            refine ⟨xs++[y],by simp [h1],fun i z hz=>?_⟩
            by_cases hi:i < k
            · rw [List.getElem?_append_left (by omega)] at hz
              exact h2 i z hz
            · rw [List.getElem?_append_right (by omega)] at hz
              have hik:i=k:=by
               have:=(List.getElem?_eq_some_iff.1 hz).1
               simp at this
               omega
              subst hik
              rw [h1] at hz
              simp at hz
              subst hz
              exact hy
         obtain ⟨xs,hxl,hxe⟩:=hxs
         refine ⟨some a,len,cap,rfl,hl,hm,(fun h=>by cases h),xs,hxl,fun y hy=>?_,fun h0=>?_⟩
         · obtain ⟨i,hi⟩:=List.mem_iff_getElem?.1 hy
           have:=hxe i y hi
           exact ⟨this.2.2,this.2.1⟩
         · have hcell:∀ j u,xs.flatten[j]? = some u→w.cell? (a.add j)=some u:=fun j u hu=>by
            obtain ⟨i,k,y,h1,h2,h3,rfl⟩:=flatten_get (n:=0) (sz:=e.size) xs (fun y hy=>by
             obtain ⟨i,hi⟩:=List.mem_iff_getElem?.1 hy
             exact (hxe i y hi).2.2) j u hu
            obtain ⟨_,_,hcs⟩:=World.cells?_some (hxe i y h1).1
            have:=hcs k h3
            rw [h2] at this
            rw [←this]
            congr 1
            unfold Addr.add
            by_cases e1:i * e.size=0 <;> by_cases e2:k=0 <;> simp [e1,e2]
            omega
           obtain ⟨y0,hy0⟩:∃ y,xs[0]? = some y:=⟨xs[0]'(by omega),by simp⟩
           have hy0l:=(hxe 0 y0 hy0).2.2
           obtain ⟨v0,hv0⟩:∃ v,xs.flatten[0]? = some v:=by
            cases xs with
            | nil=>simp at hy0
            | cons z zs=>
              simp at hy0
              subst hy0
              cases z with
              | nil=>simp at hy0l; omega
              | cons v _=>exact ⟨v,by simp⟩
           have h00:=hcell 0 v0 hv0
           have ha0:a.add 0=a:=by simp [Addr.add]
           rw [ha0] at h00
           obtain ⟨cells,T,fr,hae,hh,_⟩:=cell_spot h00
           refine ⟨a.block,a.off,cells,T,fr,by rw [←hae],hh,fun j u hu=>?_⟩
           have:=hcell j u hu
           rw [hae,add_lit,cell_of_row w _ _ _ _ _ hh] at this
           exact this
     · rcases Go.Deep.open_slice hu h with ⟨rfl,_⟩ | ⟨a,len,cap,m,n,D,Pl,rfl,_⟩ <;> simp [Sh.size]
   · cases hf
 | .struct fs,t,cs,x,fuel,hf,h=>by
   unfold Sh.fits at hf
   split at hf
   · rename_i a hu
     simp only [Bool.and_eq_true] at hf
     obtain ⟨xs,n,_,_,hl,hxl,hx⟩:=DataW.trod_struct hu h
     have hc:=Nat.eq_of_beq_eq_true hf.2
     have:=Sh.repAll_of fs (off:=0) (n:=n) (cs:=cs) hf.1 (fun f hfm=>by
      obtain ⟨i,hi⟩:=List.mem_iff_getElem?.1 hfm
      have h1:=hx i f (by simpa using hi)
      have hil:i < xs.length:=by rw [hxl]; have:=(List.getElem?_eq_some_iff.1 hi).1; simpa using this
      rw [List.getElem?_eq_getElem hil] at h1
      exact ⟨_,h1⟩) (by rw [hl,hc]; simp)
     refine ⟨by unfold Sh.rep; simpa using this,by rw [hl,hc]; simp [Sh.size]⟩
   · cases hf
 | .arr2 k,t,cs,x,fuel,hf,h=>by
   unfold Sh.fits at hf
   split at hf
   · rename_i n e hu
     split at hf
     · rename_i k' he
       simp only [Bool.and_eq_true] at hf
       have hk:=of_decide_eq_true hf.1.1
       subst hk
       have hn:=Nat.eq_of_beq_eq_true hf.1.2
       subst hn
       have hc:=Nat.eq_of_beq_eq_true hf.2.1
       have hct:=Nat.eq_of_beq_eq_true hf.2.2
       obtain ⟨xs,m,_,_,hlen,hcl,hel⟩:=DataW.trod_array hu h
       have one:∀ i,i < 2→∃ a,cs[i]? = some (.int k' a)∧(k'.min≤a∧a≤k'.max):=fun i hi=>by
        have h1:=hel i hi
        rw [hc,Nat.mul_one,List.getElem?_eq_getElem (show i < xs.length by omega)] at h1
        obtain ⟨z,e1,_,e3⟩:=DataW.trod_int he h1
        unfold Lit.wf at e3
        simp only [Bool.and_eq_true,decide_eq_true_eq] at e3
        have h3:=congrArg (fun l=>l[0]?) e1
        simp only [List.getElem?_take,List.getElem?_drop] at h3
        simp at h3
        exact ⟨z,h3,e3⟩
       obtain ⟨a,ha,hab⟩:=one 0 (by omega)
       obtain ⟨b,hb,hbb⟩:=one 1 (by omega)
       have hl2:cs.length=2:=by omega
       match cs,hl2,ha,hb with
       | [u,v],_,ha,hb=>
         simp at ha hb
         subst ha
         subst hb
         exact ⟨by unfold Sh.rep; exact ⟨a,b,rfl,hab,hbb⟩,rfl⟩
     · cases hf
   · cases hf
theorem Sh.repAll_of:∀ (fs:List Sh) {fields:List Field} {off n:Nat} {cs:List Value},Sh.fitsAll P fs fields off=true→(∀ f ∈ fields,∃ x,DataW.trod enc P w base spare held n f.type ((cs.drop f.offset).take (P.cellsOf f.type))=some x)→
 cs.length=off+Sh.sizes fs→Sh.repAll w fs (cs.drop off)
 | [],fields,off,n,cs,hf,h,hl=>by
   unfold Sh.repAll
   simp [Sh.sizes] at hl
   exact List.drop_eq_nil_of_le (by omega)
 | s::r,[],off,n,cs,hf,h,hl=>by simp [Sh.fitsAll] at hf
 | s::r,f::fields,off,n,cs,hf,h,hl=>by
   rw [Sh.fitsAll] at hf
   simp only [Bool.and_eq_true] at hf
   have ho:=Nat.eq_of_beq_eq_true hf.1.1.2
   have hc:=Nat.eq_of_beq_eq_true hf.1.2
   obtain ⟨x,hx⟩:=h f (by simp)
   rw [ho,hc] at hx
   obtain ⟨h1,h2⟩:=Sh.rep_of s hf.1.1.1 hx
   have h3:=Sh.repAll_of r (off:=off+s.size) (n:=n) (cs:=cs) hf.2 (fun g hg=>h g (by simp [hg])) (by rw [hl,Sh.sizes]; omega)
   unfold Sh.repAll
   exact ⟨(cs.drop off).take s.size,cs.drop (off+s.size),by rw [←List.drop_drop,List.take_append_drop],h2,h1,h3⟩
end
end
end Go.Sl
