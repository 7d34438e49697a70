/- Some texts as one. A sender in memory: what is owed laid, acknowledgements: walked. Conditions: it is well formed. A sender in memory: acknowledgements, walked. Conditions: it is well formed. A sender's paths: what they are like, heartbeats, timeouts, walked. Conditions: it is well formed. -/
import Derived.Test.YtlfpemmdehmbfaaGreatBuD
import Derived.Test.YtlfpemmdehmbfaaGreatBuP
namespace Go.Proofs.YtlfpemmdehmbfaaGreat
open Go Go.Sl Go.Pth
theorem sless_tr (F:Nat→Option Obj) (a b:Int):Tr Tryz.prog 148 [.int .u32 a,.int .u32 b].toArray F [] (fun v H=>v=.bool (Rm.less32 a b)∧H=[]):=by
 refine Tr.enter Tryz.func148 rfl Tryz.ntmps148 rfl (fun w0=>?_)
 refine SPS ?_; repeat' (first|refine ⟨fun hc=>?_,fun hc=>?_⟩|intro)
 refine WL.e rfl (Ef.callR (by exact rfl) subA (ahead_tr _ a b)) ?_
 rintro _ _ ⟨rfl,rfl⟩
 refine SPS ?_; repeat' (first|refine ⟨fun hc=>?_,fun hc=>?_⟩|intro)
 · refine Fin.retW (by exact rfl) resA weakA ⟨?_,rfl⟩
   have e:(Int.fdiv (IntKind.u32.wrap (BitVec.ofInt IntKind.u32.bits (if IntKind.u32.signed=true then -1 else IntKind.u32.max) ^^^ BitVec.ofInt IntKind.u32.bits (IntKind.u32.wrap 0)).toNat) (2 ^ min (1:Int).toNat IntKind.u32.bits))=2147483647:=by decide
   simp only [Rm.less32,hc,Bool.true_and,tup]
   rw [e]
 · refine Fin.retW (by exact rfl) resA weakA ⟨?_,rfl⟩
   simp only [Rm.less32,hc,Bool.false_and,tup]
theorem SdM.putX {s:SdM} {off:Nat} {vs cs:List Value} (hs:spliceK s.cells off vs some=some cs):PutAt s.R off vs s.H ((s.R,.cells cs.toArray 88 (0,0))::s.T):=by
 unfold SdM.H SdM.hd
 exact .here hs
theorem SdM.ok.onl {n:Nat} {s:SdM} (h:s.ok n):s.owed.length=s.on_:=by have:=OwnS.len h.owed; rw [flat_len' OwM.cells 8 OwM.clen] at this; omega
theorem SdM.owP {n:Nat} {s:SdM} (h:s.ok n) {x:OwM} {r:List OwM} (hx:s.owed=x::r):∃ b off,s.oa=some ⟨b,off,none⟩∧∀ F:Nat→Option Obj,Sl.Can F s.H b (off+(0:Int).toNat * 8) x.cells:=by
 have h1:=h.owed
 have hl:=h.onl
 rw [hx] at h1 hl
 have hL:=fun F:Nat→Option Obj=>Lst.own (F:=F) h1 (fun _ hh=>hh)
 obtain ⟨b,off,ha,_⟩:=(hL (fun _=>none)).can (by simp at hl; omega)
 refine ⟨b,off,ha,fun F=>?_⟩
 obtain ⟨b',off',ha',hcan⟩:=(hL F).can (by simp at hl; omega)
 rw [ha] at ha'
 cases ha'
 have:=(hcan.sub 0 8).mono (F':=F) (H':=s.H) (fun _ hh=>hh.sublist (by
  unfold SdM.H SdM.T SdM.X
  exact .cons _ ((List.sublist_append_left _ _).trans ((List.sublist_append_right _ _).trans ((List.sublist_append_right _ _).trans ((List.sublist_append_right _ _).trans ((List.sublist_append_right _ _).trans (List.sublist_append_right _ _))))))))
 exact this
structure GT where
 s:SdM
set_option maxHeartbeats 4000000 in
theorem slay_tr (F:Nat→Option Obj) {n:Nat} (s:SdM) (hs:s.ok n) (now:Int):Tr Tryz.prog 72 [ptr s.R,.int .i64 now].toArray F s.H (fun v H=>v=.tuple #[]∧∃ s':SdM,s'.ok n∧H=s'.H∧s'.R=s.R∧s'.S=Snd.lay s.S now):=by
 refine Tr.enter Tryz.func72 rfl Tryz.ntmps72 rfl (fun w0=>?_)
 refine SPX ?_; repeat' (first|refine ⟨fun hc=>?_,fun hc=>?_⟩|intro)
 obtain ⟨rr,hrr⟩:∃ rr,s.R=rr:=⟨_,rfl⟩
 rw [hrr]
 refine W.loop (G:=GT) (fun g=>[(0,ptr rr),(1,.int .i64 now)]) (fun g=>g.s.H) (fun g=>g.s.ok n∧g.s.R=rr∧Snd.lay s.S now=Snd.layN now g.s.owed.length g.s.S) (fun g=>g.s.owed.length) ⟨s⟩ ⟨hs,hrr,by unfold Snd.lay; simp [SdM.S]⟩ envA (fun _ h=>h) ?_
 rintro ⟨t⟩ ⟨ht,hR,hlay⟩
 dsimp only at ht hR hlay ⊢
 subst hR
 obtain ⟨c0,c1,c2,c3,c4,c5,c6,c7,c8,c9,c10,c11⟩:=t.cans (F:=F)
 have hol:=ht.onl
 cases hx:t.owed with
 | nil=>
   rw [hx] at hol
   rw [show t.on_=0 by simpa using hol.symm] at c7
   refine SPX ?_; repeat' (first|refine ⟨fun hc=>?_,fun hc=>?_⟩|intro)
   refine Fin.endW (by exact rfl) resA (fun _ h=>h) ⟨rfl,t,ht,rfl,rfl,?_⟩
   rw [hlay,hx]
   rfl
 | cons x r=>
   obtain ⟨b,off,hoa,hcan⟩:=SdM.owP ht hx
   have hcan:=hcan F
   have hgt:decide ((t.on_:Int) > 0)=true:=decide_eq_true (by rw [hx] at hol; simp at hol; omega)
   have h0:0≤(0:Int)∧(0:Int) < t.on_:=by rw [hx] at hol; simp at hol; omega
   rw [hoa] at c7
   unfold OwM.cells at hcan
   refine SPX ?_; repeat' (first|refine ⟨fun hc=>?_,fun hc=>?_⟩|intro)
   rotate_left
   · exact absurd (hgt.symm.trans hc) (by decide)
   refine WL.s rfl (Rd.ldaC rfl rfl hcan) ?_
   refine SPX ?_; repeat' (first|refine ⟨fun hc=>?_,fun hc=>?_⟩|intro)
   rename_i b4
   have hxm:x ∈ t.owed:=by rw [hx]; exact List.mem_cons_self
   have hown:=ht.own x hxm
   have hlen:=ht.pl.owed x.O (List.mem_map.2 ⟨x,hxm,rfl⟩)
   refine WD.e rfl (Ef.callR (by exact rfl) (.nil _) (clock_tr _ now)) ?_
   rintro _ _ ⟨rfl,rfl⟩
   refine ⟨.inr (fun _ h=>h),?_⟩
   refine SPX ?_; repeat' (first|refine ⟨fun hc=>?_,fun hc=>?_⟩|intro)
   refine WD.e rfl (Ef.callW (c:=t.f.H) (by exact rfl) (.skip _ t.flP.sub) (fun F' hF=>add_tr F' t.f ht.f x.d x.ba x.bn x.bc ((Lst.own (F:=F) (H:=x.bb) hown (fun _ h=>h)).mono (fun w h=>(hF w h).sublist ?_)) (by have:=hlen; simp only [OwM.O] at this; omega) 0 (Snd.clock now) x.id)) ?_
   · refine .cons _ (.cons _ (List.Sublist.trans ?_ (List.sublist_append_right _ _)))
     refine List.Sublist.trans ?_ (List.sublist_append_right _ _)
     refine List.Sublist.trans ?_ (List.sublist_append_right _ _)
     unfold SdM.X
     refine List.Sublist.trans ?_ (List.sublist_append_right _ _)
     refine List.Sublist.trans ?_ (List.sublist_append_right _ _)
     rw [hx]
     exact List.sublist_append_left _ _
   rintro _ _ ⟨_,⟨rfl,f1,hf1,rfl,hR1,hS1⟩,rfl⟩
   refine ⟨.inl (by kernel_rfl),?_⟩
   refine WD.weak (fun _ h=>In.front1 (t.flE hR1) h) ?_
   dsimp only [tup]
   obtain ⟨E,hE⟩:∃ E,Flt.addE t.f.S x.d 0=E:=⟨_,rfl⟩
   rw [hE]
   clear c0 c1 c2 c3 c4 c5 c6 c7 c8 c9 c10 c11 hcan
   obtain ⟨c0,c1,c2,c3,c4,c5,c6,c7,c8,c9,c10,c11⟩:=SdM.cans (F:=F) { t with f:=f1 }
   dsimp only at c0 c1 c2 c3 c4 c5 c6 c7 c8 c9 c10 c11
   have hown1:t.S.owed=x.O::r.map OwM.O:=by unfold SdM.S; dsimp only; rw [hx]; rfl
   rw [hx,List.length_cons] at hlay
   rw [Snd.layN,hown1] at hlay
   dsimp only at hlay
   refine SPX ?_; repeat' (first|refine ⟨fun hc=>?_,fun hc=>?_⟩|intro)
   · have hne:¬ E=0:=by simpa using hc
     rw [if_neg (by show ¬ Flt.addE t.f.S x.d 0=0; rw [hE]; exact hne)] at hlay
     have hf0:f1.S=t.f.S:=by rw [hS1]; unfold Flt.add; rw [if_neg (by rw [hE]; exact hne)]
     have hS0:({ t with f:=f1 }:SdM).S=t.S:=by show ({ t.S with f:=f1.S }:Snd.S)=t.S; rw [hf0]; rfl
     exact Fin.retW (by exact rfl) resA (H':=({ t with f:=f1 }:SdM).H) (fun _ h=>h.sublist findA) ⟨rfl,{ t with f:=f1 },ht.setF (n':=n) hf1 (by rw [hf0]; exact ht.pl),rfl,rfl,by rw [hlay]; exact hS0⟩
   · have he0:E=0:=by simpa using hc
     rw [if_pos (by show Flt.addE t.f.S x.d 0=0; rw [hE]; exact he0)] at hlay
     refine WD.e rfl (Ef.call (c:=f1.H) (by exact rfl) (.skip _ (SdM.flP { t with f:=f1 }).sub) (abandon_tr _ f1 hf1 x.id)) ?_
     rintro _ _ ⟨_,⟨rfl,f2,hf2,rfl,hR2,hS2⟩,rfl⟩
     refine ⟨.inl (by kernel_rfl),?_⟩
     refine WD.weak (fun _ h=>In.front1 (SdM.flE (s:={ t with f:=f1 }) hR2) h) ?_
     dsimp only
     clear c0 c1 c2 c3 c4 c5 c6 c7 c8 c9 c10 c11
     obtain ⟨c0,c1,c2,c3,c4,c5,c6,c7,c8,c9,c10,c11⟩:=SdM.cans (F:=F) { t with f:=f2 }
     dsimp only at c0 c1 c2 c3 c4 c5 c6 c7 c8 c9 c10 c11
     have c7:Sl.Can F ({ t with f:=f2 }:SdM).H t.R (0+7) [.slice (some ⟨b,off,none⟩) t.on_ t.oc]:=by rw [←hoa]; exact c7
     refine SPX ?_; repeat' (first|refine ⟨fun hc=>?_,fun hc=>?_⟩|intro)
     refine WL.p rfl (Pu.slLo rfl rfl (by omega)) ?_
     refine SPX ?_; repeat' (first|refine ⟨fun hc=>?_,fun hc=>?_⟩|intro)
     obtain ⟨oa',hoa'⟩:∃ a,(if t.oc=(1:Int).toNat then some ⟨b,off,none⟩ else (some (⟨b,off,none⟩:Addr)).map (·.add ((1:Int).toNat * 8)))=a:=⟨_,rfl⟩
     rw [hoa']
     have hputx:=SdM.putX (s:={ t with f:=f2 }) (off:=0+7) (vs:=[.slice oa' (t.on_ - (1:Int).toNat) (t.oc - (1:Int).toNat)]) rfl
     refine WL.e0 (Ef.st rfl rfl rfl (.there hputx)) ?_
     rintro _ _ ⟨rfl,rfl⟩
     refine SPX ?_; repeat' (first|refine ⟨fun hc=>?_,fun hc=>?_⟩|intro)
     have hrow:=ht.owed
     rw [hx,List.flatMap_cons,hoa] at hrow
     have htl:=OwnS.tail (x:=x.cells) (sz:=8) rfl (by decide) hrow
     rw [hoa'] at htl
     have hS:({ t with f:=f2,owed:=r,oa:=oa',on_:=t.on_ - (1:Int).toNat,oc:=t.oc - (1:Int).toNat }:SdM).S={ t.S with f:=Flt.abandon (Flt.add t.S.f x.O.d 0 (Snd.clock now) x.O.id) x.O.id,owed:=r.map OwM.O }:=by
      unfold SdM.S
      dsimp only
      rw [hS2,hS1]
      rfl
     refine Fin.round ⟨{ t with f:=f2,owed:=r,oa:=oa',on_:=t.on_ - (1:Int).toNat,oc:=t.oc - (1:Int).toNat }⟩ ⟨⟨ht.o,hf2,ht.ways,ht.lives,htl,fun m hm=>ht.own m (by rw [hx]; exact List.mem_cons_of_mem _ hm),?_⟩,rfl,?_⟩ envA (fun _ h=>?_) (by simp)
     · have h1:=Snd.layN_ok (now:=now) 1 ht.pl
       rw [Snd.layN,hown1] at h1
       dsimp only at h1
       rw [if_pos (by show Flt.addE t.f.S x.d 0=0; rw [hE]; exact he0)] at h1
       rw [hS]
       exact h1
     · rw [hlay,hS]
     · dsimp only
       unfold SdM.H SdM.T SdM.X SdM.hd
       unfold SdM.T SdM.X at h
       dsimp only at h
       rw [hx,List.flatMap_cons] at h
       exact In.of_sub (.pick (.there .here) (.pickL (L:=t.o.H) (.there .here) (.pickL (L:=f2.H) (.there .here) (.pickL (L:=t.wb) (.there .here) (.pickL (L:=t.ws.flatMap WaM.H) (.there .here) (.pickL (L:=t.lb) (.there .here) (.pickL (L:=t.ob) (.there .here) (.last (.there (.right .all)))))))))) h
theorem SdM.wayPut3 {s:SdM} {k b0:Nat} {m m1 m':WaM} (hk:s.ws[k]? = some m) {off:Nat} {vs:List Value} (h0:m1.b=b0) (hb:m'.b=m1.b) (hp:m'.pm=m1.pm) (hs:spliceK m1.cells off vs some=some m'.cells):PutAt b0 off vs (s.setW k m1).H (s.setW k m').H:=by
 subst h0
 have:=SdM.wayPut (SdM.setW_get hk m1) (m':=m') hb hp hs
 rw [SdM.setW_setW] at this
 exact this
set_option maxHeartbeats 4000000 in
theorem heard_tr (F:Nat→Option Obj) {n:Nat} (s:SdM) (hs:s.ok n) (k:Nat) (m:WaM) (hm:s.ws[k]? = some m) (x:Flt.PT) (hx:Snd.atR x.at_) (full:Bool) (now:Int) (hn:Snd.atR now) :
 Tr Tryz.prog 69 [ptr s.R,.int .i64 k,.agg (PTcells x).toArray,.bool full,.int .i64 now].toArray F s.H (fun v H=>v=.tuple #[]∧∃ m':WaM,m'.b=m.b∧m'.W=Snd.hear x full now s.S.f.c s.S.f.L.length m.W∧H=(s.setW k m').H):=by
 refine Tr.enter Tryz.func69 rfl Tryz.ntmps69 rfl (fun w0=>?_)
 obtain ⟨c0,c1,c2,c3,c4,c5,c6,c7,c8,c9,c10,c11⟩:=s.cans (F:=F)
 obtain ⟨b,off,hwa,hel⟩:=hs.wrow
 have hk:=(List.getElem?_eq_some_iff.1 hm).1
 have hwn:=hs.wn
 have hkn:0≤(k:Int)∧(k:Int) < s.wn:=by omega
 have hcan:=hel F k m hm
 have hw:=hs.way hm
 obtain ⟨hx1,hx2⟩:=hx
 obtain ⟨hn1,hn2⟩:=hn
 rw [hwa] at c2
 unfold PTcells
 refine SPQ ?_; repeat' (first|refine ⟨fun hc=>?_,fun hc=>?_⟩|intro)
 rename_i b7
 clear c0 c1 c2 c3 c4 c5 c6 c7 c8 c9 c10 c11 hcan
 refine W.cut (G:=WaM) (fun _=>[(0,ptr s.R),(4,.int .i64 now),(7,ptr b7),(10,ptr m.b)]) (fun m'=>(b7,.cells (PTcells x).toArray 131 (0,0))::(s.setW k m').H) (fun m'=>m'.b=m.b∧m'.W=Snd.hear1 x full now m.W) (fun K' hK _=>?_) ?_
 · have hself:s.setW k m=s:=by
    unfold SdM.setW
    have:s.ws.set k m=s.ws:=by
     obtain ⟨hlt,he⟩:=List.getElem?_eq_some_iff.1 hm
     rw [←he]
     exact List.set_getElem_self hlt
    rw [this]
   refine W.cond rfl (fun hc=>?_) (fun hc=>?_)
   rotate_left
   · have h0:=of_decide_eq_false hc
     refine SPY ?_; repeat' (first|refine ⟨fun hc=>?_,fun hc=>?_⟩|intro)
     exact Fin.cut hK m ⟨rfl,by unfold Snd.hear1; rw [if_neg h0]⟩ envA (fun _ h=>by rw [hself]; exact h)
   have h0:=of_decide_eq_true hc
   obtain ⟨d0,d1,d2,d3⟩:=SdM.wayCans (F:=F) hm
   refine SPY ?_; repeat' (first|refine ⟨fun hc=>?_,fun hc=>?_⟩|intro)
   refine WL.e rfl (Ef.call (c:=m.pm.H) (by exact rfl) (.skip _ (SdM.paP hm).sub) (answered_tr _ m.pm)) ?_
   rintro _ _ ⟨_,⟨rfl,rfl⟩,rfl⟩
   refine WL.weak (fun _ h=>In.front1 (SdM.paE (p:=m.pm.with (answered m.pm.s)) hm rfl) h) ?_
   obtain ⟨m1,hm1⟩:∃ m1,({ m with pm:=m.pm.with (answered m.pm.s) }:WaM)=m1:=⟨_,rfl⟩
   have hb1:m1.b=m.b:=by rw [←hm1]
   have hW1:m1.W={ m.W with p:=answered m.W.p }:=by rw [←hm1]; rfl
   have hok1:Pth.Ok m1.pm.s:=by rw [←hm1]; exact answered_ok hw.p
   rw [hm1]
   clear d0 d1 d2 d3
   obtain ⟨d0,d1,d2,d3⟩:=SdM.wayCans (F:=F) (SdM.setW_get hm m1)
   rw [hb1] at d0 d1 d2 d3
   refine SPQ ?_; repeat' (first|refine ⟨fun hc=>?_,fun hc=>?_⟩|intro)
   refine W.cut (G:=WaM) (fun _=>[(0,ptr s.R),(3,.bool full),(4,.int .i64 now),(7,ptr b7),(10,ptr m.b)]) (fun m'=>(b7,.cells (PTcells x).toArray 131 (0,0))::(s.setW k m').H) (fun m'=>m'.b=m.b∧m'.W={ m.W with p:=if x.some_ then sampled (answered m.W.p) (mx 0 (now - x.at_)) else answered m.W.p }∧Pth.Ok m'.pm.s) (fun K'' hK2 _=>?_) ?_
   · refine W.cond rfl (fun hc=>?_) (fun hc=>?_)
     · have hso:x.some_=true:=hc
       refine W.drawA ?_
       refine SPY ?_; repeat' (first|refine ⟨fun hc=>?_,fun hc=>?_⟩|intro)
       rw [i64_id (n:=now - x.at_) (by omega) (by omega)]
       simp only [Go.Pth.go_mx]
       refine WD.e rfl (Ef.call (c:=m1.pm.H) (by exact rfl) (.skip _ (SdM.paP (SdM.setW_get hm m1)).sub) (sample_tr _ m1.pm hok1 (max 0 (now - x.at_)) (by omega))) ?_
       rintro _ _ ⟨_,⟨rfl,rfl⟩,rfl⟩
       refine ⟨.inl (by kernel_rfl),?_⟩
       refine WD.weak (fun _ h=>In.front1 (SdM.paE (p:=m1.pm.with (sampled m1.pm.s (max 0 (now - x.at_)))) (SdM.setW_get hm m1) rfl) h) ?_
       rw [SdM.setW_setW]
       refine SPY ?_; repeat' (first|refine ⟨fun hc=>?_,fun hc=>?_⟩|intro)
       refine Fin.cut hK2 { m1 with pm:=m1.pm.with (sampled m1.pm.s (max 0 (now - x.at_))) } ⟨hb1,?_,sampled_ok hok1 (by omega)⟩ envA (fun _ h=>h)
       rw [hso,if_pos rfl]
       have e:WaM.W { m1 with pm:=m1.pm.with (sampled m1.pm.s (max 0 (now - x.at_))) }={ m1.W with p:=sampled m1.W.p (mx 0 (now - x.at_)) }:=rfl
       rw [e,hW1]
     · have hso:x.some_=false:=hc
       refine SPY ?_; repeat' (first|refine ⟨fun hc=>?_,fun hc=>?_⟩|intro)
       refine Fin.cut hK2 m1 ⟨hb1,?_,hok1⟩ envA (fun _ h=>h)
       rw [hW1,hso]
       rfl
   rintro m2 ⟨hb2,hW2,hok2⟩
   have hh1:Snd.hear1 x full now m.W=if x.pseudo then { m2.W with p:=acked m2.W.p x.acked full,timer:=now+(acked m2.W.p x.acked full).r.value } else m2.W:=by
    unfold Snd.hear1
    rw [if_pos h0,hW2]
   clear d0 d1 d2 d3
   obtain ⟨d0,d1,d2,d3⟩:=SdM.wayCans (F:=F) (SdM.setW_get hm m2)
   rw [hb2] at d0 d1 d2 d3
   refine Fin.next ?_
   refine SPY ?_; repeat' (first|refine ⟨fun hc=>?_,fun hc=>?_⟩|intro)
   · have hps:x.pseudo=true:=hc
     refine W.drawA ?_
     refine SPY ?_; repeat' (first|refine ⟨fun hc=>?_,fun hc=>?_⟩|intro)
     refine WD.e rfl (Ef.call (c:=m2.pm.H) (by exact rfl) (.skip _ (SdM.paP (SdM.setW_get hm m2)).sub) (acked_tr _ m2.pm hok2 x.acked full)) ?_
     rintro _ _ ⟨_,⟨rfl,rfl⟩,rfl⟩
     refine ⟨.inl (by kernel_rfl),?_⟩
     refine WD.weak (fun _ h=>In.front1 (SdM.paE (p:=m2.pm.with (acked m2.pm.s x.acked full)) (SdM.setW_get hm m2) rfl) h) ?_
     rw [SdM.setW_setW]
     obtain ⟨m3,hm3⟩:∃ m3,({ m2 with pm:=m2.pm.with (acked m2.pm.s x.acked full) }:WaM)=m3:=⟨_,rfl⟩
     have hb3:m3.b=m.b:=by rw [←hm3]; exact hb2
     have hW3:m3.W={ m2.W with p:=acked m2.W.p x.acked full }:=by rw [←hm3]; rfl
     have hp3:m3.pm.s=acked m2.W.p x.acked full:=by rw [←hm3]; rfl
     have hok3:Pth.Ok m3.pm.s:=by rw [hp3]; exact acked_ok hok2 _ _
     have hv3:1≤m3.pm.s.r.value∧m3.pm.s.r.value≤1048576:=by have:=hok3.r.least; have:=hok3.r.lv; have:=hok3.r.vm; have:=hok3.r.most; omega
     rw [hm3]
     clear d0 d1 d2 d3
     obtain ⟨d0,d1,d2,d3⟩:=SdM.wayCans (F:=F) (SdM.setW_get hm m3)
     rw [hb3] at d0 d1 d2 d3
     refine SPY ?_; repeat' (first|refine ⟨fun hc=>?_,fun hc=>?_⟩|intro)
     refine WL.e rfl (Ef.callR (c:=m3.pm.H) (by exact rfl) (.skip _ (SdM.paP (SdM.setW_get hm m3)).sub) (rto_tr _ m3.pm)) ?_
     rintro _ _ ⟨rfl,rfl⟩
     refine SPY ?_; repeat' (first|refine ⟨fun hc=>?_,fun hc=>?_⟩|intro)
     rw [i64_id (n:=now+m3.pm.s.r.value) (by omega) (by omega)]
     have hput:=SdM.wayPut3 hm hb3 (m':={ m3 with timer:=now+m3.pm.s.r.value }) rfl rfl (off:=0+1) (vs:=[.int .i64 (now+m3.pm.s.r.value)]) rfl
     refine WL.e0 (Ef.st rfl rfl rfl (.there hput)) ?_
     rintro _ _ ⟨rfl,rfl⟩
     refine SPY ?_; repeat' (first|refine ⟨fun hc=>?_,fun hc=>?_⟩|intro)
     refine Fin.cut hK { m3 with timer:=now+m3.pm.s.r.value } ⟨hb3,?_⟩ envA (fun _ h=>h)
     rw [hh1,hps,if_pos rfl]
     have e:WaM.W { m3 with timer:=now+m3.pm.s.r.value }={ m3.W with timer:=now+m3.pm.s.r.value }:=rfl
     rw [e,hW3,hp3]
   · have hps:x.pseudo=false:=hc
     exact Fin.cut hK m2 ⟨hb2,by rw [hh1,hps]; rfl⟩ envA (fun _ h=>h)
 rintro m1 ⟨hb1,hW1⟩
 have hwk1:m1.W.Ok:=by rw [hW1]; exact Snd.hear1_ok hw ⟨hx1,hx2⟩ full ⟨hn1,hn2⟩
 obtain ⟨d0,d1,d2,d3⟩:=SdM.wayCans (F:=F) (SdM.setW_get hm m1)
 rw [hb1] at d0 d1 d2 d3
 refine Fin.next ?_
 refine W.seq ?_
 refine W.cut (G:=WaM) (fun _=>[(0,ptr s.R),(10,ptr m.b)]) (fun m'=>(b7,.cells (PTcells x).toArray 131 (0,0))::(s.setW k m').H) (fun m'=>m'.b=m.b∧m'.W=Snd.hear2 x s.S.f.c s.S.f.L.length m1.W) (fun K' hK _=>?_) ?_
 · unfold PTcells
   have hL:s.S.f.L.length=s.f.sn:=by rw [←hs.f.len]; simp [SdM.S,FM.S]
   refine SPY ?_; repeat' (first|refine ⟨fun hc=>?_,fun hc=>?_⟩|intro)
   · have hst:m1.set=false:=by simpa using hc
     have hfa:x.fast=true:=by assumption
     refine WL.e rfl (Ef.call (c:=m1.pm.H) (by exact rfl) (.skip _ (SdM.paP (SdM.setW_get hm m1)).sub) (fast_tr _ m1.pm hwk1.p)) ?_
     rintro _ _ ⟨_,⟨rfl,rfl⟩,rfl⟩
     refine WL.weak (fun _ h=>In.front1 (SdM.paE (p:=m1.pm.with (fast m1.pm.s)) (SdM.setW_get hm m1) rfl) h) ?_
     rw [SdM.setW_setW]
     obtain ⟨m2,hm2⟩:∃ m2,({ m1 with pm:=m1.pm.with (fast m1.pm.s) }:WaM)=m2:=⟨_,rfl⟩
     have hb2:m2.b=m.b:=by rw [←hm2]; exact hb1
     have hW2:m2.W={ m1.W with p:=fast m1.W.p }:=by rw [←hm2]; rfl
     rw [hm2]
     clear d0 d1 d2 d3
     refine SPY ?_; repeat' (first|refine ⟨fun hc=>?_,fun hc=>?_⟩|intro)
     refine W.draw [s.hd] (by kernel_rfl) (by kernel_rfl) (fun _ h=>h.sublist (.cons _ (s.setW k m2).hdSub)) ?_
     have c1:Sl.Can F [s.hd] s.R (0+1) [ptr s.f.R]:=s.hdCan.one (i:=1) rfl
     refine SPZ ?_; repeat' (first|refine ⟨fun hc=>?_,fun hc=>?_⟩|intro)
     refine WD.e rfl (Ef.callR (c:=s.f.H) (by exact rfl) (.skip _ (s.setW k m2).flP.sub) (cum_tr _ s.f)) ?_
     rintro _ _ ⟨rfl,rfl⟩
     refine ⟨.inr (fun _ h=>h.sublist (.cons _ (s.setW k m2).hdSub)),?_⟩
     refine SPZ ?_; repeat' (first|refine ⟨fun hc=>?_,fun hc=>?_⟩|intro)
     refine WD.e rfl (Ef.callR (c:=s.f.H) (by exact rfl) (.skip _ (s.setW k m2).flP.sub) (count_tr _ s.f)) ?_
     rintro _ _ ⟨rfl,rfl⟩
     refine ⟨.inr (fun _ h=>h.sublist (.cons _ (s.setW k m2).hdSub)),?_⟩
     refine SPZ ?_; repeat' (first|refine ⟨fun hc=>?_,fun hc=>?_⟩|intro)
     have hput:=SdM.wayPut3 hm hb2 (m':={ m2 with set:=true }) rfl rfl (off:=0+2) (vs:=[.bool true]) rfl
     refine WD.e0 (Ef.st rfl rfl rfl (.there hput)) ?_
     rintro _ _ ⟨rfl,rfl⟩
     refine ⟨.inr (fun _ h=>h.sublist (.cons _ (s.setW k { m2 with set:=true }).hdSub)),?_⟩
     refine SPZ ?_; repeat' (first|refine ⟨fun hc=>?_,fun hc=>?_⟩|intro)
     obtain ⟨mk,hmk⟩:∃ mk,IntKind.u32.wrap (s.f.c+IntKind.u32.wrap (s.f.sn:Int))=mk:=⟨_,rfl⟩
     rw [hmk]
     have hput:=SdM.wayPut3 hm (m1:={ m2 with set:=true }) hb2 (m':={ m2 with set:=true,mark:=mk }) rfl rfl (off:=0+3) (vs:=[.int .u32 mk]) rfl
     refine WD.e0 (Ef.st rfl rfl rfl (.there hput)) ?_
     rintro _ _ ⟨rfl,rfl⟩
     refine ⟨.inl (by kernel_rfl),?_⟩
     refine SPZ ?_; repeat' (first|refine ⟨fun hc=>?_,fun hc=>?_⟩|intro)
     refine Fin.cut hK { m2 with set:=true,mark:=mk } ⟨hb2,?_⟩ envA (fun _ h=>h)
     unfold Snd.hear2
     rw [if_pos (by rw [hfa,show m1.W.set=false from hst]; rfl),hL]
     have e:WaM.W { m2 with set:=true,mark:=mk }={ m2.W with set:=true,mark:=mk }:=rfl
     rw [e,hW2,←hmk]
     rfl
   · have hst:m1.set=true:=by simpa using hc
     refine Fin.cut hK m1 ⟨hb1,?_⟩ envA (fun _ h=>h)
     unfold Snd.hear2
     rw [if_neg (by rw [show m1.W.set=true from hst]; simp)]
   · have hfa:x.fast=false:=hc
     refine Fin.cut hK m1 ⟨hb1,?_⟩ envA (fun _ h=>h)
     unfold Snd.hear2
     rw [if_neg (by rw [hfa]; simp)]
 rintro m2 ⟨hb2,hW2⟩
 clear d0 d1 d2 d3
 obtain ⟨d0,d1,d2,d3⟩:=SdM.wayCans (F:=F) (SdM.setW_get hm m2)
 rw [hb2] at d0 d1 d2 d3
 have c1:Sl.Can F (s.setW k m2).H s.R (0+1) [ptr s.f.R]:=(s.setW k m2).cans.2.1
 have hh:Snd.hear x full now s.S.f.c s.S.f.L.length m.W=Snd.hear3 s.f.c m2.W:=by unfold Snd.hear; rw [hW2,hW1]; rfl
 refine Fin.next ?_
 refine SPX ?_; repeat' (first|refine ⟨fun hc=>?_,fun hc=>?_⟩|intro)
 · have hst:m2.set=true:=hc
   refine WD.e rfl (Ef.callR (c:=s.f.H) (by exact rfl) (.skip _ (s.setW k m2).flP.sub) (cum_tr _ s.f)) ?_
   rintro _ _ ⟨rfl,rfl⟩
   refine ⟨.inr (fun _ h=>h),?_⟩
   refine SPX ?_; repeat' (first|refine ⟨fun hc=>?_,fun hc=>?_⟩|intro)
   refine WD.e rfl (Ef.callR (by exact rfl) (.nil _) (sless_tr _ s.f.c m2.mark)) ?_
   rintro _ _ ⟨rfl,rfl⟩
   refine ⟨.inl (by kernel_rfl),?_⟩
   refine SPY ?_; repeat' (first|refine ⟨fun hc=>?_,fun hc=>?_⟩|intro)
   · have hput:=SdM.wayPut3 hm hb2 (m':={ m2 with set:=false }) rfl rfl (off:=0+2) (vs:=[.bool false]) rfl
     refine WL.e0 (Ef.st rfl rfl rfl (.there hput)) ?_
     rintro _ _ ⟨rfl,rfl⟩
     refine SPY ?_; repeat' (first|refine ⟨fun hc=>?_,fun hc=>?_⟩|intro)
     refine Fin.endW (by exact rfl) resA (fun _ h=>h.sublist (.cons _ (.refl _))) ⟨rfl,{ m2 with set:=false },hb2,?_,rfl⟩
     rw [hh]
     unfold Snd.hear3
     rw [if_pos (by rw [show m2.W.set=true from hst,Bool.true_and]; exact hc)]
     rfl
   · refine Fin.endW (by exact rfl) resA (fun _ h=>h.sublist (.cons _ (.refl _))) ⟨rfl,m2,hb2,?_,rfl⟩
     rw [hh]
     unfold Snd.hear3
     rw [if_neg (by rw [show m2.W.set=true from hst,Bool.true_and,show (!Rm.less32 s.f.c m2.W.mark)=false from hc]; simp)]
 · have hst:m2.set=false:=hc
   refine Fin.endW (by exact rfl) resA (fun _ h=>h.sublist (.cons _ (.refl _))) ⟨rfl,m2,hb2,?_,rfl⟩
   rw [hh]
   unfold Snd.hear3
   rw [if_neg (by rw [show m2.W.set=false from hst]; simp)]
end Go.Proofs.YtlfpemmdehmbfaaGreat
namespace Go.Proofs.YtlfpemmdehmbfaaGreat
open Go Go.Sl Go.Pth
theorem made_bool (n:Nat):mkCells [.bool false] n=(List.replicate n false).map Value.bool:=by
 induction n with
 | zero=>rfl
 | succ n ih=>rw [mkCells,ih]; rfl
theorem told_can (F:Nat→Option Obj) (b:Nat) (t:Flt.Tld) {i:Nat} (hi:i < 4):Sl.Can F [(b,.cells (tldC t).toArray 134 (0,0))] b (0+2+(i:Int).toNat * 5) (PTcells (Snd.ptOf t i)):=by
 have h:i=0∨i=1∨i=2∨i=3:=by omega
 rcases h with rfl | rfl | rfl | rfl
 all_goals exact Can.cut (n:=5) (.here rfl)
structure GF where
 i:Nat
 l:List Bool
 nb:HL
structure GSk where
 b:Nat
 f:FM
 A:Flt.Tld
 E:Int
theorem In.frontN {F:Nat→Option Obj} {w:World} {c Hr T:HL} {p q:Nat × Obj} (nb:HL) (hp:(c++Hr).Perm T) (h:In F (q::(c++(nb++(p::Hr)))) w):In F (q::(nb++(p::T))) w:=by
 have e:In F ([q]++(nb++(p::(c++Hr)))) w:=In.of_sub (.pick .here (.pickL (L:=nb) (.right .here) (.pick (.right .here) (.last .all)))) h
 refine e.perm (List.Perm.append_left _ (List.Perm.append_left _ (List.Perm.cons _ hp)))
theorem In.frontM {F:Nat→Option Obj} {w:World} {c Hr T:HL} {p q:Nat × Obj} (nb:HL) (hp:(c++Hr).Perm T) (h:In F (c++(q::(nb++(p::Hr)))) w):In F (q::(nb++(p::T))) w:=
 In.frontN nb hp (In.of_sub (.pick (.right .here) (.last .all)) h)
def SndSackQ (n:Nat) (s:SdM) (o:Option Snd.S) (v:Value) (H:HL):Prop:=match o with
 | none=>v=.int .i64 1∧H=s.H
 | some S'=>v=.int .i64 0∧∃ s':SdM,s'.ok n∧H=s'.H∧s'.R=s.R∧s'.S=S'
set_option maxHeartbeats 8000000 in
theorem ssack_tr (F:Nat→Option Obj) {n:Nat} (s:SdM) (hs:s.ok n) (y rwnd:Int) (hy:0≤y∧y < 4294967296) (hrw:0≤rwnd) (gs:List (Nat × Nat)) (ga:Option Addr) (gn gc:Nat) (hl:Lst F [] 2 (gs.flatMap gC) ga gn gc) (hg:∀ g ∈ gs,g.1 < 65536∧g.2 < 65536) (hgl:gs.length≤1000) (ra:Option Addr) (rn rc:Nat) (now:Int) :
 Tr Tryz.prog 23 [ptr s.R,.agg [.int .u32 y,.int .u32 rwnd,.slice ga gn gc,.slice ra rn rc].toArray,.int .i64 now].toArray F s.H (fun v H=>SndSackQ n s (Snd.sack s.S y rwnd gs now) v H):=by
 refine Tr.enter Tryz.func23 rfl Tryz.ntmps23 rfl (fun w0=>?_)
 obtain ⟨c0,c1,c2,c3,c4,c5,c6,c7,c8,c9,c10,c11⟩:=s.cans (F:=F)
 have hwn:=hs.wn
 have hnws:=hs.nws
 have hSlen:s.S.ws.length=s.ws.length:=by simp [SdM.S]
 refine SPX ?_; repeat' (first|refine ⟨fun hc=>?_,fun hc=>?_⟩|intro)
 rename_i b4
 refine WL.e rfl (Ef.mkS (n:=s.wn) (z:=[.bool false]) (by exact rfl) (by exact rfl) rfl rfl (by omega) (by omega)) ?_
 rintro _ _ ⟨bn,rfl,rfl⟩
 rw [made_bool]
 refine SPX ?_; repeat' (first|refine ⟨fun hc=>?_,fun hc=>?_⟩|intro)
 refine W.loop (G:=GF) (fun g=>[(0,ptr s.R),(2,.int .i64 now),(4,ptr b4),(7,.slice (some ⟨bn,0,none⟩) s.wn s.wn),(25,.int .i64 s.wn),(26,.int .i64 g.i)])
  (fun g=>g.nb++((b4,.cells [.int .u32 y,.int .u32 rwnd,.slice ga gn gc,.slice ra rn rc].toArray 75 (0,0))::s.H)) (fun g=>g.i≤s.wn∧g.l.length=s.wn∧OwnS 4 1 (g.l.map Value.bool) (.slice (some ⟨bn,0,none⟩) s.wn s.wn) g.nb∧∀ j,j < g.i→g.l[j]? = some (!Snd.mayW s.S j)) (fun g=>s.wn - g.i)
  ⟨0,List.replicate s.wn false,[(bn,.cells ((List.replicate s.wn false).map Value.bool).toArray 4 (0,0))]⟩ ⟨Nat.zero_le _,by simp,by rw [←made_bool]; exact OwnS.made _ _ _ _ (by unfold maxLen; omega),fun j hj=>absurd hj (Nat.not_lt_zero _)⟩ envA (fun _ h=>h) ?_
 rintro ⟨i,l,nb⟩ ⟨hi,hll,hown,hset⟩
 dsimp only at hi hll hown hset ⊢
 refine SPY ?_; repeat' (first|refine ⟨fun hc=>?_,fun hc=>?_⟩|intro)
 · have hi':i < s.wn:=by have:=of_decide_eq_true hc; omega
   refine WL.e rfl (Ef.callR (c:=s.H) (by exact rfl) (.skipL nb (.skip _ (.all _))) (may_tr _ s hs i (by omega))) ?_
   rintro _ _ ⟨rfl,rfl⟩
   have hia:0≤(i:Int)∧(i:Int) < s.wn:=by omega
   obtain ⟨nb',hown',hput⟩:=hown.put i [.bool (!Snd.mayW s.S i)] (by simp; omega)
   have e1:=set_row (v:=Value.bool) (l:=l) (i:=i) (by omega) (!Snd.mayW s.S i)
   rw [e1] at hown'
   refine SPZ ?_; repeat' (first|refine ⟨fun hc=>?_,fun hc=>?_⟩|intro)
   refine WL.e0 (Ef.st rfl rfl rfl (.left (by simpa using hput))) ?_
   rintro _ _ ⟨rfl,rfl⟩
   refine SPY ?_; repeat' (first|refine ⟨fun hc=>?_,fun hc=>?_⟩|intro)
   rw [i64_succ (by omega)]
   refine Fin.round ⟨i+1,l.set i (!Snd.mayW s.S i),nb'⟩ ⟨hi',by simp [hll],hown',fun j hj=>?_⟩ envA (fun _ h=>h) (by dsimp only; omega)
   dsimp only at hj
   by_cases hji:j=i
   · subst hji
     exact List.getElem?_set_self (by omega)
   · rw [List.getElem?_set_ne (fun e=>hji e.symm)]
     exact hset j (by omega)
 have hi':i=s.wn:=by have:=of_decide_eq_false hc; omega
 subst hi'
 obtain ⟨rr,hrr⟩:∃ rr,s.R=rr:=⟨_,rfl⟩
 refine W.cut (G:=GSk) (fun g=>[(0,ptr s.R),(2,.int .i64 now),(4,ptr b4),(7,.slice (some ⟨bn,0,none⟩) s.wn s.wn),(9,ptr g.b),(10,.int .i64 g.E)])
  (fun g=>(g.b,.cells (tldC g.A).toArray 134 (0,0))::(nb++((b4,.cells [.int .u32 y,.int .u32 rwnd,.slice ga gn gc,.slice ra rn rc].toArray 75 (0,0))::({ s with f:=g.f }:SdM).H)))
  (fun g=>(Flt.sack s.f.S y gs=none∧g.E=1∧g.f=s.f)∨(Flt.sack s.f.S y gs=some (g.f.S,g.A)∧g.E=0∧g.f.ok∧g.f.R=s.f.R)) (fun K' hK _=>?_) ?_
 · have hsub:∀ w,In F (nb++((b4,.cells [.int .u32 y,.int .u32 rwnd,.slice ga gn gc,.slice ra rn rc].toArray 75 (0,0))::s.H)) w→In F [(b4,.cells [.int .u32 y,.int .u32 rwnd,.slice ga gn gc,.slice ra rn rc].toArray 75 (0,0)),s.hd] w:=fun _ h=>h.sublist (List.Sublist.trans (.cons_cons _ s.hdSub) (List.sublist_append_right _ _))
   refine W.drawG 9 [(b4,.cells [.int .u32 y,.int .u32 rwnd,.slice ga gn gc,.slice ra rn rc].toArray 75 (0,0)),s.hd] hsub ?_
   have c1:Sl.Can F [(b4,.cells [.int .u32 y,.int .u32 rwnd,.slice ga gn gc,.slice ra rn rc].toArray 75 (0,0)),s.hd] s.R (0+1) [ptr s.f.R]:=(s.hdCan.one (i:=1) rfl).mono (fun _ h=>h.sublist (.cons _ (.refl _)))
   have hk1:∀ (q:HL) w,In F (q++(nb++((b4,.cells [.int .u32 y,.int .u32 rwnd,.slice ga gn gc,.slice ra rn rc].toArray 75 (0,0))::(s.hd::(s.o.H++(s.wb++(s.ws.flatMap WaM.H++s.X))))))) w→In F [(b4,.cells [.int .u32 y,.int .u32 rwnd,.slice ga gn gc,.slice ra rn rc].toArray 75 (0,0)),s.hd] w:=fun _ _ h=>In.of_sub (.pick (.right (.right .here)) (.last (L:=[_]) (.right (.right .here)))) h
   clear c0 c2 c3 c4 c5 c6 c7 c8 c9 c10 c11
   repeat' (first
    | refine WF.pA ?_ | refine WF.sA ?_)
   refine WF.e rfl (Ef.callF (c:=s.f.H) (by exact rfl) (.skipL nb (.skip _ s.flP.sub)) (fun hd=>sack_tr _ s.f hs.f hs.small hs.pathOk y rwnd hy gs ga gn gc (hl.mono (fun _ h=>addF_in hd h)) hg hgl ra rn rc)) ?_ ?_
   · rintro _ _ ⟨_,hSR,rfl⟩
     unfold SackR at hSR
     cases hso:Flt.sack s.f.S y gs with
     | none=>
       rw [hso] at hSR
       obtain ⟨rfl,rfl⟩:=hSR
       refine ⟨.inr (fun _ h=>hk1 _ _ h),?_⟩
       dsimp only [tup]
       repeat' (first
        | refine WF.pA ?_ | refine WF.sA ?_)
       refine WF.nil ?_
       refine WD.aA (fun b9=>?_) (hk:=fun _=>.inr (fun _ h=>hk1 _ _ (h.sublist (.cons _ (.refl _)))))
       refine WD.e0A ?_ (hk:=.inl (by kernel_rfl))
       refine SPZ ?_; repeat' (first|refine ⟨fun hc=>?_,fun hc=>?_⟩|intro)
       exact Fin.cut hK ⟨b9,s.f,Flt.Tld.zero,1⟩ (.inl ⟨hso,rfl,rfl⟩) envA (fun _ h=>In.frontN nb (s.flE (f':=s.f) rfl) h)
     | some q=>
       obtain ⟨f',A⟩:=q
       rw [hso] at hSR
       obtain ⟨rfl,f1,hf1,rfl,hR1,rfl⟩:=hSR
       refine ⟨.inr (fun _ h=>hk1 _ _ h),?_⟩
       dsimp only [tup]
       repeat' (first
        | refine WF.pA ?_ | refine WF.sA ?_)
       refine WF.nil ?_
       refine WD.aA (fun b9=>?_) (hk:=fun _=>.inr (fun _ h=>hk1 _ _ (h.sublist (.cons _ (.refl _)))))
       refine WD.e0A ?_ (hk:=.inl (by kernel_rfl))
       refine SPZ ?_; repeat' (first|refine ⟨fun hc=>?_,fun hc=>?_⟩|intro)
       exact Fin.cut hK ⟨b9,f1,A,0⟩ (.inr ⟨hso,rfl,hf1,hR1⟩) envA (fun _ h=>In.frontN nb (s.flE hR1) h)
   · refine WD.aA (fun b9=>?_) (hk:=fun _=>.inr (fun _ h=>hsub _ (h.sublist (.cons _ (.refl _)))))
     refine WD.e rfl (Ef.callF (c:=s.f.H) (by exact rfl) (.skip _ (.skipL nb (.skip _ s.flP.sub))) (fun hd=>sack_tr _ s.f hs.f hs.small hs.pathOk y rwnd hy gs ga gn gc (hl.mono (fun _ h=>addF_in hd h)) hg hgl ra rn rc)) ?_
     rintro _ _ ⟨_,hSR,rfl⟩
     unfold SackR at hSR
     cases hso:Flt.sack s.f.S y gs with
     | none=>
       rw [hso] at hSR
       obtain ⟨rfl,rfl⟩:=hSR
       refine ⟨.inl (by kernel_rfl),?_⟩
       dsimp only [tup]
       refine SPZ ?_; repeat' (first|refine ⟨fun hc=>?_,fun hc=>?_⟩|intro)
       refine WD.e0 (Ef.sta rfl rfl rfl rfl (.right (.here rfl))) ?_
       rintro _ _ ⟨rfl,rfl⟩
       refine ⟨.inl (by kernel_rfl),?_⟩
       refine SPZ ?_; repeat' (first|refine ⟨fun hc=>?_,fun hc=>?_⟩|intro)
       exact Fin.cut hK ⟨b9,s.f,Flt.Tld.zero,1⟩ (.inl ⟨hso,rfl,rfl⟩) envA (fun _ h=>In.frontM nb (s.flE (f':=s.f) rfl) h)
     | some q=>
       obtain ⟨f',A⟩:=q
       rw [hso] at hSR
       obtain ⟨rfl,f1,hf1,rfl,hR1,rfl⟩:=hSR
       refine ⟨.inl (by kernel_rfl),?_⟩
       dsimp only [tup]
       refine SPZ ?_; repeat' (first|refine ⟨fun hc=>?_,fun hc=>?_⟩|intro)
       refine WD.e0 (Ef.sta rfl rfl rfl rfl (.right (.here rfl))) ?_
       rintro _ _ ⟨rfl,rfl⟩
       refine ⟨.inl (by kernel_rfl),?_⟩
       refine SPZ ?_; repeat' (first|refine ⟨fun hc=>?_,fun hc=>?_⟩|intro)
       exact Fin.cut hK ⟨b9,f1,A,0⟩ (.inr ⟨hso,rfl,hf1,hR1⟩) envA (fun _ h=>In.frontM nb (s.flE hR1) h)
 clear c0 c1 c2 c3 c4 c5 c6 c7 c8 c9 c10 c11
 rintro ⟨b9,f1,A,E⟩ (⟨hso,hE,hff⟩ | ⟨hso,hE,hf1,hR1⟩)
 · dsimp only at hE hff ⊢
   subst hE hff
   refine Fin.next ?_
   refine SPY ?_; repeat' (first|refine ⟨fun hc=>?_,fun hc=>?_⟩|intro)
   refine Fin.retW (by exact rfl) resA (H':=s.H) (fun _ h=>h.sublist (.cons _ (List.Sublist.trans (.cons _ (.refl _)) (List.sublist_append_right _ _)))) ?_
   unfold Snd.sack
   rw [show s.S.f=s.f.S from rfl,hso]
   exact ⟨rfl,rfl⟩
 dsimp only at hso hE hf1 hR1 ⊢
 subst hE
 obtain ⟨hFO,hat,hnn,hpaths,hcum⟩:=hs.pl.f.sack hy (show Flt.sack s.S.f y gs=some (f1.S,A) from hso)
 have hpl1:Snd.Ok n { s.S with f:=f1.S }:={ hs.pl with f:=hFO,paths:=by dsimp only; rw [hpaths]; exact hs.pl.paths }
 have hs1:=hs.setF hf1 hpl1
 obtain ⟨s1,hs1e⟩:∃ s1,({ s with f:=f1 }:SdM)=s1:=⟨_,rfl⟩
 have hS1:s1.S={ s.S with f:=f1.S }:=by rw [←hs1e]; rfl
 have hR1':s1.R=rr:=by rw [←hs1e]; exact hrr
 have hwn1:s1.wn=s.wn:=by rw [←hs1e]
 rw [hs1e] at hs1 ⊢
 rw [hrr]
 have hsack:Snd.sack s.S y rwnd gs now=some { (Snd.lay { Snd.restAll { s1.S with ws:=Snd.hearAll s1.S A (fun k=>!Snd.mayW s.S k) (Snd.clock now) } with q:=Oq.free (Snd.restAll { s1.S with ws:=Snd.hearAll s1.S A (fun k=>!Snd.mayW s.S k) (Snd.clock now) }).q A.freed } now) with room:=Snd.roomOf (Snd.lay { Snd.restAll { s1.S with ws:=Snd.hearAll s1.S A (fun k=>!Snd.mayW s.S k) (Snd.clock now) } with q:=Oq.free (Snd.restAll { s1.S with ws:=Snd.hearAll s1.S A (fun k=>!Snd.mayW s.S k) (Snd.clock now) }).q A.freed } now) rwnd A.whole }:=by
  unfold Snd.sack
  rw [show s.S.f=s.f.S from rfl,hso,hS1]
 rw [hsack]
 clear hsack
 have hset:∀ j,j < s.wn→l[j]? = some (!Snd.mayW s.S j):=hset
 obtain ⟨full,hfull⟩:∃ full:Nat→Bool,(fun k=>!Snd.mayW s.S k)=full:=⟨_,rfl⟩
 have hset:∀ j,j < s.wn→l[j]? = some (full j):=fun j hj=>by rw [hset j hj,←hfull]
 rw [hfull]
 obtain ⟨gw,hgw⟩:∃ gw,(fun k w=>Snd.hear (Snd.ptOf A k) (full k) (Snd.clock now) s1.S.f.c s1.S.f.L.length w)=gw:=⟨_,rfl⟩
 have hlen1:s1.S.ws.length=s.wn:=by rw [hS1]; show s.S.ws.length=s.wn; omega
 obtain ⟨bw,ow,hwa1,_⟩:=hs1.wrow
 obtain ⟨c0,c1,c2,c3,c4,c5,c6,c7,c8,c9,c10,c11⟩:=s1.cans (F:=F)
 rw [hR1'] at c0 c1 c2 c3 c4 c5 c6 c7 c8 c9 c10 c11
 refine Fin.next ?_
 refine SPY ?_; repeat' (first|refine ⟨fun hc=>?_,fun hc=>?_⟩|intro)
 rw [hwn1]
 clear c0 c1 c2 c3 c4 c5 c6 c7 c8 c9 c10 c11
 refine W.loop (G:=GS) (fun g=>[(0,ptr rr),(2,.int .i64 now),(4,ptr b4),(7,.slice (some ⟨bn,0,none⟩) s.wn s.wn),(9,ptr b9),(53,.int .i64 s.wn),(54,.int .i64 g.i)])
  (fun g=>(b9,.cells (tldC A).toArray 134 (0,0))::(nb++((b4,.cells [.int .u32 y,.int .u32 rwnd,.slice ga gn gc,.slice ra rn rc].toArray 75 (0,0))::g.s.H))) (fun g=>g.i≤s.wn∧g.s.ok n∧g.s.R=rr∧g.s.S={ s1.S with ws:=Snd.pmap gw s1.S.ws g.i }) (fun g=>s.wn - g.i) ⟨0,s1⟩ ⟨Nat.zero_le _,hs1,hR1',by dsimp only; rw [Snd.pmap_zero]⟩ envA (fun _ h=>h) ?_
 rintro ⟨i,t⟩ ⟨hi2,ht,hRt,htS⟩
 dsimp only at hi2 ht hRt htS ⊢
 have htl:t.ws.length=s.wn:=by have:=congrArg (fun x:Snd.S=>x.ws.length) htS; simp only [Snd.pmap_len] at this; rw [hlen1] at this; simpa [SdM.S] using this
 have hmv9:∀ w,In F ((b9,.cells (tldC A).toArray 134 (0,0))::(nb++((b4,.cells [.int .u32 y,.int .u32 rwnd,.slice ga gn gc,.slice ra rn rc].toArray 75 (0,0))::t.H))) w→In F [(b9,.cells (tldC A).toArray 134 (0,0))] w:=fun _ h=>h.sublist (.cons_cons _ (List.nil_sublist _))
 refine SPY ?_; repeat' (first|refine ⟨fun hc=>?_,fun hc=>?_⟩|intro)
 · have hi':i < s.wn:=by have:=of_decide_eq_true hc; omega
   obtain ⟨m,hm,hmS,hkn⟩:=SdM.wayAt ht (k:=i) (by omega)
   have hms:s1.S.ws[i]? = some m.W:=by
    have h1:t.S.ws[i]? = some m.W:=hmS
    rw [htS] at h1
    obtain ⟨w,hw⟩:∃ w,s1.S.ws[i]? = some w:=⟨s1.S.ws[i]'(by omega),List.getElem?_eq_getElem _⟩
    have h2:=Snd.pmap_get gw hw
    dsimp only at h1
    rw [h2] at h1
    rw [hw,←h1]
   obtain ⟨bn',off',hsa,_,hcf⟩:=own_el hown (hset i hi')
   cases hsa
   have hcf:=hcf F
   have hib:0≤(i:Int)∧(i:Int) < s.wn:=by omega
   have htold:=(told_can F b9 A (i:=i) (by omega)).mono (F':=F) hmv9
   refine W.drawA ?_
   refine SPY ?_; repeat' (first|refine ⟨fun hc=>?_,fun hc=>?_⟩|intro)
   refine WD.p rfl (Pu.iaA rfl rfl (by omega)) ?_
   refine WD.s rfl (Rd.ldaC rfl rfl htold) ?_
   refine SPY ?_; repeat' (first|refine ⟨fun hc=>?_,fun hc=>?_⟩|intro)
   refine WD.e rfl (Ef.callR (by exact rfl) (.nil _) (clock_tr _ now)) ?_
   rintro _ _ ⟨rfl,rfl⟩
   refine ⟨.inr (fun _ h=>h),?_⟩
   refine WD.e rfl (Ef.call (c:=t.H) (by rw [←hRt]; exact rfl) (.skip _ (.skipL nb (.skip _ (.all _)))) (heard_tr _ t ht i m hm (Snd.ptOf A i) (Snd.ptOf_at hat i) (full i) (Snd.clock now) (Snd.clock_at now))) ?_
   rintro _ _ ⟨_,⟨rfl,m',hb',hW',rfl⟩,rfl⟩
   refine ⟨.inl (by kernel_rfl),?_⟩
   refine SPY ?_; repeat' (first|refine ⟨fun hc=>?_,fun hc=>?_⟩|intro)
   rw [i64_succ (by omega)]
   have htf:t.S.f=s1.S.f:=by rw [htS]
   have ew:m'.W=gw i m.W:=by rw [hW',htf,←hgw]
   refine Fin.round ⟨i+1,t.setW i m'⟩ ⟨hi',ht.setW hm hb' (by rw [hW']; exact Snd.hear_ok (ht.way hm) (Snd.ptOf_at hat i) _ (Snd.clock_at now) _ _),hRt,?_⟩ envA (fun _ h=>In.of_sub (.pick (.right .here) (.pickL (L:=nb) (.right .here) (.pick (.right .here) (.last (L:=(t.setW i m').H) .here)))) h) (by dsimp only; omega)
   rw [SdM.setW_S,htS,ew,Snd.pmap_succ _ hms]
 have hi':i=s1.S.ws.length:=by have:=of_decide_eq_false hc; omega
 subst hi'
 have htS2:t.S={ s1.S with ws:=Snd.hearAll s1.S A full (Snd.clock now) }:=by rw [htS,Snd.pmap_all,←hgw]; rfl
 rw [←htS2]
 subst hRt
 refine WL.e rfl (Ef.call (c:=t.H) (by exact rfl) (.skip _ (.skipL nb (.skip _ (.all _)))) (srest_tr _ t ht)) ?_
 rintro _ _ ⟨_,⟨rfl,s3,hs3,rfl,hR3,hS3⟩,rfl⟩
 refine WL.weak (H':=(b9,.cells (tldC A).toArray 134 (0,0))::(b4,.cells [.int .u32 y,.int .u32 rwnd,.slice ga gn gc,.slice ra rn rc].toArray 75 (0,0))::s3.H) (fun _ h=>In.of_sub (.pick (.right .here) (.pick (.right (.right .here)) (.last .here))) h) ?_
 rw [←hR3,←hS3]
 obtain ⟨c0,c1,c2,c3,c4,c5,c6,c7,c8,c9,c10,c11⟩:=s3.cans (F:=F)
 unfold tldC
 refine SPY ?_; repeat' (first|refine ⟨fun hc=>?_,fun hc=>?_⟩|intro)
 refine W.drawA ?_
 refine SPY ?_; repeat' (first|refine ⟨fun hc=>?_,fun hc=>?_⟩|intro)
 refine WD.e rfl (Ef.call (c:=s3.o.H) (by exact rfl) (.skip _ (.skip _ s3.oqP.sub)) (ofree_tr _ s3.o hs3.o A.freed)) ?_
 rintro _ _ ⟨_,⟨rfl,o',ho',rfl,hRo,hSo,_⟩,rfl⟩
 refine ⟨.inl (by kernel_rfl),?_⟩
 refine WD.weak (fun _ h=>In.front2 (s3.oqE hRo) h) ?_
 obtain ⟨s4,hs4e⟩:∃ s4,({ s3 with o:=o' }:SdM)=s4:=⟨_,rfl⟩
 have hS4:s4.S={ s3.S with q:=Oq.free s3.S.q A.freed }:=by rw [←hs4e]; show ({ s3.S with q:=o'.S }:Snd.S)=_; rw [hSo]; rfl
 have hs4:s4.ok n:=by
  rw [←hs4e]
  refine hs3.setO ho' ?_
  rw [hSo]
  exact Snd.free_ok hs3.pl A.freed
 have hR4:s4.R=s3.R:=by rw [←hs4e]
 rw [hs4e,←hR4,←hS4]
 clear c0 c1 c2 c3 c4 c5 c6 c7 c8 c9 c10 c11
 refine SPY ?_; repeat' (first|refine ⟨fun hc=>?_,fun hc=>?_⟩|intro)
 refine WL.e rfl (Ef.call (c:=s4.H) (by exact rfl) (.skip _ (.skip _ (.all _))) (slay_tr _ s4 hs4 now)) ?_
 rintro _ _ ⟨_,⟨rfl,s5,hs5,rfl,hR5,hS5⟩,rfl⟩
 refine WL.weak (H':=(b9,_)::(b4,_)::s5.H) (fun _ h=>In.of_sub (.pick (.right .here) (.pick (.right .here) (.last .here))) h) ?_
 rw [←hR5,←hS5]
 obtain ⟨c0,c1,c2,c3,c4,c5,c6,c7,c8,c9,c10,c11⟩:=s5.cans (F:=F)
 refine SPY ?_; repeat' (first|refine ⟨fun hc=>?_,fun hc=>?_⟩|intro)
 refine W.drawA ?_
 refine SPY ?_; repeat' (first|refine ⟨fun hc=>?_,fun hc=>?_⟩|intro)
 refine WD.e rfl (Ef.callR (c:=s5.f.H) (by exact rfl) (.skip _ (.skip _ s5.flP.sub)) (openB_tr _ s5.f hs5.f hs5.small)) ?_
 rintro _ _ ⟨rfl,rfl⟩
 refine ⟨.inr (fun _ h=>h),?_⟩
 have hRend:s5.R=s.R:=by rw [hR5,hR4,hR3,hrr]
 have hob:Flt.openB s5.f.S≤3072000:=hs5.pl.f.small _
 refine SPY ?_; repeat' (first|refine ⟨fun hc=>?_,fun hc=>?_⟩|intro)
 · have hwh:A.whole=false:=by simpa using hc
   simp only [Go.Pth.go_mn,Go.Pth.go_mx]
   rw [i64_id (n:=min rwnd 1048576) (by omega) (by omega),i64_id (n:=min rwnd 1048576 - (Flt.openB s5.f.S:Int)) (by omega) (by omega)]
   have hrm:min (max 0 (min rwnd 1048576 - (Flt.openB s5.f.S:Int))) s5.room=Snd.roomOf s5.S rwnd A.whole:=by unfold Snd.roomOf; rw [hwh]; rfl
   rw [hrm]
   refine SPY ?_; repeat' (first|refine ⟨fun hc=>?_,fun hc=>?_⟩|intro)
   refine WL.e0 (Ef.st rfl rfl rfl (.there (.there (SdM.put (s':={ s5 with room:=Snd.roomOf s5.S rwnd A.whole }) rfl rfl (off:=0+3) (vs:=[.int .i64 (Snd.roomOf s5.S rwnd A.whole)]) rfl)))) ?_
   rintro _ _ ⟨rfl,rfl⟩
   refine SPY ?_; repeat' (first|refine ⟨fun hc=>?_,fun hc=>?_⟩|intro)
   have hpl6:Snd.Ok n { s5.S with room:=Snd.roomOf s5.S rwnd A.whole }:={ hs5.pl with room:=Snd.roomOf_rng hs5.pl.room rwnd A.whole }
   exact Fin.retW (by exact rfl) resA (H':=({ s5 with room:=Snd.roomOf s5.S rwnd A.whole }:SdM).H) (fun _ h=>h.sublist (.cons _ (.cons _ (.refl _)))) ⟨rfl,{ s5 with room:=Snd.roomOf s5.S rwnd A.whole },⟨hs5.o,hs5.f,hs5.ways,hs5.lives,hs5.owed,hs5.own,hpl6⟩,rfl,hRend,rfl⟩
 · have hwh:A.whole=true:=by simpa using hc
   simp only [Go.Pth.go_mn,Go.Pth.go_mx]
   rw [i64_id (n:=min rwnd 1048576) (by omega) (by omega),i64_id (n:=min rwnd 1048576 - (Flt.openB s5.f.S:Int)) (by omega) (by omega)]
   have hrm:max 0 (min rwnd 1048576 - (Flt.openB s5.f.S:Int))=Snd.roomOf s5.S rwnd A.whole:=by unfold Snd.roomOf; rw [hwh]; rfl
   rw [hrm]
   refine SPY ?_; repeat' (first|refine ⟨fun hc=>?_,fun hc=>?_⟩|intro)
   refine WL.e0 (Ef.st rfl rfl rfl (.there (.there (SdM.put (s':={ s5 with room:=Snd.roomOf s5.S rwnd A.whole }) rfl rfl (off:=0+3) (vs:=[.int .i64 (Snd.roomOf s5.S rwnd A.whole)]) rfl)))) ?_
   rintro _ _ ⟨rfl,rfl⟩
   refine SPY ?_; repeat' (first|refine ⟨fun hc=>?_,fun hc=>?_⟩|intro)
   have hpl6:Snd.Ok n { s5.S with room:=Snd.roomOf s5.S rwnd A.whole }:={ hs5.pl with room:=Snd.roomOf_rng hs5.pl.room rwnd A.whole }
   exact Fin.retW (by exact rfl) resA (H':=({ s5 with room:=Snd.roomOf s5.S rwnd A.whole }:SdM).H) (fun _ h=>h.sublist (.cons _ (.cons _ (.refl _)))) ⟨rfl,{ s5 with room:=Snd.roomOf s5.S rwnd A.whole },⟨hs5.o,hs5.f,hs5.ways,hs5.lives,hs5.owed,hs5.own,hpl6⟩,rfl,hRend,rfl⟩
end Go.Proofs.YtlfpemmdehmbfaaGreat
namespace Go.Proofs.YtlfpemmdehmbfaaGreat
open Go Go.Sl Go.Pth
def pathV (p:Int × Int × Int × Bool):Value:=tup [.int .i64 p.1,.int .i64 p.2.1,.int .i64 p.2.2.1,.bool p.2.2.2]
set_option maxHeartbeats 2000000 in
theorem spath_tr (F:Nat→Option Obj) {n:Nat} (s:SdM) (hs:s.ok n) (k:Int):Tr Tryz.prog 18 [ptr s.R,.int .i64 k].toArray F s.H (fun v H=>v=pathV (Snd.pathA s.S k)∧H=s.H):=by
 refine Tr.enter Tryz.func18 rfl Tryz.ntmps18 rfl (fun w0=>?_)
 obtain ⟨c0,c1,c2,c3,c4,c5,c6,c7,c8,c9,c10,c11⟩:=s.cans (F:=F)
 obtain ⟨b,off,hwa,hel⟩:=hs.wrow
 have hwn:=hs.wn
 have hSl:s.S.ws.length=s.ws.length:=by simp [SdM.S]
 rw [hwa] at c2
 by_cases hk:0≤k∧k < s.wn
 · obtain ⟨j,rfl⟩:∃ j:Nat,k=j:=⟨k.toNat,by omega⟩
   obtain ⟨m,hm,hmS,hkn⟩:=SdM.wayAt hs (k:=j) (by omega)
   have hcan:=hel F j m hm
   obtain ⟨d0,d1,d2,d3⟩:=SdM.wayCans (F:=F) hm
   refine SPX ?_; repeat' (first|refine ⟨fun hc=>?_,fun hc=>?_⟩|intro)
   · exfalso
     have:=of_decide_eq_true hc
     omega
   refine WD.e rfl (Ef.callR (by exact rfl) s.flP.sub (out_tr _ s.f hs.f hs.small j)) ?_
   rintro _ _ ⟨rfl,rfl⟩
   refine ⟨.inr (fun _ h=>h),?_⟩
   refine SPX ?_; repeat' (first|refine ⟨fun hc=>?_,fun hc=>?_⟩|intro)
   refine WD.e rfl (Ef.callR (by exact rfl) (SdM.paP hm).sub (size_tr _ m.pm)) ?_
   rintro _ _ ⟨rfl,rfl⟩
   refine ⟨.inr (fun _ h=>h),?_⟩
   refine SPX ?_; repeat' (first|refine ⟨fun hc=>?_,fun hc=>?_⟩|intro)
   refine WD.e rfl (Ef.callR (by exact rfl) (SdM.paP hm).sub (rto_tr _ m.pm)) ?_
   rintro _ _ ⟨rfl,rfl⟩
   refine ⟨.inr (fun _ h=>h),?_⟩
   refine SPX ?_; repeat' (first|refine ⟨fun hc=>?_,fun hc=>?_⟩|intro)
   refine WD.e rfl (Ef.callR (by exact rfl) (SdM.paP hm).sub (active_tr _ m.pm)) ?_
   rintro _ _ ⟨rfl,rfl⟩
   refine ⟨.inr (fun _ h=>h),?_⟩
   refine SPX ?_; repeat' (first|refine ⟨fun hc=>?_,fun hc=>?_⟩|intro)
   refine Fin.retW (by exact rfl) resA (fun _ h=>h) ⟨?_,rfl⟩
   unfold Snd.pathA
   rw [if_neg (by omega),show ((j:Int)).toNat=j from rfl,hmS]
   rfl
 · have hz:Snd.pathA s.S k=(0,0,0,false):=by
    unfold Snd.pathA
    by_cases h0:k < 0
    · rw [if_pos h0]
    · rw [if_neg h0,List.getElem?_eq_none (by omega)]
   rw [hz]
   refine SPX ?_; repeat' (first|refine ⟨fun hc=>?_,fun hc=>?_⟩|intro)
   all_goals first
    | exact Fin.retW (by exact rfl) resA (fun _ h=>h) ⟨rfl,rfl⟩
    | (exfalso
       have h1:=of_decide_eq_false ‹decide (k < 0)=false›
       have h2:=of_decide_eq_false hc
       omega)
structure GBt where
 i:Nat
 s:SdM
 ka:Option Addr
 kn:Nat
 kc:Nat
 kb:HL
def intC (k:Nat):Value:=.int .i64 k
theorem filter_snoc (p:Nat→Bool) (i:Nat):(List.range (i+1)).filter p=(List.range i).filter p++if p i then [i] else []:=by
 rw [List.range_succ,List.filter_append]
 congr 1
 rw [List.filter_cons,List.filter_nil]
theorem pmap_map (g:Snd.Way→Snd.Way) (l:List Snd.Way):Snd.pmap (fun _=>g) l l.length=l.map g:=by
 rw [Snd.pmap_all]
 exact List.mapIdx_eq_iff.2 (fun i=>by simp)
set_option maxHeartbeats 4000000 in
theorem sbeat_tr (F:Nat→Option Obj) {n:Nat} (s:SdM) (hs:s.ok n) (now:Int):Tr Tryz.prog 35 [ptr s.R,.int .i64 now].toArray F s.H (fun v H=>∃ (ka:Option Addr) (kn kc:Nat) (kb:HL) (s':SdM),v=.slice ka kn kc∧OwnS 3 1 ((Snd.beatL s.S now).map intC) (.slice ka kn kc) kb∧s'.ok n∧s'.R=s.R∧s'.S=Snd.beat s.S now∧H=kb++s'.H):=by
 refine Tr.enter Tryz.func35 rfl Tryz.ntmps35 rfl (fun w0=>?_)
 obtain ⟨c0,c1,c2,c3,c4,c5,c6,c7,c8,c9,c10,c11⟩:=s.cans (F:=F)
 obtain ⟨b,off,hwa,hel⟩:=hs.wrow
 have hwn:=hs.wn
 have hnws:=hs.nws
 have hSl:s.S.ws.length=s.ws.length:=by simp [SdM.S]
 rw [hwa] at c2
 refine SPX ?_; repeat' (first|refine ⟨fun hc=>?_,fun hc=>?_⟩|intro)
 clear c0 c1 c2 c3 c4 c5 c6 c7 c8 c9 c10 c11 hel
 obtain ⟨bp,hbp⟩:∃ bp:Nat→Bool,bp=fun k=>match s.S.ws[k]? with | some w=>Pth.beats w.p now | none=>false:=⟨_,rfl⟩
 refine W.loop (G:=GBt) (fun g=>[(0,ptr s.R),(1,.int .i64 now),(5,.slice g.ka g.kn g.kc),(14,.slice (some ⟨b,off,none⟩) s.wn s.wc),(15,.int .i64 s.wn),(16,.int .i64 g.i)]) (fun g=>g.kb++g.s.H)
  (fun g=>g.i≤s.wn∧g.s.ok n∧g.s.R=s.R∧g.s.wa=s.wa∧g.s.wn=s.wn∧g.s.S={ s.S with ws:=Snd.pmap (fun _=>Snd.beatW now) s.S.ws g.i }∧OwnS 3 1 (((List.range g.i).filter bp).map intC) (.slice g.ka g.kn g.kc) g.kb) (fun g=>s.wn - g.i) ⟨0,s,none,0,0,[]⟩ ⟨Nat.zero_le _,hs,rfl,rfl,rfl,by dsimp only; rw [Snd.pmap_zero],.inl ⟨rfl,rfl,rfl⟩⟩ envA (fun _ h=>h) ?_
 rintro ⟨i,t,ka,kn,kc,kb⟩ ⟨hi,ht,hR,hta,htn,htS,hown⟩
 dsimp only at hi ht hR hta htn htS hown ⊢
 have hlen:t.ws.length=s.ws.length:=by have:=congrArg (fun x:Snd.S=>x.ws.length) htS; simpa [SdM.S,Snd.pmap] using this
 have hkn:=OwnS.len hown
 have hkl:kn≤4:=by
  have:=List.length_filter_le bp (List.range i)
  rw [List.length_map] at hkn
  rw [List.length_range] at this
  omega
 refine SPX ?_; repeat' (first|refine ⟨fun hc=>?_,fun hc=>?_⟩|intro)
 · have hi':i < s.wn:=by have:=of_decide_eq_true hc; omega
   obtain ⟨b',off',hta',hel⟩:=ht.wrow
   rw [hta,hwa] at hta'
   cases hta'
   obtain ⟨m,hm,hmS,hkn2⟩:=SdM.wayAt ht (k:=i) (by omega)
   rw [htn] at hkn2
   have hcan:=hel F i m hm
   obtain ⟨d0,d1,d2,d3⟩:=SdM.wayCans (F:=F) hm
   clear hel
   refine SPX ?_; repeat' (first|refine ⟨fun hc=>?_,fun hc=>?_⟩|intro)
   have hms:s.S.ws[i]? = some m.W:=by
    have h1:t.S.ws[i]? = some m.W:=hmS
    rw [htS] at h1
    obtain ⟨w,hw⟩:∃ w,s.S.ws[i]? = some w:=⟨s.S.ws[i]'(by omega),List.getElem?_eq_getElem _⟩
    have h2:=Snd.pmap_get (fun _=>Snd.beatW now) hw
    dsimp only at h1
    rw [h2] at h1
    rw [hw,←h1]
   have hbi:bp i=Pth.beats m.pm.s now:=by rw [hbp]; dsimp only; rw [hms]; rfl
   refine WL.e rfl (Ef.call (c:=m.pm.H) (by exact rfl) (.skipL kb (SdM.paP hm).sub) (beat_tr _ m.pm (ht.way hm).p now)) ?_
   rintro _ _ ⟨_,⟨rfl,rfl⟩,rfl⟩
   clear d0 d1 d2 d3 hcan
   refine WL.weak (H':=kb++(t.setW i { m with pm:=m.pm.with (beatS m.pm.s now) }).H) (fun _ h=>In.front kb (SdM.paE (p:=m.pm.with (beatS m.pm.s now)) hm rfl) h) ?_
   have ew:WaM.W { m with pm:=m.pm.with (beatS m.pm.s now) }=Snd.beatW now m.W:=rfl
   have hok:(t.setW i { m with pm:=m.pm.with (beatS m.pm.s now) }).ok n:=ht.setW hm rfl (by
    have:=(Snd.beat_ok ht.pl now).ws (Snd.beatW now m.W) (List.mem_map.2 ⟨m.W,List.mem_of_getElem? hmS,rfl⟩)
    rw [ew]; exact this)
   have hS':(t.setW i { m with pm:=m.pm.with (beatS m.pm.s now) }).S={ s.S with ws:=Snd.pmap (fun _=>Snd.beatW now) s.S.ws (i+1) }:=by
    rw [SdM.setW_S,htS,ew,Snd.pmap_succ _ hms]
   refine SPX ?_; repeat' (first|refine ⟨fun hc=>?_,fun hc=>?_⟩|intro)
   · have hb:bp i=true:=hbi.trans hc
     refine WL.e rfl (Ef.app (m:=1) (news:=[.int .i64 i]) (hb:=kb) (by exact rfl) (by exact rfl) rfl rfl hown (.last (.there .here)) (Src.own (n:=1) (.here rfl)) rfl (fun u hu=>by rw [List.mem_singleton.1 hu]; rfl) (by rw [hkn]; simp; omega) (by rw [hkn]; simp [maxLen]; omega)) ?_
     rintro v' _ ⟨hb',hown',rfl⟩
     obtain ⟨ja,jn,jc,rfl,_,_⟩:=OwnS.shape hown'
     refine SPX ?_; repeat' (first|refine ⟨fun hc=>?_,fun hc=>?_⟩|intro)
     rw [i64_succ (by omega)]
     refine Fin.round ⟨i+1,_,ja,jn,jc,hb'⟩ ⟨hi',hok,hR,hta,htn,hS',?_⟩ envA (fun _ h=>?_) (by dsimp only; omega)
     · rw [filter_snoc,if_pos hb,List.map_append]
       exact hown'
     · exact In.of_sub (.pickL (L:=hb') .here (.last (.there .all))) h
   · have hb:bp i=false:=hbi.trans hc
     rw [i64_succ (by omega)]
     refine Fin.round ⟨i+1,_,ka,kn,kc,kb⟩ ⟨hi',hok,hR,hta,htn,hS',?_⟩ envA (fun _ h=>h) (by dsimp only; omega)
     rw [filter_snoc,hb,if_neg (by decide),List.append_nil]
     exact hown
 · have hi':i=s.S.ws.length:=by have:=of_decide_eq_false hc; omega
   subst hi'
   refine Fin.retW (by exact rfl) resA (fun _ h=>h) ⟨ka,kn,kc,kb,t,rfl,?_,ht,hR,?_,rfl⟩
   · rw [hbp] at hown
     exact hown
   · rw [htS,pmap_map]
     rfl
set_option maxHeartbeats 2000000 in
theorem sbeaten_tr (F:Nat→Option Obj) {n:Nat} (s:SdM) (hs:s.ok n) (k sent now:Int) (hn:now≤9223372036854775807):Tr Tryz.prog 36 [ptr s.R,.int .i64 k,.int .i64 sent,.int .i64 now].toArray F s.H (fun v H=>v=.bool (Snd.beatenB s.S k sent now)∧∃ s':SdM,s'.ok n∧s'.R=s.R∧s'.S=Snd.beaten s.S k sent now∧H=s'.H):=by
 refine Tr.enter Tryz.func36 rfl Tryz.ntmps36 rfl (fun w0=>?_)
 obtain ⟨c0,c1,c2,c3,c4,c5,c6,c7,c8,c9,c10,c11⟩:=s.cans (F:=F)
 obtain ⟨b,off,hwa,hel⟩:=hs.wrow
 have hwn:=hs.wn
 have hSl:s.S.ws.length=s.ws.length:=by simp [SdM.S]
 rw [hwa] at c2
 by_cases hk:0≤k∧k < s.wn
 · obtain ⟨j,rfl⟩:∃ j:Nat,k=j:=⟨k.toNat,by omega⟩
   obtain ⟨m,hm,hmS,hkn⟩:=SdM.wayAt hs (k:=j) (by omega)
   have hcan:=hel F j m hm
   obtain ⟨d0,d1,d2,d3⟩:=SdM.wayCans (F:=F) hm
   refine SPX ?_; repeat' (first|refine ⟨fun hc=>?_,fun hc=>?_⟩|intro)
   · refine WL.e rfl (Ef.call (c:=m.pm.H) (by exact rfl) (SdM.paP hm).sub (beaten_tr _ m.pm (hs.way hm).p sent now hn)) ?_
     rintro _ _ ⟨_,⟨rfl,rfl⟩,rfl⟩
     clear c0 c1 c2 c3 c4 c5 c6 c7 c8 c9 c10 c11 d0 d1 d2 d3 hcan hel
     have ew:WaM.W { m with pm:=m.pm.with (beatenS m.pm.s sent now) }={ m.W with p:=Pth.beatenS m.W.p sent now }:=rfl
     have hS:Snd.beaten s.S j sent now={ s.S with ws:=s.S.ws.set j { m.W with p:=Pth.beatenS m.W.p sent now } }:=by
      unfold Snd.beaten
      rw [if_neg (by omega),show ((j:Int)).toNat=j from rfl,hmS]
     have hok:(s.setW j { m with pm:=m.pm.with (beatenS m.pm.s sent now) }).ok n:=hs.setW hm rfl (by
      have:=(Snd.beaten_ok hs.pl j sent now).ws { m.W with p:=Pth.beatenS m.W.p sent now } (by
       rw [hS]
       exact List.mem_set (List.getElem?_eq_some_iff.1 hmS).1 _)
      rw [ew]; exact this)
     refine SPX ?_; repeat' (first|refine ⟨fun hc=>?_,fun hc=>?_⟩|intro)
     refine Fin.retW (by exact rfl) resA (H':=(s.setW j { m with pm:=m.pm.with (beatenS m.pm.s sent now) }).H) (fun _ h=>SdM.paB (p:=m.pm.with (beatenS m.pm.s sent now)) hm rfl h) ⟨?_,_,hok,rfl,?_,rfl⟩
     · unfold Snd.beatenB
       rw [if_neg (by omega),show ((j:Int)).toNat=j from rfl,hmS]
       rfl
     · rw [SdM.setW_S,ew,hS]
   all_goals
    exfalso
    have:=of_decide_eq_false hc
    omega
 · have hz:Snd.beatenB s.S k sent now=false∧Snd.beaten s.S k sent now=s.S:=by
    unfold Snd.beatenB Snd.beaten
    by_cases h0:k < 0
    · rw [if_pos h0,if_pos h0]; exact ⟨rfl,rfl⟩
    · rw [if_neg h0,if_neg h0,List.getElem?_eq_none (by omega)]; exact ⟨rfl,rfl⟩
   rw [hz.1,hz.2]
   refine SPX ?_; repeat' (first|refine ⟨fun hc=>?_,fun hc=>?_⟩|intro)
   all_goals first
    | exact Fin.retW (by exact rfl) resA (fun _ h=>h) ⟨rfl,s,hs,rfl,rfl,rfl⟩
    | (exfalso
       have h1:=of_decide_eq_true ‹decide (k≥0)=true›
       have h2:=of_decide_eq_true hc
       omega)
structure GLt where
 i:Nat
 s:SdM
 la:Int
 go:Int
theorem late_snoc (now:Int) (i:Nat) (g:Snd.Late):(List.range (i+1)).foldl (Snd.late1 now) g=Snd.late1 now ((List.range i).foldl (Snd.late1 now) g) i:=by
 rw [List.range_succ,List.foldl_append]
 rfl
set_option maxHeartbeats 4000000 in
theorem slate_tr (F:Nat→Option Obj) {n:Nat} (s:SdM) (hs:s.ok n) (now:Int):Tr Tryz.prog 33 [ptr s.R,.int .i64 now].toArray F s.H (fun v H=>v=tup [.int .i64 (Snd.timeout s.S now).late,.int .i64 (Snd.timeout s.S now).gone]∧∃ s':SdM,s'.ok n∧s'.R=s.R∧s'.S=(Snd.timeout s.S now).s∧H=s'.H):=by
 refine Tr.enter Tryz.func33 rfl Tryz.ntmps33 rfl (fun w0=>?_)
 obtain ⟨c0,c1,c2,c3,c4,c5,c6,c7,c8,c9,c10,c11⟩:=s.cans (F:=F)
 obtain ⟨b,off,hwa,hel⟩:=hs.wrow
 have hwn:=hs.wn
 have hnws:=hs.nws
 have hSl:s.S.ws.length=s.ws.length:=by simp [SdM.S]
 have hcl:=Snd.clock_rng now
 rw [hwa] at c2
 refine SPX ?_; repeat' (first|refine ⟨fun hc=>?_,fun hc=>?_⟩|intro)
 clear c0 c1 c2 c3 c4 c5 c6 c7 c8 c9 c10 c11 hel
 refine W.loop (G:=GLt) (fun g=>[(0,ptr s.R),(1,.int .i64 now),(4,.int .i64 g.la),(5,.int .i64 g.go),(13,.slice (some ⟨b,off,none⟩) s.wn s.wc),(14,.int .i64 s.wn),(15,.int .i64 g.i)]) (fun g=>g.s.H)
  (fun g=>g.i≤s.wn∧g.s.ok n∧g.s.R=s.R∧(g.s.wa=s.wa∧g.s.wn=s.wn)∧(⟨g.s.S,g.la,g.go⟩:Snd.Late)=(List.range g.i).foldl (Snd.late1 (Snd.clock now)) ⟨s.S,0,0⟩∧g.s.ws.length=s.ws.length∧0≤g.go∧g.go≤g.la∧g.la≤g.i) (fun g=>s.wn - g.i) ⟨0,s,0,0⟩ ⟨Nat.zero_le _,hs,rfl,⟨rfl,rfl⟩,rfl,rfl,Int.le_refl _,Int.le_refl _,Int.le_refl _⟩ envA (fun _ h=>h) ?_
 rintro ⟨i,t,la,go⟩ ⟨hi,ht,hR,⟨hta,htn⟩,htS,hlen,hg0,hg1,hg2⟩
 dsimp only at hi ht hR hta htn htS hlen hg0 hg1 hg2 ⊢
 obtain ⟨c0,c1,c2,c3,c4,c5,c6,c7,c8,c9,c10,c11⟩:=t.cans (F:=F)
 rw [hR] at c0 c1 c2 c3 c4 c5 c6 c7 c8 c9 c10 c11
 refine SPQ ?_; repeat' (first|refine ⟨fun hc=>?_,fun hc=>?_⟩|intro)
 cases hc:decide ((i:Int) < s.wn) with
 | false=>
   have hi':i=s.S.ws.length:=by have:=of_decide_eq_false hc; omega
   subst hi'
   refine SPY ?_; repeat' (first|refine ⟨fun hc=>?_,fun hc=>?_⟩|intro)
   have e:=htS
   unfold Snd.timeout
   rw [←e]
   exact Fin.retW (by exact rfl) resA (fun _ h=>h) ⟨rfl,t,ht,hR,rfl,rfl⟩
 | true=>
 have hi':i < s.wn:=by have:=of_decide_eq_true hc; omega
 obtain ⟨b',off',hta',hel⟩:=ht.wrow
 rw [hta,hwa] at hta'
 cases hta'
 obtain ⟨m,hm,hmS,hkn2⟩:=SdM.wayAt ht (k:=i) (by omega)
 rw [htn] at hkn2
 have hcan:=hel F i m hm
 obtain ⟨d0,d1,d2,d3⟩:=SdM.wayCans (F:=F) hm
 have hmt:m.W.timer=m.timer:=rfl
 have hsnoc:=late_snoc (Snd.clock now) i ⟨s.S,0,0⟩
 rw [←htS] at hsnoc
 have hok1:=Snd.late1_ok (now:=Snd.clock now) (g:=⟨t.S,la,go⟩) ht.pl i
 have hquiet:Snd.ran m.W (Snd.clock now)=false→(⟨t.S,la,go⟩:Snd.Late)=(List.range (i+1)).foldl (Snd.late1 (Snd.clock now)) ⟨s.S,0,0⟩:=fun h=>by
  rw [hsnoc]
  unfold Snd.late1
  dsimp only
  rw [hmS]
  dsimp only
  rw [if_neg (by rw [h]; decide)]
 clear hel
 refine SPY ?_; repeat' (first|refine ⟨fun hc=>?_,fun hc=>?_⟩|intro)
 refine W.drawA ?_
 refine SPY ?_; repeat' (first|refine ⟨fun hc=>?_,fun hc=>?_⟩|intro)
 · have hq:Snd.ran m.W (Snd.clock now)=false:=by
    have:m.timer=-1:=by simpa using hc
    unfold Snd.ran
    rw [hmt,this]
    rfl
   rw [i64_succ (by omega)]
   exact Fin.round ⟨i+1,t,la,go⟩ ⟨hi',ht,hR,⟨hta,htn⟩,hquiet hq,hlen,hg0,hg1,by dsimp only; omega⟩ envA (fun _ h=>h) (by dsimp only; omega)
 have htm:¬ m.timer=-1:=by simpa using hc
 refine WD.e rfl (Ef.callR (by exact rfl) (.nil _) (clock_tr _ now)) ?_
 rintro _ _ ⟨rfl,rfl⟩
 refine ⟨.inr (fun _ h=>h),?_⟩
 refine SPY ?_; repeat' (first|refine ⟨fun hc=>?_,fun hc=>?_⟩|intro)
 · have hq:Snd.ran m.W (Snd.clock now)=false:=by
    unfold Snd.ran
    rw [hmt,hc]
    simp
   rw [i64_succ (by omega)]
   exact Fin.round ⟨i+1,t,la,go⟩ ⟨hi',ht,hR,⟨hta,htn⟩,hquiet hq,hlen,hg0,hg1,by dsimp only; omega⟩ envA (fun _ h=>h) (by dsimp only; omega)
 have hq:Snd.ran m.W (Snd.clock now)=true:=by
  unfold Snd.ran
  rw [hmt,hc,decide_eq_false htm]
  rfl
 refine WL.e0 (Ef.st rfl rfl rfl (SdM.wayPut (m':={ m with timer:=-1 }) hm rfl rfl (off:=0+1) rfl)) ?_
 rintro _ _ ⟨rfl,rfl⟩
 refine SPY ?_; repeat' (first|refine ⟨fun hc=>?_,fun hc=>?_⟩|intro)
 refine WL.e0 (Ef.st rfl rfl rfl (SdM.wayPut (m':={ m with timer:=-1,set:=false }) (SdM.setW_get hm { m with timer:=-1 }) rfl rfl (off:=0+2) rfl)) ?_
 rintro _ _ ⟨rfl,rfl⟩
 rw [SdM.setW_setW]
 obtain ⟨m1,hm1⟩:∃ m1:WaM,m1={ m with timer:=-1,set:=false }:=⟨_,rfl⟩
 rw [←hm1]
 have hb1:m1.b=m.b:=by rw [hm1]
 have hp1:m1.pm=m.pm:=by rw [hm1]
 have hwo:=ht.way hm
 have hok2:(t.setW i m1).ok n:=ht.setW hm hb1 (by rw [hm1]; exact ⟨hwo.p,by show -1≤(-1:Int)∧(-1:Int)≤_; omega,hwo.mark⟩)
 clear c0 c1 c2 c3 c4 c5 c6 c7 c8 c9 c10 c11 d0 d1 d2 d3 hcan
 have c1:Sl.Can F (t.setW i m1).H s.R (0+1) [ptr t.f.R]:=by rw [←hR]; exact ((t.setW i m1).cans (F:=F)).2.1
 refine SPY ?_; repeat' (first|refine ⟨fun hc=>?_,fun hc=>?_⟩|intro)
 refine WL.e rfl (Ef.call (c:=t.f.H) (by exact rfl) (t.setW i m1).flP.sub (mark_tr _ t.f ht.f i)) ?_
 rintro _ _ ⟨_,⟨rfl,f',hf',rfl,hfR,hfS⟩,rfl⟩
 refine WL.weak (H':=({ t.setW i m1 with f:=f' }:SdM).H) (fun _ h=>SdM.flB (s:=t.setW i m1) hfR h) ?_
 have hpl2:=hok2.pl
 have hok3:({ t.setW i m1 with f:=f' }:SdM).ok n:=hok2.setF hf' ({ hpl2 with f:=by rw [hfS]; exact hpl2.f.mark i,paths:=by rw [hfS]; exact hpl2.paths }:Snd.Ok n { (t.setW i m1).S with f:=f'.S })
 obtain ⟨u,hu⟩:∃ u:SdM,u={ t.setW i m1 with f:=f' }:=⟨_,rfl⟩
 rw [←hu] at hok3 ⊢
 have hum:u.ws[i]? = some m1:=by rw [hu]; exact SdM.setW_get hm m1
 have huS:u.S={ t.S with ws:=t.S.ws.set i m1.W,f:=Flt.mark t.f.S i }:=by
  rw [hu,←hfS]
  show ({ (t.setW i m1).S with f:=f'.S }:Snd.S)=_
  rw [SdM.setW_S]
 clear c1
 obtain ⟨d0,_,_,_⟩:=SdM.wayCans (F:=F) hum
 rw [hb1,hp1] at d0
 refine SPY ?_; repeat' (first|refine ⟨fun hc=>?_,fun hc=>?_⟩|intro)
 refine WL.e rfl (Ef.call (c:=m.pm.H) (by exact rfl) (by have:=(SdM.paP hum).sub; rw [hp1] at this; exact this) (late_tr _ m.pm hwo.p)) ?_
 rintro _ _ ⟨_,⟨rfl,rfl⟩,rfl⟩
 clear d0
 refine WL.weak (H':=(u.setW i { m1 with pm:=m.pm.with (Pth.late m.pm.s) }).H) (fun _ h=>SdM.paB hum (by rw [hp1]; rfl) h) ?_
 have ew:WaM.W { m1 with pm:=m.pm.with (Pth.late m.pm.s) }=Snd.lateW m.W:=by rw [hm1]; rfl
 have hend:(⟨(u.setW i { m1 with pm:=m.pm.with (Pth.late m.pm.s) }).S,la+1,go+if Pth.lateA m.pm.s then 1 else 0⟩:Snd.Late)=(List.range (i+1)).foldl (Snd.late1 (Snd.clock now)) ⟨s.S,0,0⟩:=by
  rw [hsnoc]
  unfold Snd.late1
  dsimp only
  rw [hmS]
  dsimp only
  rw [if_pos hq,SdM.setW_S,ew,huS]
  dsimp only
  rw [List.set_set]
  rfl
 have hok4:(u.setW i { m1 with pm:=m.pm.with (Pth.late m.pm.s) }).ok n:=hok3.setW hum rfl (by
  rw [ew]
  exact ⟨Pth.late_ok hwo.p,by dsimp only [Snd.lateW]; omega,hwo.mark⟩)
 have huR:u.R=s.R:=by rw [hu]; exact hR
 have huw:u.wa=s.wa∧u.wn=s.wn:=by rw [hu]; exact ⟨hta,htn⟩
 have hul:(u.setW i { m1 with pm:=m.pm.with (Pth.late m.pm.s) }).ws.length=s.ws.length:=by
  show (u.ws.set i _).length=_
  rw [List.length_set,hu]
  show (t.ws.set i m1).length=_
  rw [List.length_set]
  exact hlen
 rw [i64_id (n:=la+1) (by omega) (by omega)]
 refine SPY ?_; repeat' (first|refine ⟨fun hc=>?_,fun hc=>?_⟩|intro)
 · rw [i64_succ (by omega),i64_id (n:=go+1) (by omega) (by omega)]
   rw [hc,if_pos rfl] at hend
   exact Fin.round ⟨i+1,_,la+1,go+1⟩ ⟨hi',hok4,huR,huw,hend,hul,by dsimp only; omega,by dsimp only; omega,by dsimp only; omega⟩ envA (fun _ h=>h) (by dsimp only; omega)
 · rw [i64_succ (by omega)]
   rw [hc,if_neg (by decide),Int.add_zero] at hend
   exact Fin.round ⟨i+1,_,la+1,go⟩ ⟨hi',hok4,huR,huw,hend,hul,by dsimp only; omega,by dsimp only; omega,by dsimp only; omega⟩ envA (fun _ h=>h) (by dsimp only; omega)
end Go.Proofs.YtlfpemmdehmbfaaGreat
