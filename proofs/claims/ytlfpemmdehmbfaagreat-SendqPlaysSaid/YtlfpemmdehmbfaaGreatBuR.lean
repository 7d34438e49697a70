/- Some texts as one. The document's sender: timers at rest, its paths, a message put: walked. Conditions: it is well formed. The document's sender: heartbeats, timeouts: walked. Conditions: it is well formed. The document's sender: what is owed is laid: walked. Conditions: it is well formed. A sender that lost nothing, on one path: what goes next, in plain Lean. No conditions: laws only. What goes from a sender, step by step, in plain Lean. No conditions: laws only. -/
import Derived.Test.YtlfpemmdehmbfaaGreatBuD
import Derived.Test.YtlfpemmdehmbfaaGreatBuP
import Derived.Test.YtlfpemmdehmbfaaGreatBuQ
import Derived.Test.YtlfpemmdehmbfaaGreatBuK
namespace Go.Proofs.YtlfpemmdehmbfaaGreat
open Go Go.Sl Go.Pth
theorem DsM.slc {t s:DsM} (h:t.cells=s.cells):(t.pa=s.pa∧t.pn=s.pn)∧(t.ta=s.ta∧t.tn=s.tn)∧(t.sa=s.sa∧t.sn=s.sn)∧(t.ma=s.ma∧t.mn=s.mn)∧t.q.R=s.q.R∧t.f.R=s.f.R:=by
 unfold DsM.cells ptr at h
 simp only [List.cons.injEq,Value.slice.injEq,Value.pointer.injEq,Option.some.injEq,Addr.mk.injEq] at h
 obtain ⟨h0,h1,h2,h3,h4,h5,_⟩:=h
 exact ⟨⟨h2.1,h2.2.1⟩,⟨h3.1,h3.2.1⟩,⟨h4.1,h4.2.1⟩,⟨h5.1,h5.2.1⟩,h0.1,h1.1⟩
theorem DsM.cansL {F:Nat→Option Obj} {t s:DsM} (hR:t.R=s.R) (h:t.cells=s.cells):Sl.Can F t.H s.R (0+0) [ptr s.q.R]∧Sl.Can F t.H s.R (0+1) [ptr s.f.R]∧Sl.Can F t.H s.R (0+2) [.slice s.pa s.pn s.pc]∧Sl.Can F t.H s.R (0+3) [.slice s.ta s.tn s.tc]∧Sl.Can F t.H s.R (0+4) [.slice s.sa s.sn s.sc]∧Sl.Can F t.H s.R (0+5) [.slice s.ma s.mn s.mc]:=by
 have hc:=t.can (F:=F)
 rw [hR,h] at hc
 exact ⟨hc.one (i:=0) rfl,hc.one (i:=1) rfl,hc.one (i:=2) rfl,hc.one (i:=3) rfl,hc.one (i:=4) rfl,hc.one (i:=5) rfl⟩
structure GDs where
 i:Nat
 s:DsM
set_option maxHeartbeats 2000000 in
theorem drest_tr (F:Nat→Option Obj) {n:Nat} (s:DsM) (hs:s.ok n):Tr Tryz.prog 99 [ptr s.R].toArray F s.H (fun v H=>v=.tuple #[]∧∃ s':DsM,s'.ok n∧H=s'.H∧s'.R=s.R∧s'.S=Snd.restAll s.S):=by
 refine Tr.enter Tryz.func99 rfl Tryz.ntmps99 rfl (fun w0=>?_)
 obtain ⟨tb,toff,hta,_⟩:=hs.trow
 have hwn:=hs.pn
 have hnws:=hs.nws
 refine SPX ?_; repeat' (first|refine ⟨fun hc=>?_,fun hc=>?_⟩|intro)
 refine W.loop (G:=GDs) (fun g=>[(0,ptr s.R),(2,.int .i64 g.i)]) (fun g=>g.s.H) (fun g=>g.i≤s.pn∧g.s.ok n∧g.s.R=s.R∧g.s.cells=s.cells∧g.s.S={ s.S with ws:=Snd.pmap (Snd.restW s.f.S) s.S.ws g.i }) (fun g=>s.pn - g.i) ⟨0,s⟩ ⟨Nat.zero_le _,hs,rfl,rfl,by dsimp only; rw [Snd.pmap_zero]⟩ envA (fun _ h=>h) ?_
 rintro ⟨i,t⟩ ⟨hi,ht,hR,hcs,htS⟩
 dsimp only at hi ht hR hcs htS ⊢
 obtain ⟨c0,c1,c2,c3,c4,c5⟩:=DsM.cansL (F:=F) hR hcs
 obtain ⟨⟨e1,e2⟩,⟨e3,e4⟩,_,_,_,e5⟩:=DsM.slc hcs
 have hlen:t.ws.length=s.ws.length:=by have:=congrArg (fun x:Snd.S=>x.ws.length) htS; simpa [DsM.S,Snd.pmap] using this
 rw [hta] at c3
 rw [←e5] at c1
 refine SPX ?_; repeat' (first|refine ⟨fun hc=>?_,fun hc=>?_⟩|intro)
 · have hi':i < s.pn:=by have:=of_decide_eq_true hc; omega
   obtain ⟨m,hm,hmS,hkn,hkt,hks,hkm⟩:=DsM.wayAt ht (k:=i) (by omega)
   rw [e4] at hkt
   have htf:t.f.S=s.f.S:=congrArg Snd.S.f htS
   have hms:s.S.ws[i]? = some m.W:=by
    have h1:t.S.ws[i]? = some m.W:=hmS
    rw [htS] at h1
    obtain ⟨w,hw⟩:∃ w,s.S.ws[i]? = some w:=⟨s.S.ws[i]'(by simp [DsM.S]; omega),List.getElem?_eq_getElem _⟩
    have h2:=Snd.pmap_get (Snd.restW s.f.S) hw
    dsimp only at h1
    rw [h2] at h1
    rw [hw,←h1]
   refine WL.e rfl (Ef.callR (by exact rfl) t.flP.sub (rout_tr _ t.f ht.f ht.small i)) ?_
   rintro _ _ ⟨rfl,rfl⟩
   refine SPX ?_; repeat' (first|refine ⟨fun hc=>?_,fun hc=>?_⟩|intro)
   · have h0:Flt.out s.f.S i=0:=by rw [←htf]; simpa using hc
     have ew:DwM.W { m with timer:=-1 }=Snd.restW s.f.S i m.W:=by unfold Snd.restW DwM.W; rw [if_pos h0]
     obtain ⟨s',h1,h2,h3,_,_,_,h5,h4⟩:=ht.putT hm (e3.trans hta) (-1) (by rw [ew]; exact Snd.restW_ok (ht.way hm))
     refine WL.e0 (Ef.st rfl rfl rfl h2) ?_
     rintro _ _ ⟨rfl,rfl⟩
     clear c0 c1 c2 c3 c4 c5
     refine SPX ?_; repeat' (first|refine ⟨fun hc=>?_,fun hc=>?_⟩|intro)
     rw [i64_succ (by omega)]
     refine Fin.round ⟨i+1,s'⟩ ⟨hi',h1,h3.trans hR,h5.trans hcs,?_⟩ envA (fun _ h=>h) (by dsimp only; omega)
     rw [h4,htS,ew,Snd.pmap_succ _ hms]
   · have h0:¬ Flt.out s.f.S i=0:=by rw [←htf]; simpa using hc
     have ew:m.W=Snd.restW s.f.S i m.W:=by unfold Snd.restW; rw [if_neg h0]
     rw [i64_succ (by omega)]
     refine Fin.round ⟨i+1,t⟩ ⟨hi',ht,hR,hcs,?_⟩ envA (fun _ h=>h) (by dsimp only; omega)
     rw [htS,Snd.pmap_succ _ hms,←ew]
     congr 1
     have h3:=Snd.pmap_get (Snd.restW s.f.S) hms
     exact (set_get_self h3).symm
 · have hi':i=s.S.ws.length:=by have:=of_decide_eq_false hc; simp [DsM.S]; omega
   subst hi'
   refine Fin.endW (by exact rfl) resA (fun _ h=>h) ⟨rfl,t,ht,rfl,hR,?_⟩
   rw [htS,Snd.pmap_all]
   rfl
set_option maxHeartbeats 2000000 in
theorem dpath_tr (F:Nat→Option Obj) {n:Nat} (s:DsM) (hs:s.ok n) (k:Int):Tr Tryz.prog 19 [ptr s.R,.int .i64 k].toArray F s.H (fun v H=>v=pathV (Snd.pathA s.S k)∧H=s.H):=by
 refine Tr.enter Tryz.func19 rfl Tryz.ntmps19 rfl (fun w0=>?_)
 obtain ⟨c0,c1,c2,c3,c4,c5,c6,c7,c8,c9,c10,c11,c12,c13,c14⟩:=s.cans (F:=F)
 obtain ⟨b,off,hpa,hel⟩:=hs.prow
 have hwn:=hs.pn
 have hSl:s.S.ws.length=s.ws.length:=by simp [DsM.S]
 rw [hpa] at c2
 by_cases hk:0≤k∧k < s.pn
 · obtain ⟨j,rfl⟩:∃ j:Nat,k=j:=⟨k.toNat,by omega⟩
   obtain ⟨m,hm,hmS,hkn,hkt,hks,hkm⟩:=DsM.wayAt hs (k:=j) (by omega)
   have hcan:=hel F j m hm
   refine SPX ?_; repeat' (first|refine ⟨fun hc=>?_,fun hc=>?_⟩|intro)
   · exfalso
     have:=of_decide_eq_true hc
     omega
   refine WD.e rfl (Ef.callR (by exact rfl) s.flP.sub (rout_tr _ s.f hs.f hs.small j)) ?_
   rintro _ _ ⟨rfl,rfl⟩
   refine ⟨.inr (fun _ h=>h),?_⟩
   refine SPX ?_; repeat' (first|refine ⟨fun hc=>?_,fun hc=>?_⟩|intro)
   refine WD.e rfl (Ef.callR (by exact rfl) (DsM.paP hm).sub (dsize_tr _ m.p)) ?_
   rintro _ _ ⟨rfl,rfl⟩
   refine ⟨.inr (fun _ h=>h),?_⟩
   refine SPX ?_; repeat' (first|refine ⟨fun hc=>?_,fun hc=>?_⟩|intro)
   refine WD.e rfl (Ef.callR (by exact rfl) (DsM.paP hm).sub (drto_tr _ m.p)) ?_
   rintro _ _ ⟨rfl,rfl⟩
   refine ⟨.inr (fun _ h=>h),?_⟩
   refine SPX ?_; repeat' (first|refine ⟨fun hc=>?_,fun hc=>?_⟩|intro)
   refine WD.e rfl (Ef.callR (by exact rfl) (DsM.paP hm).sub (dactive_tr _ m.p)) ?_
   rintro _ _ ⟨rfl,rfl⟩
   refine ⟨.inr (fun _ h=>h),?_⟩
   refine SPX ?_; repeat' (first|refine ⟨fun hc=>?_,fun hc=>?_⟩|intro)
   refine Fin.retW (by exact rfl) resA (fun _ h=>h) ⟨?_,rfl⟩
   unfold Snd.pathA
   rw [if_neg (by omega),show ((j:Int)).toNat=j from rfl,hmS]
   rfl
 · have hz:Snd.pathA s.S k=(0,0,0,false):=by
    unfold Snd.pathA
    by_cases h0:k < 0
    · rw [if_pos h0]
    · rw [if_neg h0,List.getElem?_eq_none (by omega)]
   rw [hz]
   refine SPX ?_; repeat' (first|refine ⟨fun hc=>?_,fun hc=>?_⟩|intro)
   all_goals first
    | exact Fin.retW (by exact rfl) resA (fun _ h=>h) ⟨rfl,rfl⟩
    | (exfalso
       have h1:=of_decide_eq_false ‹decide (k < 0)=false›
       have h2:=of_decide_eq_false hc
       omega)
set_option maxHeartbeats 4000000 in
theorem dsput_tr (F:Nat→Option Obj) {n:Nat} (s:DsM) (hs:s.ok n) (hn:n < 1000000) (stream:Int) (hst:0≤stream∧stream < 65536) (ord:Bool) (bs:List UInt8) (ba:Option Addr) (bn bc:Nat) (hsrc:Lst F [] 1 (bs.map B) ba bn bc) (hbs:bs.length≤1000000000000) (lasts now:Int) :
 Tr Tryz.prog 37 [ptr s.R,.agg [.int .u16 stream,.bool ord,.slice ba bn bc].toArray,.int .i64 lasts,.int .i64 now].toArray F s.H (fun v H=>v=.int .i64 (Snd.putE s.S stream bs.length lasts now)∧∃ s':DsM,s'.ok (n+1)∧H=s'.H∧s'.R=s.R∧s'.S=Snd.put s.S stream ord bs lasts now):=by
 refine Tr.enter Tryz.func37 rfl Tryz.ntmps37 rfl (fun w0=>?_)
 obtain ⟨c0,c1,c2,c3,c4,c5,c6,c7,c8,c9,c10,c11,c12,c13,c14⟩:=s.cans (F:=F)
 have hbn:bn=bs.length:=by have:=hsrc.len; simp at this; omega
 have hup:=Snd.put_ok hs.pl hst.1 ord bs lasts now
 have hmany:0≤s.q.many∧s.q.many < 1000000000:=by have:=hs.pl.many; dsimp only [DsM.S,DqM.S] at this; omega
 have hqf:s.q.is.length≤n:=by have:=hs.pl.qfew; simpa [DsM.S,DqM.S] using this
 have hfirst:=hs.pl.first
 have hcl:=Snd.clock_rng now
 have hsu:s.ok (n+1):=⟨hs.q,hs.f,hs.ways,hs.tims,hs.sets,hs.marks,hs.lives,hs.owed,hs.own,hs.pl.up (Nat.le_succ n)⟩
 refine SPX ?_; repeat' (first|refine ⟨fun hc=>?_,fun hc=>?_⟩|intro)
 · have h1:=of_decide_eq_true hc
   exact Fin.retW (by exact rfl) resA (H':=s.H) (fun _ h=>h.sublist findA) ⟨by unfold Snd.putE; rw [if_pos h1]; rfl,s,hsu,rfl,rfl,by unfold Snd.put Snd.putE; rw [if_pos h1]; rfl⟩
 · have hl0:=of_decide_eq_false ‹decide (lasts < 0)=false›
   have h1:=of_decide_eq_true hc
   have h2:s.S.first < (bs.length:Int):=by show s.first < _; omega
   exact Fin.retW (by exact rfl) resA (H':=s.H) (fun _ h=>h.sublist findA) ⟨by unfold Snd.putE; rw [if_neg hl0,if_pos h2]; rfl,s,hsu,rfl,rfl,by unfold Snd.put Snd.putE; rw [if_neg hl0,if_pos h2]; rfl⟩
 all_goals
  rename_i b5 _ _
  have hl0:=of_decide_eq_false ‹decide (lasts < 0)=false›
  have hf0:=of_decide_eq_false ‹decide ((bn:Int) > s.first)=false›
 · have hl1:=of_decide_eq_true hc
   refine WL.e rfl (Ef.callR (by exact rfl) (.nil _) (dclock_tr _ now)) ?_
   rintro _ _ ⟨rfl,rfl⟩
   refine SPY ?_; repeat' (first|refine ⟨fun hc=>?_,fun hc=>?_⟩|intro)
   obtain ⟨hue,hup0⟩:=untilOf_pos (now:=now) hl1
   have hur:=Snd.untilOf_rng lasts now
   simp only [Go.Pth.go_mn]
   rw [hue,i64_id (n:=Snd.untilOf lasts now) (by omega) (by omega)]
   refine W.drawA ?_
   refine SPX ?_; repeat' (first|refine ⟨fun hc=>?_,fun hc=>?_⟩|intro)
   have hu0:Snd.untilOf lasts now=Snd.untilOf lasts now:=rfl
   refine WD.e rfl (Ef.callF (c:=s.q.H) (by exact rfl) (.skip _ s.oqP.sub) (fun hd=>doput_tr _ s.q hs.q hmany (by omega) stream hst ord bs ba bn bc (hsrc.mono (fun _ h=>addF_in hd h)) hbs _)) ?_
   rintro _ _ ⟨_,⟨rfl,o',ho',rfl,hR',hS'⟩,rfl⟩
   refine ⟨.inl (by kernel_rfl),?_⟩
   refine WD.weak (H':=(b5,.cells [.int .u16 stream,.bool ord,.slice ba bn bc].toArray 38 (0,0))::({ s with q:=o' }:DsM).H) (fun _ h=>In.front1 (s.oqE hR') h) ?_
   dsimp only [tup]
   obtain ⟨E,hE⟩:∃ E,Oq.putE s.q.S stream bs.length (Snd.untilOf lasts now)=E:=⟨_,rfl⟩
   have hputE:Snd.putE s.S stream bs.length lasts now=E:=by
    unfold Snd.putE
    rw [if_neg hl0,if_neg (by show ¬ s.first < (bs.length:Int); omega)]
    exact hE
   have hput0:E≠0→Snd.put s.S stream ord bs lasts now=s.S:=fun h0=>by unfold Snd.put; rw [if_neg (by rw [hputE]; exact h0)]
   have hput1:E=0→Snd.put s.S stream ord bs lasts now={ s.S with q:=Oq.put s.S.q stream ord bs (Snd.untilOf lasts now),lives:=if Snd.untilOf lasts now > 0 then s.lives++[⟨s.q.many,Snd.untilOf lasts now⟩] else s.lives }:=fun h0=>by unfold Snd.put; rw [if_pos (by rw [hputE]; exact h0)]; rfl
   have hq0:E≠0→o'.S=s.q.S:=fun h0=>by rw [hS']; unfold Oq.put; rw [if_neg]; rw [hu0] at hE; rw [hE]; exact h0
   have hq1:o'.S=Oq.put s.S.q stream ord bs (Snd.untilOf lasts now):=by rw [hu0]; exact hS'
   rw [hu0] at hE
   rw [hE,hputE]
   clear c0 c1 c2 c3 c4 c5 c6 c7 c8 c9 c10 c11 c12 c13 c14
   obtain ⟨c0,c1,c2,c3,c4,c5,c6,c7,c8,c9,c10,c11,c12,c13,c14⟩:=DsM.cans (F:=F) { s with q:=o' }
   dsimp only at c0 c1 c2 c3 c4 c5 c6 c7 c8 c9 c10 c11 c12 c13 c14
   refine SPX ?_; repeat' (first|refine ⟨fun hc=>?_,fun hc=>?_⟩|intro)
   · have e0:E=0:=by simpa using ‹(E == 0)=true›
     rw [if_pos e0]
     have hlf:=hs.pl.lfew
     refine WL.e rfl (Ef.app (m:=1) (news:=[.int .i64 s.q.many,.int .i64 (Snd.untilOf lasts now)]) (hb:=s.lb) (by exact rfl) (by exact rfl) rfl rfl hs.lives (.skip _ (.skip _ (DsM.lvP { s with q:=o' }).sub)) (Src.own (n:=2) (.here rfl)) rfl (by simp [Value.oneCell']) (by rw [flat_len' lifeC 2 lifeC_len]; dsimp only [DsM.S] at hlf; simp; omega) (by rw [flat_len' lifeC 2 lifeC_len]; dsimp only [DsM.S] at hlf; simp [maxLen]; omega)) ?_
     rintro v' _ ⟨hb',hown',rfl⟩
     obtain ⟨ja,jn,jc,rfl,_,_⟩:=OwnS.shape hown'
     refine SPX ?_; repeat' (first|refine ⟨fun hc=>?_,fun hc=>?_⟩|intro)
     refine Fin.retW (by exact rfl) resA (H':=({ s with q:=o',lives:=s.lives++[⟨s.q.many,Snd.untilOf lasts now⟩],la:=ja,ln:=jn,lc:=jc,lb:=hb' }:DsM).H) (fun _ h=>?_) ⟨rfl,{ s with q:=o',lives:=s.lives++[⟨s.q.many,Snd.untilOf lasts now⟩],la:=ja,ln:=jn,lc:=jc,lb:=hb' },⟨ho',hs.f,hs.ways,hs.tims,hs.sets,hs.marks,by dsimp only; rw [List.flatMap_append]; exact hown',hs.owed,hs.own,?_⟩,rfl,rfl,?_⟩
     · unfold DsM.H DsM.T DsM.X
       exact In.of_sub (.pick (.right (.there (.there .here))) (.pickL (L:=o'.H) (.right (.there (.there .here))) (.pickL (L:=s.f.H) (.right (.there (.there .here))) (.pickL (L:=s.tb) (.right (.there (.there .here))) (.pickL (L:=s.sb) (.right (.there (.there .here))) (.pickL (L:=s.mb) (.right (.there (.there .here))) (.pickL (L:=s.pb) (.right (.there (.there .here))) (.pickL (L:=s.WH) (.right (.there (.there .here))) (.pickL (L:=hb') .here (.last (.there (.there .all)))))))))))) h
     · have hup:=hup
       rw [hput1 e0,if_pos hup0,←hq1] at hup
       exact hup
     · rw [hput1 e0,if_pos hup0,←hq1]
       rfl
   · have hul:=of_decide_eq_false hc
     exact absurd hup0 hul
   · have e0:E≠0:=by simpa using hc
     refine Fin.retW (by exact rfl) resA (H':=({ s with q:=o' }:DsM).H) (fun _ h=>h.sublist findA) ⟨rfl,{ s with q:=o' },?_,rfl,rfl,?_⟩
     · refine hs.setO ho' ?_
       rw [hq0 e0]
       exact hs.pl.up (Nat.le_succ n)
     · rw [hput0 e0]
       show ({ s.S with q:=o'.S }:Snd.S)=_
       rw [hq0 e0]
       rfl
 · have hl1:=of_decide_eq_false hc
   have hu0:=untilOf_zero (now:=now) hl1
   have hul:¬ Snd.untilOf lasts now > 0:=by rw [hu0]; omega
   refine WD.e rfl (Ef.callF (c:=s.q.H) (by exact rfl) (.skip _ s.oqP.sub) (fun hd=>doput_tr _ s.q hs.q hmany (by omega) stream hst ord bs ba bn bc (hsrc.mono (fun _ h=>addF_in hd h)) hbs _)) ?_
   rintro _ _ ⟨_,⟨rfl,o',ho',rfl,hR',hS'⟩,rfl⟩
   refine ⟨.inl (by kernel_rfl),?_⟩
   refine WD.weak (H':=(b5,.cells [.int .u16 stream,.bool ord,.slice ba bn bc].toArray 38 (0,0))::({ s with q:=o' }:DsM).H) (fun _ h=>In.front1 (s.oqE hR') h) ?_
   dsimp only [tup]
   obtain ⟨E,hE⟩:∃ E,Oq.putE s.q.S stream bs.length (Snd.untilOf lasts now)=E:=⟨_,rfl⟩
   have hputE:Snd.putE s.S stream bs.length lasts now=E:=by
    unfold Snd.putE
    rw [if_neg hl0,if_neg (by show ¬ s.first < (bs.length:Int); omega)]
    exact hE
   have hput0:E≠0→Snd.put s.S stream ord bs lasts now=s.S:=fun h0=>by unfold Snd.put; rw [if_neg (by rw [hputE]; exact h0)]
   have hput1:E=0→Snd.put s.S stream ord bs lasts now={ s.S with q:=Oq.put s.S.q stream ord bs (Snd.untilOf lasts now),lives:=if Snd.untilOf lasts now > 0 then s.lives++[⟨s.q.many,Snd.untilOf lasts now⟩] else s.lives }:=fun h0=>by unfold Snd.put; rw [if_pos (by rw [hputE]; exact h0)]; rfl
   have hq0:E≠0→o'.S=s.q.S:=fun h0=>by rw [hS']; unfold Oq.put; rw [if_neg]; rw [hu0] at hE; rw [hE]; exact h0
   have hq1:o'.S=Oq.put s.S.q stream ord bs (Snd.untilOf lasts now):=by rw [hu0]; exact hS'
   rw [hu0] at hE
   rw [hE,hputE]
   clear c0 c1 c2 c3 c4 c5 c6 c7 c8 c9 c10 c11 c12 c13 c14
   obtain ⟨c0,c1,c2,c3,c4,c5,c6,c7,c8,c9,c10,c11,c12,c13,c14⟩:=DsM.cans (F:=F) { s with q:=o' }
   dsimp only at c0 c1 c2 c3 c4 c5 c6 c7 c8 c9 c10 c11 c12 c13 c14
   refine SPX ?_; repeat' (first|refine ⟨fun hc=>?_,fun hc=>?_⟩|intro)
   · refine Fin.retW (by exact rfl) resA (H':=({ s with q:=o' }:DsM).H) (fun _ h=>h.sublist findA) ⟨rfl,{ s with q:=o' },?_,rfl,rfl,?_⟩
     · refine hs.setO ho' ?_
       have e0:E=0:=by simpa using ‹(E == 0)=true›
       have hup:=hup
       rw [hput1 e0,if_neg hul,←hq1] at hup
       exact hup
     · have e0:E=0:=by simpa using ‹(E == 0)=true›
       rw [hput1 e0,if_neg hul,←hq1]
       rfl
   · have e0:E≠0:=by simpa using hc
     refine Fin.retW (by exact rfl) resA (H':=({ s with q:=o' }:DsM).H) (fun _ h=>h.sublist findA) ⟨rfl,{ s with q:=o' },?_,rfl,rfl,?_⟩
     · refine hs.setO ho' ?_
       rw [hq0 e0]
       exact hs.pl.up (Nat.le_succ n)
     · rw [hput0 e0]
       show ({ s.S with q:=o'.S }:Snd.S)=_
       rw [hq0 e0]
       rfl
end Go.Proofs.YtlfpemmdehmbfaaGreat
namespace Go.Proofs.YtlfpemmdehmbfaaGreat
open Go Go.Sl Go.Pth
structure GDb where
 i:Nat
 s:DsM
 ka:Option Addr
 kn:Nat
 kc:Nat
 kb:HL
set_option maxHeartbeats 4000000 in
theorem dsbeat_tr (F:Nat→Option Obj) {n:Nat} (s:DsM) (hs:s.ok n) (now:Int):Tr Tryz.prog 43 [ptr s.R,.int .i64 now].toArray F s.H (fun v H=>∃ (ka:Option Addr) (kn kc:Nat) (kb:HL) (s':DsM),v=.slice ka kn kc∧OwnS 3 1 ((Snd.beatL s.S now).map intC) (.slice ka kn kc) kb∧s'.ok n∧s'.R=s.R∧s'.S=Snd.beat s.S now∧H=kb++s'.H):=by
 refine Tr.enter Tryz.func43 rfl Tryz.ntmps43 rfl (fun w0=>?_)
 obtain ⟨b,off,hpa,_⟩:=hs.prow
 have hwn:=hs.pn
 have hnws:=hs.nws
 have hSl:s.S.ws.length=s.ws.length:=by simp [DsM.S]
 refine SPX ?_; repeat' (first|refine ⟨fun hc=>?_,fun hc=>?_⟩|intro)
 obtain ⟨bp,hbp⟩:∃ bp:Nat→Bool,bp=fun k=>match s.S.ws[k]? with | some w=>Pth.beats w.p now | none=>false:=⟨_,rfl⟩
 refine W.loop (G:=GDb) (fun g=>[(0,ptr s.R),(1,.int .i64 now),(5,.slice g.ka g.kn g.kc),(6,.int .i64 g.i)]) (fun g=>g.kb++g.s.H)
  (fun g=>g.i≤s.pn∧g.s.ok n∧g.s.R=s.R∧g.s.cells=s.cells∧g.s.S={ s.S with ws:=Snd.pmap (fun _=>Snd.beatW now) s.S.ws g.i }∧OwnS 3 1 (((List.range g.i).filter bp).map intC) (.slice g.ka g.kn g.kc) g.kb) (fun g=>s.pn - g.i) ⟨0,s,none,0,0,[]⟩ ⟨Nat.zero_le _,hs,rfl,rfl,by dsimp only; rw [Snd.pmap_zero],.inl ⟨rfl,rfl,rfl⟩⟩ envA (fun _ h=>h) ?_
 rintro ⟨i,t,ka,kn,kc,kb⟩ ⟨hi,ht,hR,hcs,htS,hown⟩
 dsimp only at hi ht hR hcs htS hown ⊢
 obtain ⟨c0,c1,c2,c3,c4,c5⟩:=DsM.cansL (F:=F) hR hcs
 obtain ⟨⟨e1,e2⟩,⟨e3,e4⟩,_,_,_,e5⟩:=DsM.slc hcs
 rw [hpa] at c2
 have hlen:t.ws.length=s.ws.length:=by have:=congrArg (fun x:Snd.S=>x.ws.length) htS; simpa [DsM.S,Snd.pmap] using this
 have hkn:=OwnS.len hown
 have hkl:kn≤4:=by
  have:=List.length_filter_le bp (List.range i)
  rw [List.length_map] at hkn
  rw [List.length_range] at this
  omega
 refine SPQ ?_; repeat' (first|refine ⟨fun hc=>?_,fun hc=>?_⟩|intro)
 cases hc:decide ((i:Int) < s.pn) with
 | true=>
   have hi':i < s.pn:=by have:=of_decide_eq_true hc; omega
   obtain ⟨b',off',hpa',hel⟩:=ht.prow
   rw [e1,hpa] at hpa'
   cases hpa'
   obtain ⟨m,hm,hmS,hkn2,hkt,hks,hkm⟩:=DsM.wayAt ht (k:=i) (by omega)
   rw [e2] at hkn2
   have hcan:=hel F i m hm
   clear hel
   refine SPX ?_; repeat' (first|refine ⟨fun hc=>?_,fun hc=>?_⟩|intro)
   have hms:s.S.ws[i]? = some m.W:=by
    have h1:t.S.ws[i]? = some m.W:=hmS
    rw [htS] at h1
    obtain ⟨w,hw⟩:∃ w,s.S.ws[i]? = some w:=⟨s.S.ws[i]'(by omega),List.getElem?_eq_getElem _⟩
    have h2:=Snd.pmap_get (fun _=>Snd.beatW now) hw
    dsimp only at h1
    rw [h2] at h1
    rw [hw,←h1]
   have hbi:bp i=Pth.beats m.p.s now:=by rw [hbp]; dsimp only; rw [hms]; rfl
   refine WL.e rfl (Ef.call (c:=m.p.H) (by exact rfl) (.skipL kb (DsM.paP hm).sub) (dbeat_tr _ m.p (ht.way hm).p now)) ?_
   rintro _ _ ⟨_,⟨rfl,rfl⟩,rfl⟩
   clear c0 c1 c2 c3 c4 c5 hcan
   refine WL.weak (H':=kb++(t.setW i { m with p:=m.p.with (beatS m.p.s now) }).H) (fun _ h=>In.front kb (DsM.paE (m':={ m with p:=m.p.with (beatS m.p.s now) }) hm) h) ?_
   have ew:DwM.W { m with p:=m.p.with (beatS m.p.s now) }=Snd.beatW now m.W:=rfl
   have hok:(t.setW i { m with p:=m.p.with (beatS m.p.s now) }).ok n:=ht.setW hm rfl rfl rfl rfl (by
    have:=(Snd.beat_ok ht.pl now).ws (Snd.beatW now m.W) (List.mem_map.2 ⟨m.W,List.mem_of_getElem? hmS,rfl⟩)
    rw [ew]; exact this)
   have hS':(t.setW i { m with p:=m.p.with (beatS m.p.s now) }).S={ s.S with ws:=Snd.pmap (fun _=>Snd.beatW now) s.S.ws (i+1) }:=by
    rw [DsM.setW_S,htS,ew,Snd.pmap_succ _ hms]
   refine SPX ?_; repeat' (first|refine ⟨fun hc=>?_,fun hc=>?_⟩|intro)
   · have hb:bp i=true:=hbi.trans ‹_›
     refine WL.e rfl (Ef.app (m:=1) (news:=[.int .i64 i]) (hb:=kb) (by exact rfl) (by exact rfl) rfl rfl hown (.last (.there .here)) (Src.own (n:=1) (.here rfl)) rfl (fun u hu=>by rw [List.mem_singleton.1 hu]; rfl) (by rw [hkn]; simp; omega) (by rw [hkn]; simp [maxLen]; omega)) ?_
     rintro v' _ ⟨hb',hown',rfl⟩
     obtain ⟨ja,jn,jc,rfl,_,_⟩:=OwnS.shape hown'
     refine SPX ?_; repeat' (first|refine ⟨fun hc=>?_,fun hc=>?_⟩|intro)
     rw [i64_succ (by omega)]
     refine Fin.round ⟨i+1,_,ja,jn,jc,hb'⟩ ⟨hi',hok,hR,hcs,hS',?_⟩ envA (fun _ h=>?_) (by dsimp only; omega)
     · rw [filter_snoc,if_pos hb,List.map_append]
       exact hown'
     · exact In.of_sub (.pickL (L:=hb') .here (.last (.there .all))) h
   · have hb:bp i=false:=hbi.trans ‹_›
     rw [i64_succ (by omega)]
     refine Fin.round ⟨i+1,_,ka,kn,kc,kb⟩ ⟨hi',hok,hR,hcs,hS',?_⟩ envA (fun _ h=>h) (by dsimp only; omega)
     rw [filter_snoc,hb,if_neg (by decide),List.append_nil]
     exact hown
 | false=>
   have hi':i=s.S.ws.length:=by have:=of_decide_eq_false hc; omega
   subst hi'
   refine SPX ?_; repeat' (first|refine ⟨fun hc=>?_,fun hc=>?_⟩|intro)
   refine Fin.retW (by exact rfl) resA (fun _ h=>h) ⟨ka,kn,kc,kb,t,rfl,?_,ht,hR,?_,rfl⟩
   · rw [hbp] at hown
     exact hown
   · rw [htS,pmap_map]
     rfl
set_option maxHeartbeats 2000000 in
theorem dsbeaten_tr (F:Nat→Option Obj) {n:Nat} (s:DsM) (hs:s.ok n) (k sent now:Int) (hn:now≤9223372036854775807):Tr Tryz.prog 44 [ptr s.R,.int .i64 k,.int .i64 sent,.int .i64 now].toArray F s.H (fun v H=>v=.bool (Snd.beatenB s.S k sent now)∧∃ s':DsM,s'.ok n∧s'.R=s.R∧s'.S=Snd.beaten s.S k sent now∧H=s'.H):=by
 refine Tr.enter Tryz.func44 rfl Tryz.ntmps44 rfl (fun w0=>?_)
 obtain ⟨c0,c1,c2,c3,c4,c5,c6,c7,c8,c9,c10,c11,c12,c13,c14⟩:=s.cans (F:=F)
 obtain ⟨b,off,hpa,hel⟩:=hs.prow
 have hwn:=hs.pn
 have hSl:s.S.ws.length=s.ws.length:=by simp [DsM.S]
 rw [hpa] at c2
 by_cases hk:0≤k∧k < s.pn
 · obtain ⟨j,rfl⟩:∃ j:Nat,k=j:=⟨k.toNat,by omega⟩
   obtain ⟨m,hm,hmS,hkn,hkt,hks,hkm⟩:=DsM.wayAt hs (k:=j) (by omega)
   have hcan:=hel F j m hm
   refine SPX ?_; repeat' (first|refine ⟨fun hc=>?_,fun hc=>?_⟩|intro)
   · refine WL.e rfl (Ef.call (c:=m.p.H) (by exact rfl) (DsM.paP hm).sub (dbeaten_tr _ m.p (hs.way hm).p sent now hn)) ?_
     rintro _ _ ⟨_,⟨rfl,rfl⟩,rfl⟩
     clear c0 c1 c2 c3 c4 c5 c6 c7 c8 c9 c10 c11 c12 c13 c14 hcan hel
     have ew:DwM.W { m with p:=m.p.with (beatenS m.p.s sent now) }={ m.W with p:=Pth.beatenS m.W.p sent now }:=rfl
     have hS:Snd.beaten s.S j sent now={ s.S with ws:=s.S.ws.set j { m.W with p:=Pth.beatenS m.W.p sent now } }:=by
      unfold Snd.beaten
      rw [if_neg (by omega),show ((j:Int)).toNat=j from rfl,hmS]
     have hok:(s.setW j { m with p:=m.p.with (beatenS m.p.s sent now) }).ok n:=hs.setW hm rfl rfl rfl rfl (by
      have:=(Snd.beaten_ok hs.pl j sent now).ws { m.W with p:=Pth.beatenS m.W.p sent now } (by
       rw [hS]
       exact List.mem_set (List.getElem?_eq_some_iff.1 hmS).1 _)
      rw [ew]; exact this)
     refine SPX ?_; repeat' (first|refine ⟨fun hc=>?_,fun hc=>?_⟩|intro)
     refine Fin.retW (by exact rfl) resA (H':=(s.setW j { m with p:=m.p.with (beatenS m.p.s sent now) }).H) (fun _ h=>DsM.paB (m':={ m with p:=m.p.with (beatenS m.p.s sent now) }) hm h) ⟨?_,_,hok,rfl,?_,rfl⟩
     · unfold Snd.beatenB
       rw [if_neg (by omega),show ((j:Int)).toNat=j from rfl,hmS]
       rfl
     · rw [DsM.setW_S,ew,hS]
   all_goals
    exfalso
    have:=of_decide_eq_false hc
    omega
 · have hz:Snd.beatenB s.S k sent now=false∧Snd.beaten s.S k sent now=s.S:=by
    unfold Snd.beatenB Snd.beaten
    by_cases h0:k < 0
    · rw [if_pos h0,if_pos h0]; exact ⟨rfl,rfl⟩
    · rw [if_neg h0,if_neg h0,List.getElem?_eq_none (by omega)]; exact ⟨rfl,rfl⟩
   rw [hz.1,hz.2]
   refine SPX ?_; repeat' (first|refine ⟨fun hc=>?_,fun hc=>?_⟩|intro)
   all_goals first
    | exact Fin.retW (by exact rfl) resA (fun _ h=>h) ⟨rfl,s,hs,rfl,rfl,rfl⟩
    | (exfalso
       have h1:=of_decide_eq_true ‹decide (k≥0)=true›
       have h2:=of_decide_eq_true hc
       omega)
structure GDlt where
 i:Nat
 s:DsM
 la:Int
 go:Int
set_option maxHeartbeats 4000000 in
theorem dslate_tr (F:Nat→Option Obj) {n:Nat} (s:DsM) (hs:s.ok n) (now:Int):Tr Tryz.prog 40 [ptr s.R,.int .i64 now].toArray F s.H (fun v H=>v=tup [.int .i64 (Snd.timeout s.S now).late,.int .i64 (Snd.timeout s.S now).gone]∧∃ s':DsM,s'.ok n∧s'.R=s.R∧s'.S=(Snd.timeout s.S now).s∧H=s'.H):=by
 refine Tr.enter Tryz.func40 rfl Tryz.ntmps40 rfl (fun w0=>?_)
 obtain ⟨b,off,hpa,_⟩:=hs.prow
 obtain ⟨tb,toff,hta,_⟩:=hs.trow
 obtain ⟨sb,soff,hsa,_⟩:=hs.srow
 have hwn:=hs.pn
 have hnws:=hs.nws
 have hSl:s.S.ws.length=s.ws.length:=by simp [DsM.S]
 have hcl:=Snd.clock_rng now
 refine SPX ?_; repeat' (first|refine ⟨fun hc=>?_,fun hc=>?_⟩|intro)
 refine W.loop (G:=GDlt) (fun g=>[(0,ptr s.R),(1,.int .i64 now),(6,.int .i64 g.la),(7,.int .i64 g.go),(8,.int .i64 g.i)]) (fun g=>g.s.H)
  (fun g=>g.i≤s.pn∧g.s.ok n∧g.s.R=s.R∧g.s.cells=s.cells∧(⟨g.s.S,g.la,g.go⟩:Snd.Late)=(List.range g.i).foldl (Snd.late1 (Snd.clock now)) ⟨s.S,0,0⟩∧g.s.ws.length=s.ws.length∧0≤g.go∧g.go≤g.la∧g.la≤g.i) (fun g=>s.pn - g.i) ⟨0,s,0,0⟩ ⟨Nat.zero_le _,hs,rfl,rfl,rfl,rfl,Int.le_refl _,Int.le_refl _,Int.le_refl _⟩ envA (fun _ h=>h) ?_
 rintro ⟨i,t,la,go⟩ ⟨hi,ht,hR,hcs,htS,hlen,hg0,hg1,hg2⟩
 dsimp only at hi ht hR hcs htS hlen hg0 hg1 hg2 ⊢
 obtain ⟨c0,c1,c2,c3,c4,c5⟩:=DsM.cansL (F:=F) hR hcs
 obtain ⟨⟨e1,e2⟩,⟨e3,e4⟩,⟨e6,e7⟩,_,_,e5⟩:=DsM.slc hcs
 rw [hpa] at c2
 rw [hta] at c3
 rw [hsa] at c4
 rw [←e5] at c1
 refine SPQ ?_; repeat' (first|refine ⟨fun hc=>?_,fun hc=>?_⟩|intro)
 cases hc:decide ((i:Int) < s.pn) with
 | false=>
   have hi':i=s.S.ws.length:=by have:=of_decide_eq_false hc; omega
   subst hi'
   refine SPY ?_; repeat' (first|refine ⟨fun hc=>?_,fun hc=>?_⟩|intro)
   have e:=htS
   unfold Snd.timeout
   rw [←e]
   exact Fin.retW (by exact rfl) resA (fun _ h=>h) ⟨rfl,t,ht,hR,rfl,rfl⟩
 | true=>
 have hi':i < s.pn:=by have:=of_decide_eq_true hc; omega
 obtain ⟨b',off',hpa',hel⟩:=ht.prow
 rw [e1,hpa] at hpa'
 cases hpa'
 obtain ⟨tb',toff',hta',htel⟩:=ht.trow
 rw [e3,hta] at hta'
 cases hta'
 obtain ⟨m,hm,hmS,hkn2,hkt,hks,hkm⟩:=DsM.wayAt ht (k:=i) (by omega)
 rw [e2] at hkn2
 rw [e4] at hkt
 rw [e7] at hks
 have hcat:=htel F i m hm
 have hmt:m.W.timer=m.timer:=rfl
 have htimer:=(ht.way hm).timer
 rw [hmt] at htimer
 have hsnoc:=late_snoc (Snd.clock now) i ⟨s.S,0,0⟩
 rw [←htS] at hsnoc
 have hok1:=Snd.late1_ok (now:=Snd.clock now) (g:=⟨t.S,la,go⟩) ht.pl i
 have hquiet:Snd.ran m.W (Snd.clock now)=false→(⟨t.S,la,go⟩:Snd.Late)=(List.range (i+1)).foldl (Snd.late1 (Snd.clock now)) ⟨s.S,0,0⟩:=fun h=>by
  rw [hsnoc]
  unfold Snd.late1
  dsimp only
  rw [hmS]
  dsimp only
  rw [if_neg (by rw [h]; decide)]
 clear hel htel
 refine SPY ?_; repeat' (first|refine ⟨fun hc=>?_,fun hc=>?_⟩|intro)
 refine W.drawA ?_
 refine SPY ?_; repeat' (first|refine ⟨fun hc=>?_,fun hc=>?_⟩|intro)
 · have hq:Snd.ran m.W (Snd.clock now)=false:=by
    have:m.timer=-1:=by have:=of_decide_eq_true ‹decide (m.timer < 0)=true›; omega
    unfold Snd.ran
    rw [hmt,this]
    rfl
   rw [i64_succ (by omega)]
   exact Fin.round ⟨i+1,t,la,go⟩ ⟨hi',ht,hR,hcs,hquiet hq,hlen,hg0,hg1,by dsimp only; omega⟩ envA (fun _ h=>h) (by dsimp only; omega)
 have htm:¬ m.timer=-1:=by have:=of_decide_eq_false ‹decide (m.timer < 0)=false›; omega
 refine WD.e rfl (Ef.callR (by exact rfl) (.nil _) (dclock_tr _ now)) ?_
 rintro _ _ ⟨rfl,rfl⟩
 refine ⟨.inr (fun _ h=>h),?_⟩
 refine SPY ?_; repeat' (first|refine ⟨fun hc=>?_,fun hc=>?_⟩|intro)
 · have hq:Snd.ran m.W (Snd.clock now)=false:=by
    unfold Snd.ran
    rw [hmt,‹decide (m.timer > Snd.clock now)=true›]
    simp
   rw [i64_succ (by omega)]
   exact Fin.round ⟨i+1,t,la,go⟩ ⟨hi',ht,hR,hcs,hquiet hq,hlen,hg0,hg1,by dsimp only; omega⟩ envA (fun _ h=>h) (by dsimp only; omega)
 have hq:Snd.ran m.W (Snd.clock now)=true:=by
  unfold Snd.ran
  rw [hmt,‹decide (m.timer > Snd.clock now)=false›,decide_eq_false htm]
  rfl
 have hwo:=ht.way hm
 obtain ⟨t1,hk1,hp1,hR1,_,hf1,hw1,hc1,hS1⟩:=ht.putT hm (e3.trans hta) (-1) ⟨hwo.p,by show -1≤(-1:Int)∧(-1:Int)≤_; omega,hwo.mark⟩
 refine WL.e0 (Ef.st rfl rfl rfl hp1) ?_
 rintro _ _ ⟨rfl,rfl⟩
 clear c0 c1 c2 c3 c4 c5 hcat
 obtain ⟨c0,c1,c2,c3,c4,c5⟩:=DsM.cansL (F:=F) (hR1.trans hR) (hc1.trans hcs)
 rw [show s.f.R=t1.f.R by rw [hf1,e5]] at c1
 refine SPY ?_; repeat' (first|refine ⟨fun hc=>?_,fun hc=>?_⟩|intro)
 refine WL.e rfl (Ef.call (c:=t1.f.H) (by exact rfl) t1.flP.sub (rmark_tr _ t1.f hk1.f i)) ?_
 rintro _ _ ⟨_,⟨rfl,f',hf',rfl,hfR,hfS⟩,rfl⟩
 refine WL.weak (H':=({ t1 with f:=f' }:DsM).H) (fun _ h=>DsM.flB hfR h) ?_
 have hpl1:=hk1.pl
 have hok2:({ t1 with f:=f' }:DsM).ok n:=hk1.setF hf' ({ hpl1 with f:=by rw [hfS]; exact hpl1.f.mark i,paths:=by rw [hfS]; exact hpl1.paths }:Snd.Ok n { t1.S with f:=f'.S })
 have huc:({ t1 with f:=f' }:DsM).cells=s.cells:=by
  rw [←hcs,←hc1]
  unfold DsM.cells
  rw [←hfR]
 obtain ⟨u,hu⟩:∃ u:DsM,u={ t1 with f:=f' }:=⟨_,rfl⟩
 rw [←hu] at hok2 huc ⊢
 have hum:u.ws[i]? = some { m with timer:=-1 }:=by rw [hu]; show t1.ws[i]? = _; rw [hw1]; exact List.getElem?_set_self (List.getElem?_eq_some_iff.1 hm).1
 have huR:u.R=s.R:=by rw [hu]; exact hR1.trans hR
 have huS:u.S={ t.S with ws:=t.S.ws.set i (DwM.W { m with timer:=-1 }),f:=Flt.mark t.f.S i }:=by
  rw [hu]
  show ({ t1.S with f:=f'.S }:Snd.S)=_
  rw [hS1,hfS,hf1]
 clear c0 c1 c2 c3 c4 c5
 obtain ⟨c0,c1,c2,c3,c4,c5⟩:=DsM.cansL (F:=F) huR huc
 rw [hsa] at c4
 obtain ⟨⟨g1,g2⟩,⟨g3,g4⟩,⟨g6,g7⟩,_,_,g5⟩:=DsM.slc huc
 obtain ⟨u1,hk2,hp2,hR2,_,hf2,hw2,hc2,hS2⟩:=hok2.putS hum (g6.trans hsa) false ⟨hwo.p,by show -1≤(-1:Int)∧(-1:Int)≤_; omega,hwo.mark⟩
 refine SPY ?_; repeat' (first|refine ⟨fun hc=>?_,fun hc=>?_⟩|intro)
 refine WL.e0 (Ef.st rfl rfl rfl hp2) ?_
 rintro _ _ ⟨rfl,rfl⟩
 clear c0 c1 c2 c3 c4 c5
 obtain ⟨c0,c1,c2,c3,c4,c5⟩:=DsM.cansL (F:=F) (hR2.trans huR) (hc2.trans huc)
 obtain ⟨⟨k1,k2⟩,_,_,_,_,_⟩:=DsM.slc (hc2.trans huc)
 have hu1m:u1.ws[i]? = some { m with timer:=-1,set:=false }:=by rw [hw2]; exact List.getElem?_set_self (List.getElem?_eq_some_iff.1 hum).1
 obtain ⟨b',off',hpa',hel⟩:=hk2.prow
 rw [k1,hpa] at hpa'
 cases hpa'
 have hcan:=hel F i _ hu1m
 clear hel
 rw [hpa] at c2
 refine SPY ?_; repeat' (first|refine ⟨fun hc=>?_,fun hc=>?_⟩|intro)
 refine WL.e rfl (Ef.call (c:=m.p.H) (by exact rfl) (DsM.paP hu1m).sub (dlate_tr _ m.p hwo.p)) ?_
 rintro _ _ ⟨_,⟨rfl,rfl⟩,rfl⟩
 clear c0 c1 c2 c3 c4 c5 hcan
 obtain ⟨m3,hm3⟩:∃ m3:DwM,m3={ m with timer:=-1,set:=false,p:=m.p.with (Pth.late m.p.s) }:=⟨_,rfl⟩
 refine WL.weak (H':=(u1.setW i m3).H) (fun _ h=>DsM.paB (m':=m3) hu1m (by rw [hm3]; exact h)) ?_
 have ew:m3.W=Snd.lateW m.W:=by rw [hm3]; rfl
 have hend:(⟨(u1.setW i m3).S,la+1,go+if Pth.lateA m.p.s then 1 else 0⟩:Snd.Late)=(List.range (i+1)).foldl (Snd.late1 (Snd.clock now)) ⟨s.S,0,0⟩:=by
  rw [hsnoc]
  unfold Snd.late1
  dsimp only
  rw [hmS]
  dsimp only
  rw [if_pos hq,DsM.setW_S,ew,hS2,huS]
  dsimp only
  rw [List.set_set,List.set_set]
  rfl
 have hok4:(u1.setW i m3).ok n:=hk2.setW hu1m (by rw [hm3]; rfl) (by rw [hm3]) (by rw [hm3]) (by rw [hm3]) (by
  rw [ew]
  exact ⟨Pth.late_ok hwo.p,by dsimp only [Snd.lateW]; omega,hwo.mark⟩)
 have hu4R:(u1.setW i m3).R=s.R:=hR2.trans huR
 have hu4c:(u1.setW i m3).cells=s.cells:=hc2.trans huc
 have hul:(u1.setW i m3).ws.length=s.ws.length:=by
  show (u1.ws.set i _).length=_
  rw [List.length_set,hw2,List.length_set,hu]
  show t1.ws.length=_
  rw [hw1,List.length_set]
  exact hlen
 rw [i64_id (n:=la+1) (by omega) (by omega)]
 refine SPY ?_; repeat' (first|refine ⟨fun hc=>?_,fun hc=>?_⟩|intro)
 · rw [i64_succ (by omega),i64_id (n:=go+1) (by omega) (by omega)]
   refine Fin.round ⟨i+1,u1.setW i m3,la+1,go+1⟩ ⟨hi',hok4,hu4R,hu4c,?_,hul,by dsimp only; omega,by dsimp only; omega,by dsimp only; omega⟩ envA (fun _ h=>h) (by dsimp only; omega)
   rw [←hend,if_pos ‹_›]
 · rw [i64_succ (by omega)]
   refine Fin.round ⟨i+1,u1.setW i m3,la+1,go⟩ ⟨hi',hok4,hu4R,hu4c,?_,hul,by dsimp only; omega,by dsimp only; omega,by dsimp only; omega⟩ envA (fun _ h=>h) (by dsimp only; omega)
   rw [←hend,if_neg (by rw [‹Pth.lateA m.p.s=false›]; decide),Int.add_zero]
end Go.Proofs.YtlfpemmdehmbfaaGreat
namespace Go.Proofs.YtlfpemmdehmbfaaGreat
open Go Go.Sl Go.Pth
theorem DsM.putX {s:DsM} {off:Nat} {vs cs:List Value} (hs:spliceK s.cells off vs some=some cs):PutAt s.R off vs s.H ((s.R,.cells cs.toArray 51 (0,0))::s.T):=by
 unfold DsM.H DsM.hd
 exact .here hs
theorem DsM.ok.onl {n:Nat} {s:DsM} (h:s.ok n):s.owed.length=s.on_:=by have:=OwnS.len h.owed; rw [flat_len' OwM.cells 8 OwM.clen] at this; omega
theorem DsM.atX (s:DsM):s.X.Sublist s.H:=by
 unfold DsM.H DsM.T
 exact .cons _ (sub_at (sub_at (sub_at (List.sublist_append_right _ _))))
theorem DsM.atO (s:DsM):s.ob.Sublist s.H:=List.Sublist.trans (by unfold DsM.X; exact (List.sublist_append_left _ _).trans (List.sublist_append_right _ _)) s.atX
theorem DsM.owP {n:Nat} {s:DsM} (h:s.ok n) {x:OwM} {r:List OwM} (hx:s.owed=x::r):∃ b off,s.oa=some ⟨b,off,none⟩∧∀ F:Nat→Option Obj,Sl.Can F s.H b (off+(0:Int).toNat * 8) x.cells:=by
 have h1:=h.owed
 have hl:=h.onl
 rw [hx] at h1 hl
 have hL:=fun F:Nat→Option Obj=>Lst.own (F:=F) h1 (fun _ hh=>hh)
 obtain ⟨b,off,ha,_⟩:=(hL (fun _=>none)).can (by simp at hl; omega)
 refine ⟨b,off,ha,fun F=>?_⟩
 obtain ⟨b',off',ha',hcan⟩:=(hL F).can (by simp at hl; omega)
 rw [ha] at ha'
 cases ha'
 exact (hcan.sub 0 8).mono (F':=F) (H':=s.H) (fun _ hh=>hh.sublist s.atO)
theorem owC_ones (l:List OwM):∀ u ∈ l.flatMap OwM.cells,u.oneCell'=true:=by
 intro u hu
 obtain ⟨m,_,hm⟩:=List.mem_flatMap.1 hu
 simp only [OwM.cells,List.mem_cons,List.not_mem_nil,or_false] at hm
 rcases hm with rfl | rfl | rfl | rfl | rfl | rfl | rfl | rfl <;> rfl
structure GDt where
 s:DsM
set_option maxRecDepth 40000 in
set_option maxHeartbeats 4000000 in
theorem dlay_tr (F:Nat→Option Obj) {n:Nat} (s:DsM) (hs:s.ok n) (hn:n≤1000000) (now:Int):Tr Tryz.prog 101 [ptr s.R,.int .i64 now].toArray F s.H (fun v H=>v=.tuple #[]∧∃ s':DsM,s'.ok n∧H=s'.H∧s'.R=s.R∧s'.S=Snd.lay s.S now):=by
 refine Tr.enter Tryz.func101 rfl Tryz.ntmps101 rfl (fun w0=>?_)
 refine SPX ?_; repeat' (first|refine ⟨fun hc=>?_,fun hc=>?_⟩|intro)
 obtain ⟨rr,hrr⟩:∃ rr,s.R=rr:=⟨_,rfl⟩
 rw [hrr]
 refine W.loop (G:=GDt) (fun g=>[(0,ptr rr),(1,.int .i64 now)]) (fun g=>g.s.H) (fun g=>g.s.ok n∧g.s.R=rr∧Snd.lay s.S now=Snd.layN now g.s.owed.length g.s.S) (fun g=>g.s.owed.length) ⟨s⟩ ⟨hs,hrr,by unfold Snd.lay; simp [DsM.S]⟩ envA (fun _ h=>h) ?_
 rintro ⟨t⟩ ⟨ht,hR,hlay⟩
 dsimp only at ht hR hlay ⊢
 subst hR
 obtain ⟨c0,c1,c2,c3,c4,c5,c6,c7,c8,c9,c10,c11,c12,c13,c14⟩:=t.cans (F:=F)
 have hol:=ht.onl
 cases hx:t.owed with
 | nil=>
   rw [hx] at hol
   rw [show t.on_=0 by simpa using hol.symm] at c10
   refine SPX ?_; repeat' (first|refine ⟨fun hc=>?_,fun hc=>?_⟩|intro)
   refine Fin.endW (by exact rfl) resA (fun _ h=>h) ⟨rfl,t,ht,rfl,rfl,?_⟩
   rw [hlay,hx]
   rfl
 | cons x r=>
   obtain ⟨b,off,hoa,hcan⟩:=DsM.owP ht hx
   have hcan:=hcan F
   have hgt:decide ((t.on_:Int) > 0)=true:=decide_eq_true (by rw [hx] at hol; simp at hol; omega)
   have h0:0≤(0:Int)∧(0:Int) < t.on_:=by rw [hx] at hol; simp at hol; omega
   rw [hoa] at c10
   unfold OwM.cells at hcan
   refine SPX ?_; repeat' (first|refine ⟨fun hc=>?_,fun hc=>?_⟩|intro)
   rotate_left
   · exact absurd (hgt.symm.trans hc) (by decide)
   refine WL.e rfl (Ef.callR (by exact rfl) t.flP.sub (rcount_tr _ t.f)) ?_
   rintro _ _ ⟨rfl,rfl⟩
   have hxm:x ∈ t.owed:=by rw [hx]; exact List.mem_cons_self
   have hown:=ht.own x hxm
   have hlen:=ht.pl.owed x.O (List.mem_map.2 ⟨x,hxm,rfl⟩)
   have hfl:=fr_len ht.f
   have hown1:t.S.owed=x.O::r.map OwM.O:=by unfold DsM.S; dsimp only; rw [hx]; rfl
   have haddE:Flt.addE t.f.S x.d 0=if 2048≤t.f.ln then 6 else 0:=by
    have h1:=ht.paths; have h2:=ht.nws
    unfold Flt.addE
    rw [if_neg,hfl]
    rintro (h | h | h)
    · omega
    · rw [h1] at h; omega
    · have:x.d.bs.length=1:=hlen
      rw [h] at this
      cases this
   rw [hx,List.length_cons] at hlay
   rw [Snd.layN,hown1] at hlay
   dsimp only at hlay
   refine SPQ ?_; repeat' (first|refine ⟨fun hc=>?_,fun hc=>?_⟩|intro)
   cases hfull:decide ((t.f.ln:Int) < 2048) with
   | false=>
     have hf0:=of_decide_eq_false hfull
     rw [if_neg (by show ¬ Flt.addE t.f.S x.d 0=0; rw [haddE,if_pos (by omega)]; decide)] at hlay
     clear hfull hf0 haddE
     refine SPX ?_; repeat' (first|refine ⟨fun hc=>?_,fun hc=>?_⟩|intro)
     exact Fin.endW (by exact rfl) resA (fun _ h=>h) ⟨rfl,t,ht,rfl,rfl,hlay.symm⟩
   | true=>
     have hf0:=of_decide_eq_true hfull
     have he0:Flt.addE t.f.S x.d 0=0:=by rw [haddE,if_neg (by omega)]
     rw [if_pos (by exact he0)] at hlay
     clear hfull hf0 haddE
     refine SPX ?_; repeat' (first|refine ⟨fun hc=>?_,fun hc=>?_⟩|intro)
     refine WL.s rfl (Rd.ldaC rfl rfl hcan) ?_
     refine SPX ?_; repeat' (first|refine ⟨fun hc=>?_,fun hc=>?_⟩|intro)
     rename_i b4
     refine WD.e rfl (Ef.callR (by exact rfl) (.nil _) (dclock_tr _ now)) ?_
     rintro _ _ ⟨rfl,rfl⟩
     refine ⟨.inr (fun _ h=>h),?_⟩
     refine SPX ?_; repeat' (first|refine ⟨fun hc=>?_,fun hc=>?_⟩|intro)
     refine WD.e rfl (Ef.callW (c:=t.f.H) (by exact rfl) (.skip _ t.flP.sub) (fun F' hF=>radd_tr F' t.f ht.f x.d x.ba x.bn x.bc ((Lst.own (F:=F) (H:=x.bb) hown (fun _ h=>h)).mono (fun w h=>(hF w h).sublist ?_)) (by have:=hlen; simp only [OwM.O] at this; omega) 0 (Snd.clock now) x.id)) ?_
     · refine .cons _ ?_
       unfold DsM.flR
       refine .cons _ (List.Sublist.trans ?_ (List.sublist_append_right _ _))
       refine List.Sublist.trans ?_ (sub_at (sub_at (List.sublist_append_right _ _)))
       refine List.Sublist.trans ?_ (List.sublist_append_right _ _)
       refine List.Sublist.trans ?_ (List.sublist_append_right _ _)
       rw [hx]
       exact List.sublist_append_left _ _
     rintro _ _ ⟨_,⟨rfl,f1,hf1,rfl,hR1,hS1⟩,rfl⟩
     refine ⟨.inl (by kernel_rfl),?_⟩
     refine WD.weak (fun _ h=>In.front1 (t.flE hR1) h) ?_
     dsimp only [tup]
     rw [he0]
     clear c0 c1 c2 c3 c4 c5 c6 c7 c8 c9 c10 c11 c12 c13 c14 hcan
     obtain ⟨c0,c1,c2,c3,c4,c5,c6,c7,c8,c9,c10,c11,c12,c13,c14⟩:=DsM.cans (F:=F) { t with f:=f1 }
     dsimp only at c0 c1 c2 c3 c4 c5 c6 c7 c8 c9 c10 c11 c12 c13 c14
     refine SPX ?_; repeat' (first|refine ⟨fun hc=>?_,fun hc=>?_⟩|intro)
     refine WD.e rfl (Ef.call (c:=f1.H) (by exact rfl) (.skip _ (DsM.flP { t with f:=f1 }).sub) (rabandon_tr _ f1 hf1 x.id)) ?_
     rintro _ _ ⟨_,⟨rfl,f2,hf2,rfl,hR2,hS2⟩,rfl⟩
     refine ⟨.inl (by kernel_rfl),?_⟩
     refine WD.weak (fun _ h=>In.front1 (DsM.flE (s:={ t with f:=f1 }) hR2) h) ?_
     dsimp only
     clear c0 c1 c2 c3 c4 c5 c6 c7 c8 c9 c10 c11 c12 c13 c14
     have c10:Sl.Can F ({ t with f:=f2 }:DsM).H t.R (0+10) [.slice (some ⟨b,off,none⟩) t.on_ t.oc]:=by
      obtain ⟨_,_,_,_,_,_,_,_,_,_,c10,_⟩:=DsM.cans (F:=F) { t with f:=f2 }
      rw [←hoa]
      exact c10
     refine SPX ?_; repeat' (first|refine ⟨fun hc=>?_,fun hc=>?_⟩|intro)
     rename_i bn
     refine WL.p rfl (Pu.slLo rfl rfl (by omega)) ?_
     have hrow:=ht.owed
     rw [hx,List.flatMap_cons,hoa] at hrow
     have htl:=OwnS.tail (x:=x.cells) (sz:=8) rfl (by decide) hrow
     have hrl:r.length+1=t.on_:=by rw [hx] at hol; simpa using hol
     have hof:=ht.pl.ofew
     have hrn:r.length≤1000000:=by
      have e:t.S.owed.length=t.owed.length:=by simp [DsM.S]
      rw [e] at hof; omega
     refine WL.e rfl (Ef.app (m:=t.on_ - (1:Int).toNat) (news:=r.flatMap OwM.cells) (xs:=[]) (by exact rfl) (by exact rfl) rfl rfl (OwnS.empty _ _ bn) (.last .here) (htl.src (fun _ h=>h.sublist (.cons _ (.cons _ (DsM.atO { t with f:=f2 }))))) (by rw [flat_len' OwM.cells 8 OwM.clen]; simp; omega) (owC_ones r) (by rw [flat_len' OwM.cells 8 OwM.clen]; simp; omega) (by rw [flat_len' OwM.cells 8 OwM.clen]; simp [maxLen]; omega)) ?_
     rintro v' _ ⟨hb',hown',rfl⟩
     obtain ⟨ja,jn,jc,rfl,_,_⟩:=OwnS.shape hown'
     rw [List.nil_append] at hown'
     refine SPX ?_; repeat' (first|refine ⟨fun hc=>?_,fun hc=>?_⟩|intro)
     have hputx:=DsM.putX (s:={ t with f:=f2 }) (off:=0+10) (vs:=[.slice ja jn jc]) rfl
     refine WL.e0 (Ef.st rfl rfl rfl (.right (.there hputx))) ?_
     rintro _ _ ⟨rfl,rfl⟩
     refine SPX ?_; repeat' (first|refine ⟨fun hc=>?_,fun hc=>?_⟩|intro)
     have hS:({ t with f:=f2,owed:=r,oa:=ja,on_:=jn,oc:=jc,ob:=hb' }:DsM).S={ t.S with f:=Flt.abandon (Flt.add t.S.f x.O.d 0 (Snd.clock now) x.O.id) x.O.id,owed:=r.map OwM.O }:=by
      unfold DsM.S
      dsimp only
      rw [hS2,hS1]
      rfl
     refine Fin.round ⟨{ t with f:=f2,owed:=r,oa:=ja,on_:=jn,oc:=jc,ob:=hb' }⟩ ⟨⟨ht.q,hf2,ht.ways,ht.tims,ht.sets,ht.marks,ht.lives,hown',fun m hm=>ht.own m (by rw [hx]; exact List.mem_cons_of_mem _ hm),?_⟩,rfl,?_⟩ envA (fun _ h=>?_) (by simp)
     · have h1:=Snd.layN_ok (now:=now) 1 ht.pl
       rw [Snd.layN,hown1] at h1
       dsimp only at h1
       rw [if_pos (by exact he0)] at h1
       rw [hS]
       exact h1
     · rw [hlay,hS]
     · dsimp only
       unfold DsM.H DsM.T DsM.X DsM.hd
       unfold DsM.T DsM.X at h
       dsimp only at h
       rw [hx,List.flatMap_cons] at h
       exact In.of_sub (.pick (.right (.there .here)) (.pickL (L:=t.q.H) (.right (.there .here)) (.pickL (L:=f2.H) (.right (.there .here)) (.pickL (L:=t.tb) (.right (.there .here)) (.pickL (L:=t.sb) (.right (.there .here)) (.pickL (L:=t.mb) (.right (.there .here)) (.pickL (L:=t.pb) (.right (.there .here)) (.pickL (L:=t.WH) (.right (.there .here)) (.pickL (L:=t.lb) (.right (.there .here)) (.pickL (L:=hb') .here (.last (.there (.right (.right .all)))))))))))))) h
end Go.Proofs.YtlfpemmdehmbfaaGreat
namespace Go.Snd
open Go Go.Pth
def NoLost (f:Flt.S):Prop:=∀ r ∈ f.L,r.lost=false
theorem NoLost.nil {f:Flt.S} (h:NoLost f):Flt.lostL f=[]:=by
 unfold Flt.lostL
 rw [List.map_eq_nil_iff]
 refine List.filter_eq_nil_iff.2 (fun r hr hc=>?_)
 unfold Flt.openR at hc
 rw [h r hr] at hc
 cases hc
theorem again_none {s:S} (h:NoLost s.f) (k:Nat) (now:Int):again s k now=⟨s,[],s.mtu - 12⟩:=by
 unfold again
 rw [h.nil]
 rfl
theorem try_none {s:S} (h:NoLost s.f) (now:Int):∀ l,trySome (fun s k=>some (again s k now)) now l s=(s,none)
 | []=>rfl
 | k::l=>by
   rw [trySome,again_none h k now]
   dsimp only
   rw [if_pos rfl]
   exact try_none h now l
theorem nextW_one {s:S} (h:s.ws.length=1) (k:Nat):nextW s k=0:=by
 have:=nextW_lt (s:=s) (by omega) k
 omega
theorem next_one {s:S} (h:NoLost s.f) (hw:s.ws.length=1) (now:Int):next s now=if (fresh s 0 now).out=[] then ((fresh s 0 now).s,none) else (run (fresh s 0 now).s 0 now,some (0,(fresh s 0 now).out)):=by
 unfold next
 rw [try_none h now]
 dsimp only
 rw [hw,show List.range 1=[0] from rfl,trySome]
 have hc:(noneActive s || activeW s 0)=true:=by
  unfold noneActive
  rw [nextW_one hw]
  cases activeW s 0 <;> rfl
 rw [if_pos hc]
 dsimp only
 split
 · rw [trySome]
 · rfl
structure Lone (s:S) (n:Nat):Prop where
 ws:s.ws.length=1
 mtu:s.mtu=128
 lives:s.lives=[]
 owed:s.owed=[]
 fl:∀ r ∈ s.f.L,r.lost=false∧r.acked=false∧r.gone=false∧r.path=0
 q:(s.q.L=[]∧n=0)∨∃ x,s.q.L=[x]∧Oq.left x=n∧0 < n
theorem Lone.nolost {s:S} {n:Nat} (h:Lone s n):NoLost s.f:=fun r hr=>(h.fl r hr).1
theorem Lone.size {s:S} {n:Nat} (h:Lone s n):Oq.size s.q=n:=by
 unfold Oq.size
 rcases h.q with ⟨h1,h2⟩ | ⟨x,h1,h2,_⟩
 · rw [h1]; exact h2.symm
 · rw [h1]; exact h2
theorem Lone.piece {s:S} {n:Nat} (h:Lone s n):piece s=min n 100:=by
 unfold Snd.piece
 rw [h.size,h.mtu,mn_eq]
 omega
theorem need_le {n:Nat}:16≤need n∧(n≤100→need n≤116):=by unfold need; omega
def sent (s:S) (x:Oq.It) (k:Nat) (now:Int):S:={ s with q:=Oq.nextS s.q x [] (piece s),f:=Flt.add s.f (Oq.cutD s.q x (piece s)) k (clock now) x.id,room:=mx 0 (s.room - piece s) }
theorem fresh_one {m:Nat} {s:S} {n:Nat} (ho:Ok m s) (h:Lone s n) (now:Int) :
 (fresh s 0 now=⟨s,[],116⟩∧stops s 0 116=true)∨∃ x,stops s 0 116=false∧s.q.L=[x]∧fresh s 0 now=⟨sent s x 0 now,[{ Oq.cutD s.q x (piece s) with tsn:=Flt.newT s.f }],116 - need (min n 100)⟩:=by
 have hp:=h.piece
 have hm:s.mtu - 12=116:=by rw [h.mtu]; rfl
 unfold fresh
 rw [hm]
 by_cases hs:stops s 0 116=true
 · left
   refine ⟨?_,hs⟩
   show freshN 0 now (99+1) _=_
   rw [freshN]
   dsimp only
   rw [if_pos hs]
 · right
   have hs':stops s 0 116=false:=by simpa using hs
   have hn:n≠0:=fun e=>hs (by unfold stops; dsimp only; rw [hp,e]; rfl)
   rcases h.q with ⟨_,h2⟩ | ⟨x,hx,hl,h0⟩
   · exact absurd h2 hn
   refine ⟨x,hs',hx,?_⟩
   show freshN 0 now (98+1+1) _=_
   rw [freshN]
   dsimp only
   rw [if_neg hs]
   have e1:fresh1 0 now ⟨s,[],116⟩=⟨sent s x 0 now,[{ Oq.cutD s.q x (piece s) with tsn:=Flt.newT s.f }],116 - need (min n 100)⟩:=by
    unfold fresh1 Oq.next
    dsimp only
    rw [hp,if_neg (by omega),hx]
    dsimp only
    unfold sent
    rw [hp]
    simp
   rw [e1,freshN]
   dsimp only
   rw [if_pos]
   unfold stops
   dsimp only
   simp only [Bool.or_eq_true,decide_eq_true_eq]
   by_cases h1:n < 100
   · left
     have hnil:(sent s x 0 now).q.L=[]:=by
      unfold sent Oq.nextS
      dsimp only
      have:Oq.lastB x (piece s)=true:=by
       unfold Oq.lastB Oq.endAt
       rw [hp,mn_eq]
       have:=((ho.q.its x (by rw [hx]; exact List.mem_singleton.2 rfl)).1).at_
       unfold Oq.left at hl ⊢
       exact decide_eq_true (by omega)
      rw [this]
      rfl
     unfold Snd.piece Oq.size
     rw [hnil]
     show mn ((0:Nat):Int) ((s.mtu - 12 - 16) / 4 * 4)=0
     rw [h.mtu,mn_eq]
     rfl
   · right; left
     have e2:min n 100=100:=by omega
     rw [e2]
     have:=(need_le (n:=(Snd.piece (sent s x 0 now)).toNat)).1
     have e3:need 100=116:=rfl
     rw [e3]
     omega
theorem nextS_q {s:S} {x:Oq.It} {n:Nat} (hx:x.Ok) (hL:s.q.L=[x]) (hl:Oq.left x=n) (h0:0 < n) (hp:piece s=min n 100) :
 ((Oq.nextS s.q x [] (piece s)).L=[]∧n - min n 100=0)∨∃ y,(Oq.nextS s.q x [] (piece s)).L=[y]∧Oq.left y=n - min n 100∧0 < n - min n 100:=by
 have hat:=hx.at_
 have he:Oq.endAt x (piece s)=x.at_+min n 100:=by
  unfold Oq.endAt
  rw [hp,mn_eq]
  omega
 unfold Oq.nextS Oq.lastB
 dsimp only
 unfold Oq.left at hl
 split
 · rename_i h
   have h:=of_decide_eq_true h
   exact .inl ⟨rfl,by omega⟩
 · rename_i h
   have h:Oq.endAt x (piece s)≠x.bs.length:=fun e=>h (decide_eq_true e)
   refine .inr ⟨_,rfl,?_,by omega⟩
   unfold Oq.left Oq.cutI
   dsimp only
   omega
theorem sent_lone {m:Nat} {s:S} {n:Nat} (ho:Ok m s) (h:Lone s n) {x:Oq.It} (hL:s.q.L=[x]) (hs:stops s 0 116=false) (now:Int) :
 Lone (sent s x 0 now) (n - min n 100)∧0 < n∧(Oq.cutD s.q x (piece s)).bs.length=min n 100∧(sent s x 0 now).f={ s.f with L:=s.f.L++[Flt.newR s.f (Oq.cutD s.q x (piece s)) 0 (clock now) x.id] }:=by
 have hp:=h.piece
 have hx:=(ho.q.its x (by rw [hL]; exact List.mem_singleton.2 rfl)).1
 have hn:n≠0:=fun e=>by
  unfold stops at hs
  dsimp only at hs
  rw [hp,e] at hs
  cases hs
 have hl:Oq.left x=n:=by have:=h.size; unfold Oq.size at this; rw [hL] at this; exact this
 have hlen:(Oq.cutD s.q x (piece s)).bs.length=min n 100:=by
  have:=hx.at_
  unfold Oq.cutD Oq.endAt
  dsimp only
  rw [List.length_take,List.length_drop,hp,mn_eq]
  unfold Oq.left at hl ⊢
  omega
 have hf:(sent s x 0 now).f={ s.f with L:=s.f.L++[Flt.newR s.f (Oq.cutD s.q x (piece s)) 0 (clock now) x.id] }:=by
  have hc:¬ 2048≤s.f.L.length:=fun e=>by
   unfold stops at hs
   dsimp only at hs
   simp only [Bool.or_eq_false_iff,decide_eq_false_iff_not] at hs
   exact hs.2.2.2.2 e
  have hE:Flt.addE s.f (Oq.cutD s.q x (piece s)) 0=0:=by
   unfold Flt.addE
   rw [if_neg,if_neg hc]
   rintro (e | e | e)
   · omega
   · have:=ho.paths; have:=ho.nws; omega
   · rw [e] at hlen; simp at hlen; omega
  unfold sent Flt.add
  dsimp only
  exact if_pos hE
 refine ⟨⟨h.ws,h.mtu,h.lives,h.owed,?_,?_⟩,by omega,hlen,hf⟩
 · rw [hf]
   intro r hr
   rcases List.mem_append.1 hr with hr | hr
   · exact h.fl r hr
   · rw [List.mem_singleton.1 hr]
     exact ⟨rfl,rfl,rfl,rfl⟩
 · exact nextS_q hx hL hl (by omega) hp
theorem run_f (s:S) (k:Nat) (now:Int):(run s k now).f=s.f∧(run s k now).q=s.q∧(run s k now).room=s.room∧(run s k now).ws.length=s.ws.length:=by
 unfold run
 split
 · exact ⟨rfl,rfl,rfl,by simp⟩
 · exact ⟨rfl,rfl,rfl,rfl⟩
theorem Lone.run {s:S} {n:Nat} (h:Lone s n) (k:Nat) (now:Int):Lone (Snd.run s k now) n:=by
 obtain ⟨h1,h2,h3,h4⟩:=run_f s k now
 refine ⟨by rw [h4]; exact h.ws,?_,?_,?_,by rw [h1]; exact h.fl,by rw [h2]; exact h.q⟩
 all_goals
  unfold Snd.run
  split
  · first | exact h.mtu | exact h.lives | exact h.owed
  · first | exact h.mtu | exact h.lives | exact h.owed
inductive Goes (s:S) (n:Nat):S × Option (Nat × List Flt.Dt)→Prop
 | none:stops s 0 116=true→Goes s n (s,none)
 | one (s':S) (d:Flt.Dt):stops s 0 116=false→0 < n→Lone s' (n - min n 100)→(∃ r,s'.f={ s.f with L:=s.f.L++[r] }∧r.bs=d.bs)→d.tsn=Flt.newT s.f→d.bs.length=min n 100→s'.room=mx 0 (s.room - min n 100)→Goes s n (s',some (0,[d]))
theorem Lone.next {m:Nat} {s:S} {n:Nat} (ho:Ok m s) (h:Lone s n) (now:Int):Goes s n (Snd.next s now):=by
 rw [next_one h.nolost h.ws now]
 rcases fresh_one ho h now with ⟨h1,h2⟩ | ⟨x,h1,h2,h3⟩
 · rw [h1,if_pos rfl]
   exact .none h2
 · obtain ⟨k1,k2,k3,k4⟩:=sent_lone ho h h2 h1 now
   obtain ⟨r1,r2,r3,r4⟩:=run_f (sent s x 0 now) 0 now
   rw [h3,if_neg (by simp)]
   refine .one _ _ h1 k2 (k1.run 0 now) ⟨_,r1.trans k4,rfl⟩ rfl k3 ?_
   rw [r3,←h.piece]
   rfl
end Go.Snd
namespace Go.Snd
open Go Go.Pth
theorem again_stop {k:Nat} {now:Int}:∀ (l:List Int) {x:Go1 × Bool},x.2=true→l.foldl (again1 k now) x=x
 | [],_,_=>rfl
 | t::l,x,h=>by
   rw [List.foldl_cons]
   have e:again1 k now x t=x:=by unfold again1; rw [if_pos h]
   rw [e]
   exact again_stop l h
theorem lost_get {f f':Flt.S} (h:Flt.Good f) {t:Int} (ht:t ∈ Flt.lostL f) (hc:f'.c=f.c) (hl:f'.L.length=f.L.length):∃ d p,Flt.getD f' t=some (d,p):=by
 unfold Flt.lostL at ht
 obtain ⟨r,hr,rfl⟩:=List.mem_map.1 ht
 obtain ⟨i,hi⟩:=List.getElem?_of_mem (List.mem_filter.1 hr).1
 have hlt:=(List.getElem?_eq_some_iff.1 hi).1
 have hfew:=h.few
 have hcr:=h.c
 have hat:Flt.atI f'.c f'.L.length r.tsn=some i:=by
  rw [h.tsn i r hi,hc,hl]
  have hf:Spn.far f.c (Spn.u32 (f.c+1+i))=i+1:=by
   unfold Spn.far
   simp only [Spn.u32_eq]
   omega
  unfold Flt.atI
  rw [hf,if_pos ⟨by omega,by omega⟩]
  rfl
 unfold Flt.getD
 rw [hat]
 dsimp only
 obtain ⟨r',hr'⟩:∃ r',f'.L[i]? = some r':=⟨f'.L[i]'(by omega),List.getElem?_eq_getElem _⟩
 rw [hr']
 exact ⟨_,_,rfl⟩
theorem getD_rng {f:Flt.S} (h:FOk f) {t:Int} {d:Flt.Dt} {p:Int} (hg:Flt.getD f t=some (d,p)):(0≤p∧p < f.paths)∧d.bs.length≤1500:=by
 unfold Flt.getD at hg
 split at hg
 · rename_i i _
   cases hr:f.L[i]? with
   | none=>rw [hr] at hg; cases hg
   | some r=>
     rw [hr] at hg
     cases hg
     exact ⟨h.g.path i r hr,h.bytes r (List.mem_of_getElem? hr)⟩
 · cases hg
theorem again_same (f:Flt.S) (t p now:Int):(Flt.again f t p now).1.c=f.c∧(Flt.again f t p now).1.L.length=f.L.length:=by
 unfold Flt.again
 repeat' split
 all_goals first | exact ⟨rfl,rfl⟩ | exact ⟨rfl,by simp⟩
structure AgI (n:Nat) (s:S) (x:Go1):Prop where
 ok:Ok n x.s
 c:x.s.f.c=s.f.c
 len:x.s.f.L.length=s.f.L.length
 room:0≤x.room∧x.room≤1500
theorem again_at {k:Nat} {now:Int} {x:Go1} {t:Int} {d:Flt.Dt} {p:Int} (hg:Flt.getD x.s.f t=some (d,p)) :
 again1 k now (x,false) t=if nextW x.s p.toNat≠k then (x,false) else if (!mayW x.s k || decide (need d.bs.length > x.room))=true then (x,true) else (⟨{ x.s with f:=(Flt.again x.s.f t k (clock now)).1 },x.out++[d],x.room - need d.bs.length⟩,false):=by
 unfold again1
 dsimp only
 rw [if_neg (by decide),hg]
theorem AgI.go {n:Nat} {s:S} {x:Go1} (h:AgI n s x) {k:Nat} {now t:Int} {d:Flt.Dt} (hroom:¬ need d.bs.length > x.room):AgI n s ⟨{ x.s with f:=(Flt.again x.s.f t k (clock now)).1 },x.out++[d],x.room - need d.bs.length⟩:=by
 obtain ⟨h1,h2⟩:=again_same x.s.f t k (clock now)
 have h3:=(need_le (n:=d.bs.length)).1
 have h4:=h.room
 exact ⟨{ h.ok with f:=h.ok.f.again _ _ (clock_at now),paths:=by dsimp only; rw [again_paths]; exact h.ok.paths },by dsimp only; rw [h1]; exact h.c,by dsimp only; rw [h2]; exact h.len,by dsimp only; omega⟩
theorem stops_false {s:S} {k:Nat} {room:Int} (h:stops s k room=false):piece s≠0∧¬ need (piece s).toNat > room∧mayW s k=true∧(¬ piece s > s.room∨¬ 0 < away s)∧¬ 2048≤s.f.L.length:=by
 unfold stops at h
 dsimp only at h
 simp only [Bool.or_eq_false_iff,Bool.and_eq_false_iff,decide_eq_false_iff_not,Bool.not_eq_false'] at h
 obtain ⟨h1,h2,h3,h4,h5⟩:=h
 exact ⟨h1,h2,h3,h4,h5⟩
theorem fresh_next {n:Nat} {s:S} (ho:Ok n s) (h:piece s≠0):∃ d id q',Oq.next s.q (piece s)=some (d,id,q')∧d.bs.length=(piece s).toNat∧d.bs≠[]:=by
 have hr:=piece_rng ho
 have hsz:piece s≤Oq.size s.q:=by unfold piece; rw [mn_eq]; omega
 unfold Oq.next
 rw [if_neg (by omega)]
 cases hL:s.q.L with
 | nil=>unfold Oq.size at hsz; rw [hL] at hsz; dsimp only at hsz; omega
 | cons x r=>
   have hx:=(ho.q.its x (by rw [hL]; exact List.mem_cons_self)).1
   have hat:=hx.at_
   have hs2:Oq.size s.q=Oq.left x:=by unfold Oq.size; rw [hL]
   have hlen:(Oq.cutD s.q x (piece s)).bs.length=(piece s).toNat:=by
    unfold Oq.cutD Oq.endAt
    dsimp only
    rw [List.length_take,List.length_drop,mn_eq]
    unfold Oq.left at hs2 ⊢
    omega
   exact ⟨_,_,_,rfl,hlen,fun e=>by rw [e] at hlen; simp at hlen; omega⟩
theorem fresh_add {n:Nat} {s:S} (ho:Ok n s) {k:Nat} (hk:k < s.ws.length) {d:Flt.Dt} (hd:d.bs≠[]) (hl:¬ 2048≤s.f.L.length):Flt.addE s.f d k=0:=by
 have:=ho.paths
 unfold Flt.addE
 rw [if_neg,if_neg hl]
 rintro (e | e | e)
 · omega
 · omega
 · exact hd e
theorem fresh1_at {k:Nat} {now:Int} {g:Go1} {d:Flt.Dt} {id:Int} {q':Oq.S} (h:Oq.next g.s.q (piece g.s)=some (d,id,q')) :
 fresh1 k now g=⟨{ g.s with q:=q',f:=Flt.add g.s.f d k (clock now) id,room:=mx 0 (g.s.room - piece g.s) },g.out++[{ d with tsn:=Flt.newT g.s.f }],g.room - need (piece g.s).toNat⟩:=by
 unfold fresh1
 rw [h]
theorem freshN_stop {k:Nat} {now:Int} {g:Go1} (h:stops g.s k g.room=true):∀ m,freshN k now m g=g
 | 0=>rfl
 | m+1=>by rw [freshN,if_pos h]
theorem freshN_go {k:Nat} {now:Int} {g:Go1} (h:stops g.s k g.room=false) (m:Nat):freshN k now (m+1) g=freshN k now m (fresh1 k now g):=by
 rw [freshN,if_neg (by rw [h]; decide)]
theorem need20 {n:Nat} (h:1≤n):20≤need n:=by unfold need; omega
end Go.Snd
