/- Some texts as one. A sender: what is of no use any more goes, walked. Conditions: it is well formed. The document's sender: Expire: walked. Conditions: it is well formed. What is done keeps the marks close, in plain Lean. No conditions: laws only. The law's 'works', walked: a sender works at all. No conditions. The law's 'Vast', and 'does' where there is no sender, walked. Conditions: what the things done are in memory. -/
import Derived.Test.YtlfpemmdehmbfaaGreatBuD
import Derived.Test.YtlfpemmdehmbfaaGreatBuW
import Derived.Test.YtlfpemmdehmbfaaGreatBuI
import Derived.Test.YtlfpemmdehmbfaaGreatBuQ
import Derived.Test.YtlfpemmdehmbfaaGreatBuR
import Derived.Test.YtlfpemmdehmbfaaGreatBuT
namespace Go.Proofs.YtlfpemmdehmbfaaGreat
open Go Go.Sl Go.Pth
theorem SdM.oaP (s:SdM):Part s s.ob (s.hd::(s.o.H++(s.f.H++(s.wb++(s.ws.flatMap WaM.H++(s.lb++s.owed.flatMap (·.bb))))))):=⟨by
 unfold SdM.H SdM.T SdM.X
 exact .last (.there (.right (.right (.right (.right (.right .here))))))⟩
theorem OwM.one (m:OwM):∀ u ∈ m.cells,u.oneCell'=true:=by
 intro u hu
 simp only [OwM.cells,List.mem_cons,List.not_mem_nil,or_false] at hu
 rcases hu with rfl | rfl | rfl | rfl | rfl | rfl | rfl | rfl <;> rfl
structure GSx where
 s:SdM
structure GSe where
 b4:Nat
 dm:DM
 o:OqM
set_option maxHeartbeats 8000000 in
theorem sexp_tr (F:Nat→Option Obj) {n:Nat} (s:SdM) (hs:s.ok n) (hn:n < 1000000) (now:Int):Tr Tryz.prog 32 [ptr s.R,.int .i64 now].toArray F s.H (fun v H=>v=.tuple #[]∧∃ s':SdM,s'.ok (n+1)∧s'.R=s.R∧s'.S=Snd.expire s.S now∧H=s'.H):=by
 refine Tr.enter Tryz.func32 rfl Tryz.ntmps32 rfl (fun w0=>?_)
 obtain ⟨c0,c1,c2,c3,c4,c5,c6,c7,c8,c9,c10,c11⟩:=s.cans (F:=F)
 refine SPY ?_; repeat' (first|refine ⟨fun hc=>?_,fun hc=>?_⟩|intro)
 rename_i b2 b3
 refine W.cut (G:=GSe) (fun g=>[(2,ptr b2),(3,ptr b3),(4,ptr g.b4),(5,.int .i64 (Oq.seen s.o.S (Snd.clock now)).2.2.1),(6,.bool (Oq.seen s.o.S (Snd.clock now)).2.2.2)])
  (fun g=>(g.b4,.cells g.dm.cells.toArray 77 (0,0))::(g.dm.bb++((b3,.cells [.int .i64 now].toArray 2 (0,0))::(b2,.cells [ptr s.R].toArray 28 (0,0))::({ s with o:=g.o }:SdM).H)))
  (fun g=>g.dm.ok∧g.dm.d=(Oq.seen s.o.S (Snd.clock now)).2.1∧g.o.ok∧g.o.R=s.o.R∧g.o.S=Oq.expire s.o.S (Snd.clock now)) (fun K' hK _=>?_) ?_
 · have hsub:∀ w,In F ((b3,.cells [.int .i64 now].toArray 2 (0,0))::(b2,.cells [ptr s.R].toArray 28 (0,0))::s.H) w→In F [(b3,.cells [.int .i64 now].toArray 2 (0,0)),(b2,.cells [ptr s.R].toArray 28 (0,0)),s.hd] w:=fun _ h=>h.sublist (.cons_cons _ (.cons_cons _ s.hdSub))
   refine W.drawG 11 [(b3,.cells [.int .i64 now].toArray 2 (0,0)),(b2,.cells [ptr s.R].toArray 28 (0,0)),s.hd] hsub ?_
   have c0:Sl.Can F [(b3,.cells [.int .i64 now].toArray 2 (0,0)),(b2,.cells [ptr s.R].toArray 28 (0,0)),s.hd] s.R (0+0) [ptr s.o.R]:=(s.hdCan.one (i:=0) rfl).mono (fun _ h=>h.sublist (.cons _ (.cons _ (.refl _))))
   clear c1 c2 c3 c4 c5 c6 c7 c8 c9 c10 c11
   have hk1:∀ (A p:HL) w,In F (A++(p++((b3,.cells [.int .i64 now].toArray 2 (0,0))::(b2,.cells [ptr s.R].toArray 28 (0,0))::(s.hd::(s.f.H++(s.wb++(s.ws.flatMap WaM.H++s.X))))))) w→In F [(b3,.cells [.int .i64 now].toArray 2 (0,0)),(b2,.cells [ptr s.R].toArray 28 (0,0)),s.hd] w:=fun A p _ h=>In.of_sub (.pick (.right (.right .here)) (.pick (.right (.right .here)) (.pick (.right (.right .here)) (.nil _)))) h
   repeat' (first
    | refine WF.pA ?_ | refine WF.sA ?_)
   refine WF.e rfl (Ef.callR (by exact rfl) (.nil _) (clock_tr _ now)) ?_ ?_
   · rintro _ _ ⟨rfl,rfl⟩
     refine ⟨.inr hsub,?_⟩
     repeat' (first
      | refine WF.pA ?_ | refine WF.sA ?_)
     refine WF.e rfl (Ef.call (c:=s.o.H) (by exact rfl) (.skip _ (.skip _ s.oqP.sub)) (oexp_tr _ s.o hs.o (Snd.clock now))) ?_ ?_
     ·
      rintro _ _ ⟨_,⟨dm,o',rfl,hdm,hdmd,ho',hoR,hoS,rfl⟩,rfl⟩
      have hp:=s.oqE hoR
      have hperm:((dm.bb++o'.H)++((b3,.cells [.int .i64 now].toArray 2 (0,0))::(b2,.cells [ptr s.R].toArray 28 (0,0))::(s.hd::(s.f.H++(s.wb++(s.ws.flatMap WaM.H++s.X)))))).Perm (dm.bb++((b3,.cells [.int .i64 now].toArray 2 (0,0))::(b2,.cells [ptr s.R].toArray 28 (0,0))::({ s with o:=o' }:SdM).H)):=by
       rw [List.append_assoc]
       exact (List.perm_middle.trans ((List.perm_middle.trans (hp.cons _)).cons _)).append_left _
      refine ⟨.inr (fun _ h=>hk1 (dm.bb++o'.H) [] _ h),?_⟩
      dsimp only [tup]
      repeat' (first
       | refine WF.pA ?_ | refine WF.sA ?_)
      refine WF.nil ?_
      refine WD.aA (fun b4=>?_) (hk:=fun _=>.inr (fun _ h=>hk1 (dm.bb++o'.H) [] _ (h.sublist (.cons _ (.refl _)))))
      refine WD.e0A ?_ (hk:=.inl (by kernel_rfl))
      refine SPZ ?_; repeat' (first|refine ⟨fun hc=>?_,fun hc=>?_⟩|intro)
      exact Fin.cut hK ⟨b4,dm,o'⟩ ⟨hdm,hdmd,ho',hoR,hoS⟩ envA (fun _ h=>h.perm (hperm.cons _))
     · refine WD.aA (fun b4=>?_) (hk:=fun _=>.inr (fun _ h=>hsub _ (h.sublist (.cons _ (.refl _)))))
       refine WD.e rfl (Ef.call (c:=s.o.H) (by exact rfl) (.skip _ (.skip _ (.skip _ s.oqP.sub))) (oexp_tr _ s.o hs.o (Snd.clock now))) ?_
       rintro _ _ ⟨_,⟨dm,o',rfl,hdm,hdmd,ho',hoR,hoS,rfl⟩,rfl⟩
       have hp:=s.oqE hoR
       have hperm:((dm.bb++o'.H)++((b3,.cells [.int .i64 now].toArray 2 (0,0))::(b2,.cells [ptr s.R].toArray 28 (0,0))::(s.hd::(s.f.H++(s.wb++(s.ws.flatMap WaM.H++s.X)))))).Perm (dm.bb++((b3,.cells [.int .i64 now].toArray 2 (0,0))::(b2,.cells [ptr s.R].toArray 28 (0,0))::({ s with o:=o' }:SdM).H)):=by
        rw [List.append_assoc]
        exact (List.perm_middle.trans ((List.perm_middle.trans (hp.cons _)).cons _)).append_left _
       refine ⟨.inr (fun _ h=>hk1 (dm.bb++o'.H) [_] _ h),?_⟩
       dsimp only [tup]
       refine SPZ ?_; repeat' (first|refine ⟨fun hc=>?_,fun hc=>?_⟩|intro)
       refine WD.e0 (Ef.sta rfl rfl rfl rfl (.right (.here rfl))) ?_
       rintro _ _ ⟨rfl,rfl⟩
       refine ⟨.inl (by kernel_rfl),?_⟩
       refine SPZ ?_; repeat' (first|refine ⟨fun hc=>?_,fun hc=>?_⟩|intro)
       exact Fin.cut hK ⟨b4,dm,o'⟩ ⟨hdm,hdmd,ho',hoR,hoS⟩ envA (fun _ h=>h.perm (List.perm_middle.trans (hperm.cons _)))
   · refine WD.aA (fun b4=>?_) (hk:=fun _=>.inr (fun _ h=>hsub _ (h.sublist (.cons _ (.refl _)))))
     refine WD.e rfl (Ef.callR (by exact rfl) (.nil _) (clock_tr _ now)) ?_
     rintro _ _ ⟨rfl,rfl⟩
     refine ⟨.inr (fun _ h=>hsub _ (h.sublist (.cons _ (.refl _)))),?_⟩
     refine SPZ ?_; repeat' (first|refine ⟨fun hc=>?_,fun hc=>?_⟩|intro)
     refine WD.e rfl (Ef.call (c:=s.o.H) (by exact rfl) (.skip _ (.skip _ (.skip _ s.oqP.sub))) (oexp_tr _ s.o hs.o (Snd.clock now))) ?_
     rintro _ _ ⟨_,⟨dm,o',rfl,hdm,hdmd,ho',hoR,hoS,rfl⟩,rfl⟩
     have hp:=s.oqE hoR
     have hperm:((dm.bb++o'.H)++((b3,.cells [.int .i64 now].toArray 2 (0,0))::(b2,.cells [ptr s.R].toArray 28 (0,0))::(s.hd::(s.f.H++(s.wb++(s.ws.flatMap WaM.H++s.X)))))).Perm (dm.bb++((b3,.cells [.int .i64 now].toArray 2 (0,0))::(b2,.cells [ptr s.R].toArray 28 (0,0))::({ s with o:=o' }:SdM).H)):=by
      rw [List.append_assoc]
      exact (List.perm_middle.trans ((List.perm_middle.trans (hp.cons _)).cons _)).append_left _
     refine ⟨.inr (fun _ h=>hk1 (dm.bb++o'.H) [_] _ h),?_⟩
     dsimp only [tup]
     refine SPZ ?_; repeat' (first|refine ⟨fun hc=>?_,fun hc=>?_⟩|intro)
     refine WD.e0 (Ef.sta rfl rfl rfl rfl (.right (.here rfl))) ?_
     rintro _ _ ⟨rfl,rfl⟩
     refine ⟨.inl (by kernel_rfl),?_⟩
     refine SPZ ?_; repeat' (first|refine ⟨fun hc=>?_,fun hc=>?_⟩|intro)
     exact Fin.cut hK ⟨b4,dm,o'⟩ ⟨hdm,hdmd,ho',hoR,hoS⟩ envA (fun _ h=>h.perm (List.perm_middle.trans (hperm.cons _)))
 clear c0 c1 c2 c3 c4 c5 c6 c7 c8 c9 c10 c11
 rintro ⟨b4,dm,o'⟩ ⟨hdm,hdmd,ho',hoR,hoS⟩
 dsimp only at hdm hdmd ho' hoR hoS ⊢
 obtain ⟨g,hg⟩:∃ g,Oq.seen s.o.S (Snd.clock now)=g:=⟨_,rfl⟩
 rw [hg] at hdmd ⊢
 have hx1:=Snd.expire1_ok hs.pl (Snd.clock now)
 have hx1e:Snd.expire1 s.S (Snd.clock now)=if g.2.2.2 then { s.S with q:=o'.S,owed:=s.S.owed++[⟨g.2.1,g.2.2.1⟩],f:=Flt.abandon s.f.S g.2.2.1 } else { s.S with q:=o'.S }:=by
  unfold Snd.expire1
  dsimp only
  rw [show s.S.q=s.o.S from rfl,hg,hoS]
  rfl
 obtain ⟨u,hu⟩:∃ u:SdM,u={ s with o:=o' }:=⟨_,rfl⟩
 have huR:u.R=s.R:=by rw [hu]
 rw [←hu]
 refine SPQ ?_; repeat' (first|refine ⟨fun hc=>?_,fun hc=>?_⟩|intro)
 refine W.cut (G:=GSx) (fun _=>[(2,ptr b2),(3,ptr b3)]) (fun g=>(b3,.cells [.int .i64 now].toArray 2 (0,0))::(b2,.cells [ptr s.R].toArray 28 (0,0))::g.s.H)
  (fun g=>g.s.ok (n+1)∧g.s.R=s.R∧g.s.S=Snd.expire1 s.S (Snd.clock now)) (fun K' hK _=>?_) ?_
 · cases hok:g.2.2.2 with
   | false=>
     rw [hok,if_neg (by decide)] at hx1e
     refine SPY ?_; repeat' (first|refine ⟨fun hc=>?_,fun hc=>?_⟩|intro)
     have huS:u.S=Snd.expire1 s.S (Snd.clock now):=by rw [hx1e,hu]; rfl
     exact Fin.cut hK ⟨u⟩ ⟨by rw [hu]; exact hs.setO ho' (by have:=hx1; rw [hx1e] at this; exact this),huR,huS⟩ envA (fun _ h=>In.of_sub (.last (.there (.right .all))) h)
   | true=>
     rw [hok,if_pos rfl] at hx1e
     have hown:OwnS 177 8 (u.owed.flatMap OwM.cells) (.slice u.oa u.on_ u.oc) u.ob:=by rw [hu]; exact hs.owed
     have hol:=OwnS.len hown
     rw [flat_len' OwM.cells 8 OwM.clen] at hol
     have hof:u.owed.length≤n:=by rw [hu]; have:=hs.pl.ofew; simpa [SdM.S] using this
     have c7:Sl.Can F [(b4,.cells dm.cells.toArray 77 (0,0)),(b2,.cells [ptr s.R].toArray 28 (0,0)),u.hd] s.R (0+7) [.slice u.oa u.on_ u.oc]:=by rw [←huR]; exact (u.hdCan.one (i:=7) rfl).mono (fun _ h=>h.sublist (.cons _ (.cons _ (.refl _))))
     refine SPY ?_; repeat' (first|refine ⟨fun hc=>?_,fun hc=>?_⟩|intro)
     refine W.draw [(b4,.cells dm.cells.toArray 77 (0,0)),(b2,.cells [ptr s.R].toArray 28 (0,0)),u.hd] (by kernel_rfl) (by kernel_rfl) (fun _ h=>h.sublist (.cons_cons _ (List.Sublist.trans (.cons _ (.cons_cons _ u.hdSub)) (List.sublist_append_right _ _)))) ?_
     repeat' (first | refine S2b ?_ | refine WD.s rfl (Rd.ldC rfl (Sl.Can.mono (by assumption) (fun _ h=>h.sublist findA))) ?_ | fail)
     refine WD.aA (fun b28=>?_) (hk:=fun _=>.inr (fun _ h=>h.sublist (.cons _ (.cons_cons _ (List.Sublist.trans (.cons _ (.cons_cons _ u.hdSub)) (List.sublist_append_right _ _))))))
     refine SPZ ?_; repeat' (first|refine ⟨fun hc=>?_,fun hc=>?_⟩|intro)
     refine WD.e rfl (Ef.app (m:=1) (news:=OwM.cells ⟨dm.d,g.2.2.1,dm.ba,dm.bn,dm.bc,dm.bb⟩) (hb:=u.ob) (by exact rfl) (by exact rfl) rfl rfl hown (.skip _ (.skip _ (.skipL dm.bb (.skip _ (.skip _ u.oaP.sub))))) (Src.own (n:=8) (.here rfl)) rfl (OwM.one _) (by rw [flat_len' OwM.cells 8 OwM.clen,OwM.clen]; omega) (by rw [flat_len' OwM.cells 8 OwM.clen,OwM.clen]; simp only [maxLen]; omega)) ?_
     rintro v' _ ⟨hb',hown',rfl⟩
     refine ⟨.inr (fun _ h=>In.of_sub (.pick (.right (.there .here)) (.pick (.right (.there (.right (.there .here)))) (.pick (.right (.there (.right (.there .here)))) (.nil _)))) h),?_⟩
     obtain ⟨ja,jn,jc,rfl,_,_⟩:=OwnS.shape hown'
     refine SPZ ?_; repeat' (first|refine ⟨fun hc=>?_,fun hc=>?_⟩|intro)
     rw [←huR]
     refine WD.e0 (Ef.st rfl rfl rfl (.right (.there (.there (.right (.there (.there (.here rfl)))))))) ?_
     rintro _ _ ⟨rfl,rfl⟩
     refine ⟨.inl (by kernel_rfl),?_⟩
     refine SPZ ?_; repeat' (first|refine ⟨fun hc=>?_,fun hc=>?_⟩|intro)
     obtain ⟨v,hv⟩:∃ v:SdM,v={ u with owed:=u.owed++[⟨dm.d,g.2.2.1,dm.ba,dm.bn,dm.bc,dm.bb⟩],oa:=ja,on_:=jn,oc:=jc,ob:=hb' }:=⟨_,rfl⟩
     have hvR:v.R=u.R:=by rw [hv]
     have hvf:v.f=s.f:=by rw [hv,hu]
     have huf:u.f.R=v.f.R:=by rw [hv]
     refine WL.weak (H':=(b3,.cells [.int .i64 now].toArray 2 (0,0))::(b2,.cells [ptr u.R].toArray 28 (0,0))::v.H) (fun _ h=>?_) ?_
     · rw [hv]
       unfold SdM.H SdM.T SdM.X
       dsimp only
       rw [List.flatMap_append,show [(⟨dm.d,g.2.2.1,dm.ba,dm.bn,dm.bc,dm.bb⟩:OwM)].flatMap (·.bb)=dm.bb by simp]
       exact In.of_sub (.pick (.right (.there (.there (.right .here)))) (.pick (.right (.there (.there (.right .here)))) (.pick (.right (.there (.there (.right .here)))) (.pickL (L:=u.o.H) (.right (.there (.there (.right .here)))) (.pickL (L:=u.f.H) (.right (.there (.there (.right .here)))) (.pickL (L:=u.wb) (.right (.there (.there (.right .here)))) (.pickL (L:=u.ws.flatMap WaM.H) (.right (.there (.there (.right .here)))) (.pickL (L:=u.lb) (.right (.there (.there (.right .here)))) (.pickL (L:=hb') .here (.pickL (L:=u.owed.flatMap (·.bb)) (.there (.there (.right .all))) (.last (L:=dm.bb) (.there (.there .here))))))))))))) h
     have hT:=fun F'=>abandon_tr F' v.f (by rw [hvf]; exact hs.f) g.2.2.1
     rw [←huf] at hT
     refine WL.e rfl (Ef.call (c:=v.f.H) (by exact rfl) (.skip _ (.skip _ v.flP.sub)) (hT _)) ?_
     rintro _ _ ⟨_,⟨rfl,f',hf',rfl,hfR,hfS⟩,rfl⟩
     rw [←hvR]
     refine WL.weak (H':=(b3,.cells [.int .i64 now].toArray 2 (0,0))::(b2,.cells [ptr v.R].toArray 28 (0,0))::({ v with f:=f' }:SdM).H) (fun _ h=>In.front2 (v.flE (hfR.trans huf)) h) ?_
     refine SPZ ?_; repeat' (first|refine ⟨fun hc=>?_,fun hc=>?_⟩|intro)
     obtain ⟨x,hx⟩:∃ x:SdM,x={ v with f:=f' }:=⟨_,rfl⟩
     have hxS:x.S=Snd.expire1 s.S (Snd.clock now):=by
      rw [hx1e,hx,hv,hu,←hdmd]
      unfold SdM.S
      dsimp only
      rw [hfS,hvf,List.map_append]
      rfl
     have hxR:v.R=s.R:=hvR.trans huR
     have hxok:x.ok (n+1):=by
      rw [←hxS] at hx1
      rw [hx] at hx1 ⊢
      refine ⟨?_,hf',?_,?_,?_,?_,hx1⟩
      · rw [hv,hu]; exact ho'
      · rw [hv,hu]; exact hs.ways
      · rw [hv,hu]; exact hs.lives
      · rw [hv]; dsimp only; rw [List.flatMap_append]; simpa using hown'
      · rw [hv]
        intro m hm
        rcases List.mem_append.1 hm with hm | hm
        · rw [hu] at hm; exact hs.own m hm
        · rw [List.mem_singleton.1 hm]; exact hdm
     exact Fin.cut hK ⟨x⟩ ⟨hxok,by rw [hx]; exact hxR,hxS⟩ envA (fun _ h=>by dsimp only; rw [hx,←hxR]; exact h)
 rintro ⟨t⟩ ⟨ht,htR,htS⟩
 dsimp only at ht htR htS ⊢
 clear hu huR hx1 hx1e hdm hdmd ho' hoR hoS hg
 rw [←htR]
 have c6:Sl.Can F [(b2,.cells [ptr t.R].toArray 28 (0,0)),t.hd] t.R (0+6) [.slice t.la t.ln t.lc]:=(t.hdCan.one (i:=6) rfl).mono (fun _ h=>h.sublist (.cons _ (.refl _)))
 have hlf:t.lives.length≤n+1:=ht.pl.lfew
 have hsubT:Sub (t.lb++capH b3 b2 now t t.f) ((b3,.cells [.int .i64 now].toArray 2 (0,0))::(b2,.cells [ptr t.R].toArray 28 (0,0))::t.H) (t.o.H++(t.wb++(t.ws.flatMap WaM.H++(t.ob++t.owed.flatMap (·.bb))))):=by
  unfold capH SdM.H SdM.T SdM.X
  exact .pickL (L:=t.lb) (.there (.there (.there (.right (.right (.right (.right .here))))))) (.pick .here (.pick .here (.pick .here (.last (.right .here)))))
 refine SPY ?_; repeat' (first|refine ⟨fun hc=>?_,fun hc=>?_⟩|intro)
 refine W.draw [(b2,.cells [ptr t.R].toArray 28 (0,0)),t.hd] (by kernel_rfl) (by kernel_rfl) (fun _ h=>h.sublist (.cons _ (.cons_cons _ t.hdSub))) ?_
 refine SPY ?_; repeat' (first|refine ⟨fun hc=>?_,fun hc=>?_⟩|intro)
 refine WD.e rfl (Ef.call (by exact rfl) hsubT (delL_tr _ b3 b2 now t t.f ht.f rfl t.lives t.la t.ln t.lc t.lb ht.lives (by omega))) ?_
 clear c6
 rintro _ _ ⟨_,⟨hb,f',rfl,hown',hf',hfR,hfS,rfl⟩,rfl⟩
 refine ⟨.inr (fun _ h=>In.of_sub (.pick (.left (.right (.there .here))) (.pick (.left (.right (.there .here))) (.nil _))) h),?_⟩
 refine SPZ ?_; repeat' (first|refine ⟨fun hc=>?_,fun hc=>?_⟩|intro)
 refine WD.e0 (Ef.st rfl rfl rfl (.left (.right (.there (.there (.here rfl)))))) ?_
 rintro _ _ ⟨rfl,rfl⟩
 refine ⟨.inl (by kernel_rfl),?_⟩
 obtain ⟨y,hy⟩:∃ y:SdM,y={ t with f:=f',lives:=aliveL now t.lives,ln:=(aliveL now t.lives).length,lb:=hb }:=⟨_,rfl⟩
 have hyR:y.R=t.R:=by rw [hy]
 have hyS:y.S=Snd.expire2 t.S (Snd.clock now):=by
  rw [hy]
  unfold SdM.S Snd.expire2 Snd.lapse
  dsimp only
  rw [hfS,lapseN_eq]
  rfl
 have hyok:y.ok (n+1):=by
  have h1:=Snd.expire2_ok ht.pl (Snd.clock now)
  rw [←hyS] at h1
  rw [hy] at h1 ⊢
  exact ⟨ht.o,hf',ht.ways,hown',ht.owed,ht.own,h1⟩
 refine SPZ ?_; repeat' (first|refine ⟨fun hc=>?_,fun hc=>?_⟩|intro)
 rw [←hyR]
 refine WL.weak (H':=(b3,.cells [.int .i64 now].toArray 2 (0,0))::(b2,.cells [ptr y.R].toArray 28 (0,0))::y.H) (fun _ h=>?_) ?_
 · rw [hyR] at h ⊢
   rw [hy]
   unfold SdM.H SdM.T SdM.X SdM.hd SdM.cells
   dsimp only
   rw [hfR]
   simp only [List.append_assoc,List.cons_append] at h
   exact In.of_sub (.pick (.right .here) (.pick (.right .here) (.pick (.right .here) (.pickL (L:=t.o.H) (.right (.right .here)) (.pickL (L:=f'.H) (.right .here) (.pickL (L:=t.wb) (.right .here) (.pickL (L:=t.ws.flatMap WaM.H) (.right .here) (.pickL (L:=hb) .here (.all _)))))))))  h
 refine SPY ?_; repeat' (first|refine ⟨fun hc=>?_,fun hc=>?_⟩|intro)
 refine WL.e rfl (Ef.call (by exact rfl) (.skip _ (.skip _ (.all _))) (slay_tr _ y hyok now)) ?_
 rintro _ _ ⟨_,⟨rfl,z,hz,rfl,hzR,hzS⟩,rfl⟩
 have hT:=fun F'=>srest_tr F' z hz
 rw [hzR] at hT
 refine WL.weak (H':=(b3,.cells [.int .i64 now].toArray 2 (0,0))::(b2,.cells [ptr y.R].toArray 28 (0,0))::z.H) (fun _ h=>h.perm List.perm_append_comm) ?_
 refine SPY ?_; repeat' (first|refine ⟨fun hc=>?_,fun hc=>?_⟩|intro)
 refine WL.e rfl (Ef.call (by exact rfl) (.skip _ (.skip _ (.all _))) (hT _)) ?_
 rintro _ _ ⟨_,⟨rfl,r,hr,rfl,hrR,hrS⟩,rfl⟩
 refine SPY ?_; repeat' (first|refine ⟨fun hc=>?_,fun hc=>?_⟩|intro)
 refine Fin.endW (by exact rfl) resA (H':=r.H) (fun _ h=>h.left) ⟨rfl,r,hr,?_,?_,rfl⟩
 · rw [hrR,hyR]
 · rw [hrS,hzS,hyS,htS]
   rfl
end Go.Proofs.YtlfpemmdehmbfaaGreat
namespace Go.Proofs.YtlfpemmdehmbfaaGreat
open Go Go.Sl Go.Pth
theorem DsM.oaP (s:DsM):DPart s s.ob (s.hd::(s.q.H++(s.f.H++(s.tb++(s.sb++(s.mb++(s.pb++(s.WH++(s.lb++s.owed.flatMap (·.bb)))))))))):=⟨by
 unfold DsM.H DsM.T DsM.X
 exact .last (.there (.right (.right (.right (.right (.right (.right (.right (.right .here)))))))))⟩
theorem DsM.atL (s:DsM):s.lb.Sublist s.H:=List.Sublist.trans (List.sublist_append_left _ _) s.atX
structure GDe' where
 b4:Nat
 dm:DM
 q:DqM
structure GDi where
 i:Nat
 f:FR
 la:Option Addr
 ln:Nat
 lc:Nat
 lb:HL
def aliveV (now:Int) (l:List Snd.Life):List Snd.Life:=l.filter (fun x=>!Snd.lifeDead now x)
theorem aliveV_snoc {now:Int} {l:List Snd.Life} {i:Nat} {x:Snd.Life} (h:l[i]? = some x):aliveV now (l.take (i+1))=if Snd.lifeDead now x then aliveV now (l.take i) else aliveV now (l.take i)++[x]:=by
 unfold aliveV
 rw [List.take_add_one,h,List.filter_append]
 cases hd:Snd.lifeDead now x <;> simp [hd]
theorem lapse_snoc {f:Flt.S} {now:Int} {l:List Snd.Life} {i:Nat} {x:Snd.Life} (h:l[i]? = some x):Snd.lapse f now (l.take (i+1))=if Snd.lifeDead now x then Flt.abandon (Snd.lapse f now (l.take i)) x.id else Snd.lapse f now (l.take i):=by
 unfold Snd.lapse
 rw [List.take_add_one,h,List.filter_append]
 cases hd:Snd.lifeDead now x <;> simp [hd]
theorem lifeC_one (x:Snd.Life):∀ u ∈ lifeC x,u.oneCell'=true:=by
 intro u hu
 simp only [lifeC,List.mem_cons,List.not_mem_nil,or_false] at hu
 rcases hu with rfl | rfl <;> rfl
set_option maxHeartbeats 8000000 in
theorem dsexp_tr (F:Nat→Option Obj) {n:Nat} (s:DsM) (hs:s.ok n) (hn:n < 1000000) (now:Int):Tr Tryz.prog 39 [ptr s.R,.int .i64 now].toArray F s.H (fun v H=>v=.tuple #[]∧∃ s':DsM,s'.ok (n+1)∧s'.R=s.R∧s'.S=Snd.expire s.S now∧H=s'.H):=by
 refine Tr.enter Tryz.func39 rfl Tryz.ntmps39 rfl (fun w0=>?_)
 refine SPY ?_; repeat' (first|refine ⟨fun hc=>?_,fun hc=>?_⟩|intro)
 refine W.cut (G:=GDe') (fun g=>[(0,ptr s.R),(1,.int .i64 now),(4,ptr g.b4),(5,.int .i64 (Oq.seen s.q.S (Snd.clock now)).2.2.1),(6,.bool (Oq.seen s.q.S (Snd.clock now)).2.2.2)])
  (fun g=>(g.b4,.cells g.dm.cells.toArray 77 (0,0))::(g.dm.bb++({ s with q:=g.q }:DsM).H))
  (fun g=>g.dm.ok∧g.dm.d=(Oq.seen s.q.S (Snd.clock now)).2.1∧g.q.ok∧g.q.R=s.q.R∧g.q.S=Oq.expire s.q.S (Snd.clock now)) (fun K' hK _=>?_) ?_
 · have hsub:∀ w,In F s.H w→In F [s.hd] w:=fun _ h=>h.sublist s.hdSub
   refine W.drawG 11 [s.hd] hsub ?_
   have c0:Sl.Can F [s.hd] s.R (0+0) [ptr s.q.R]:=s.hdCan.one (i:=0) rfl
   have hk1:∀ (A p:HL) w,In F (A++(p++s.oqR)) w→In F [s.hd] w:=fun A p _ h=>In.of_sub (.last (L:=[_]) (.right (.right .here))) h
   repeat' (first
    | refine WF.pA ?_ | refine WF.sA ?_)
   refine WF.e rfl (Ef.callR (by exact rfl) (.nil _) (dclock_tr _ now)) ?_ ?_
   · rintro _ _ ⟨rfl,rfl⟩
     refine ⟨.inr hsub,?_⟩
     repeat' (first
      | refine WF.pA ?_ | refine WF.sA ?_)
     refine WF.e rfl (Ef.call (c:=s.q.H) (by exact rfl) s.oqP.sub (doexp_tr _ s.q hs.q (Snd.clock now))) ?_ ?_
     ·
      rintro _ _ ⟨_,⟨dm,o',rfl,hdm,hdmd,ho',hoR,hoS,rfl⟩,rfl⟩
      have hperm:((dm.bb++o'.H)++s.oqR).Perm (dm.bb++({ s with q:=o' }:DsM).H):=by
       rw [List.append_assoc]
       exact (s.oqE hoR).append_left _
      refine ⟨.inr (fun _ h=>hk1 (dm.bb++o'.H) [] _ h),?_⟩
      dsimp only [tup]
      repeat' (first
       | refine WF.pA ?_ | refine WF.sA ?_)
      refine WF.nil ?_
      refine WD.aA (fun b4=>?_) (hk:=fun _=>.inr (fun _ h=>hk1 (dm.bb++o'.H) [] _ (h.sublist (.cons _ (.refl _)))))
      refine WD.e0A ?_ (hk:=.inl (by kernel_rfl))
      refine SPZ ?_; repeat' (first|refine ⟨fun hc=>?_,fun hc=>?_⟩|intro)
      exact Fin.cut hK ⟨b4,dm,o'⟩ ⟨hdm,hdmd,ho',hoR,hoS⟩ envA (fun _ h=>h.perm (hperm.cons _))
     · refine WD.aA (fun b4=>?_) (hk:=fun _=>.inr (fun _ h=>hsub _ (h.sublist (.cons _ (.refl _)))))
       refine WD.e rfl (Ef.call (c:=s.q.H) (by exact rfl) (.skip _ s.oqP.sub) (doexp_tr _ s.q hs.q (Snd.clock now))) ?_
       rintro _ _ ⟨_,⟨dm,o',rfl,hdm,hdmd,ho',hoR,hoS,rfl⟩,rfl⟩
       have hperm:((dm.bb++o'.H)++s.oqR).Perm (dm.bb++({ s with q:=o' }:DsM).H):=by
        rw [List.append_assoc]
        exact (s.oqE hoR).append_left _
       refine ⟨.inr (fun _ h=>hk1 (dm.bb++o'.H) [_] _ h),?_⟩
       dsimp only [tup]
       refine SPZ ?_; repeat' (first|refine ⟨fun hc=>?_,fun hc=>?_⟩|intro)
       refine WD.e0 (Ef.sta rfl rfl rfl rfl (.right (.here rfl))) ?_
       rintro _ _ ⟨rfl,rfl⟩
       refine ⟨.inl (by kernel_rfl),?_⟩
       refine SPZ ?_; repeat' (first|refine ⟨fun hc=>?_,fun hc=>?_⟩|intro)
       exact Fin.cut hK ⟨b4,dm,o'⟩ ⟨hdm,hdmd,ho',hoR,hoS⟩ envA (fun _ h=>h.perm (List.perm_middle.trans (hperm.cons _)))
   · refine WD.aA (fun b4=>?_) (hk:=fun _=>.inr (fun _ h=>hsub _ (h.sublist (.cons _ (.refl _)))))
     refine WD.e rfl (Ef.callR (by exact rfl) (.nil _) (dclock_tr _ now)) ?_
     rintro _ _ ⟨rfl,rfl⟩
     refine ⟨.inr (fun _ h=>hsub _ (h.sublist (.cons _ (.refl _)))),?_⟩
     refine SPZ ?_; repeat' (first|refine ⟨fun hc=>?_,fun hc=>?_⟩|intro)
     refine WD.e rfl (Ef.call (c:=s.q.H) (by exact rfl) (.skip _ s.oqP.sub) (doexp_tr _ s.q hs.q (Snd.clock now))) ?_
     rintro _ _ ⟨_,⟨dm,o',rfl,hdm,hdmd,ho',hoR,hoS,rfl⟩,rfl⟩
     have hperm:((dm.bb++o'.H)++s.oqR).Perm (dm.bb++({ s with q:=o' }:DsM).H):=by
      rw [List.append_assoc]
      exact (s.oqE hoR).append_left _
     refine ⟨.inr (fun _ h=>hk1 (dm.bb++o'.H) [_] _ h),?_⟩
     dsimp only [tup]
     refine SPZ ?_; repeat' (first|refine ⟨fun hc=>?_,fun hc=>?_⟩|intro)
     refine WD.e0 (Ef.sta rfl rfl rfl rfl (.right (.here rfl))) ?_
     rintro _ _ ⟨rfl,rfl⟩
     refine ⟨.inl (by kernel_rfl),?_⟩
     refine SPZ ?_; repeat' (first|refine ⟨fun hc=>?_,fun hc=>?_⟩|intro)
     exact Fin.cut hK ⟨b4,dm,o'⟩ ⟨hdm,hdmd,ho',hoR,hoS⟩ envA (fun _ h=>h.perm (List.perm_middle.trans (hperm.cons _)))
 rintro ⟨b4,dm,o'⟩ ⟨hdm,hdmd,ho',hoR,hoS⟩
 dsimp only at hdm hdmd ho' hoR hoS ⊢
 obtain ⟨g,hg⟩:∃ g,Oq.seen s.q.S (Snd.clock now)=g:=⟨_,rfl⟩
 rw [hg] at hdmd ⊢
 have hx1:=Snd.expire1_ok hs.pl (Snd.clock now)
 have hx1e:Snd.expire1 s.S (Snd.clock now)=if g.2.2.2 then { s.S with q:=o'.S,owed:=s.S.owed++[⟨g.2.1,g.2.2.1⟩],f:=Flt.abandon s.f.S g.2.2.1 } else { s.S with q:=o'.S }:=by
  unfold Snd.expire1
  dsimp only
  rw [show s.S.q=s.q.S from rfl,hg,hoS]
  rfl
 obtain ⟨u,hu⟩:∃ u:DsM,u={ s with q:=o' }:=⟨_,rfl⟩
 have huR:u.R=s.R:=by rw [hu]
 rw [←hu]
 refine SPQ ?_; repeat' (first|refine ⟨fun hc=>?_,fun hc=>?_⟩|intro)
 refine W.cut (G:=GDt) (fun _=>[(0,ptr s.R),(1,.int .i64 now)]) (fun g=>g.s.H)
  (fun g=>g.s.ok (n+1)∧g.s.R=s.R∧g.s.S=Snd.expire1 s.S (Snd.clock now)) (fun K' hK _=>?_) ?_
 · cases hok:g.2.2.2 with
   | false=>
     rw [hok,if_neg (by decide)] at hx1e
     refine SPY ?_; repeat' (first|refine ⟨fun hc=>?_,fun hc=>?_⟩|intro)
     have huS:u.S=Snd.expire1 s.S (Snd.clock now):=by rw [hx1e,hu]; rfl
     exact Fin.cut hK ⟨u⟩ ⟨by rw [hu]; exact hs.setO ho' (by have:=hx1; rw [hx1e] at this; exact this),huR,huS⟩ envA (fun _ h=>In.of_sub (.last (.there (.right .all))) h)
   | true=>
     rw [hok,if_pos rfl] at hx1e
     have hown:OwnS 192 8 (u.owed.flatMap OwM.cells) (.slice u.oa u.on_ u.oc) u.ob:=by rw [hu]; exact hs.owed
     have hol:=OwnS.len hown
     rw [flat_len' OwM.cells 8 OwM.clen] at hol
     have hof:u.owed.length≤n:=by rw [hu]; have:=hs.pl.ofew; simpa [DsM.S] using this
     have c10:Sl.Can F [(b4,.cells dm.cells.toArray 77 (0,0)),u.hd] s.R (0+10) [.slice u.oa u.on_ u.oc]:=by rw [←huR]; exact (u.hdCan.one (i:=10) rfl).mono (fun _ h=>h.sublist (.cons _ (.refl _)))
     refine SPY ?_; repeat' (first|refine ⟨fun hc=>?_,fun hc=>?_⟩|intro)
     refine W.draw [(b4,.cells dm.cells.toArray 77 (0,0)),u.hd] (by kernel_rfl) (by kernel_rfl) (fun _ h=>h.sublist (.cons_cons _ (List.Sublist.trans u.hdSub (List.sublist_append_right _ _)))) ?_
     repeat' (first | refine S2b ?_ | refine WD.s rfl (Rd.ldC rfl (Sl.Can.mono (by assumption) (fun _ h=>h.sublist findA))) ?_ | fail)
     refine WD.aA (fun b31=>?_) (hk:=fun _=>.inr (fun _ h=>h.sublist (.cons _ (.cons_cons _ (List.Sublist.trans u.hdSub (List.sublist_append_right _ _))))))
     refine SPZ ?_; repeat' (first|refine ⟨fun hc=>?_,fun hc=>?_⟩|intro)
     refine WD.e rfl (Ef.app (m:=1) (news:=OwM.cells ⟨dm.d,g.2.2.1,dm.ba,dm.bn,dm.bc,dm.bb⟩) (hb:=u.ob) (by exact rfl) (by exact rfl) rfl rfl hown (.skip _ (.skip _ (.skipL dm.bb u.oaP.sub))) (Src.own (n:=8) (.here rfl)) rfl (OwM.one _) (by rw [flat_len' OwM.cells 8 OwM.clen,OwM.clen]; omega) (by rw [flat_len' OwM.cells 8 OwM.clen,OwM.clen]; simp only [maxLen]; omega)) ?_
     rintro v' _ ⟨hb',hown',rfl⟩
     refine ⟨.inr (fun _ h=>In.of_sub (.pick (.right (.there .here)) (.pick (.right (.there (.right .here))) (.nil _))) h),?_⟩
     obtain ⟨ja,jn,jc,rfl,_,_⟩:=OwnS.shape hown'
     refine SPZ ?_; repeat' (first|refine ⟨fun hc=>?_,fun hc=>?_⟩|intro)
     rw [←huR]
     refine WD.e0 (Ef.st rfl rfl rfl (.right (.there (.there (.right (.here rfl)))))) ?_
     rintro _ _ ⟨rfl,rfl⟩
     refine ⟨.inl (by kernel_rfl),?_⟩
     refine SPZ ?_; repeat' (first|refine ⟨fun hc=>?_,fun hc=>?_⟩|intro)
     obtain ⟨v,hv⟩:∃ v:DsM,v={ u with owed:=u.owed++[⟨dm.d,g.2.2.1,dm.ba,dm.bn,dm.bc,dm.bb⟩],oa:=ja,on_:=jn,oc:=jc,ob:=hb' }:=⟨_,rfl⟩
     have hvR:v.R=u.R:=by rw [hv]
     have hvf:v.f=s.f:=by rw [hv,hu]
     have huf:u.f.R=v.f.R:=by rw [hv]
     refine WL.weak (H':=v.H) (fun _ h=>?_) ?_
     · rw [hv]
       unfold DsM.H DsM.T DsM.X
       dsimp only
       rw [List.flatMap_append,show [(⟨dm.d,g.2.2.1,dm.ba,dm.bn,dm.bc,dm.bb⟩:OwM)].flatMap (·.bb)=dm.bb by simp]
       exact In.of_sub (.pick (.right (.there (.there (.right .here)))) (.pickL (L:=u.q.H) (.right (.there (.there (.right .here)))) (.pickL (L:=u.f.H) (.right (.there (.there (.right .here)))) (.pickL (L:=u.tb) (.right (.there (.there (.right .here)))) (.pickL (L:=u.sb) (.right (.there (.there (.right .here)))) (.pickL (L:=u.mb) (.right (.there (.there (.right .here)))) (.pickL (L:=u.pb) (.right (.there (.there (.right .here)))) (.pickL (L:=u.WH) (.right (.there (.there (.right .here)))) (.pickL (L:=u.lb) (.right (.there (.there (.right .here)))) (.pickL (L:=hb') .here (.pickL (L:=u.owed.flatMap (·.bb)) (.there (.there (.right .all))) (.last (L:=dm.bb) (.there (.there .here)))))))))))))) h
     have hT:=fun F'=>rabandon_tr F' v.f (by rw [hvf]; exact hs.f) g.2.2.1
     rw [←huf] at hT
     have c1:Sl.Can F v.H u.R (0+1) [ptr u.f.R]:=by rw [←hvR,huf]; exact (v.cans (F:=F)).2.1
     refine SPZ ?_; repeat' (first|refine ⟨fun hc=>?_,fun hc=>?_⟩|intro)
     refine WL.e rfl (Ef.call (c:=v.f.H) (by exact rfl) v.flP.sub (hT _)) ?_
     rintro _ _ ⟨_,⟨rfl,f',hf',rfl,hfR,hfS⟩,rfl⟩
     refine WL.weak (H':=({ v with f:=f' }:DsM).H) (fun _ h=>h.perm (v.flE (hfR.trans huf))) ?_
     clear c1
     refine SPZ ?_; repeat' (first|refine ⟨fun hc=>?_,fun hc=>?_⟩|intro)
     obtain ⟨x,hx⟩:∃ x:DsM,x={ v with f:=f' }:=⟨_,rfl⟩
     have hxS:x.S=Snd.expire1 s.S (Snd.clock now):=by
      rw [hx1e,hx,hv,hu,←hdmd]
      unfold DsM.S
      dsimp only
      rw [hfS,hvf,List.map_append]
      rfl
     have hxR:v.R=s.R:=hvR.trans huR
     have hxok:x.ok (n+1):=by
      rw [←hxS] at hx1
      rw [hx] at hx1 ⊢
      refine ⟨?_,hf',?_,?_,?_,?_,?_,?_,?_,hx1⟩
      · rw [hv,hu]; exact ho'
      · rw [hv,hu]; exact hs.ways
      · rw [hv,hu]; exact hs.tims
      · rw [hv,hu]; exact hs.sets
      · rw [hv,hu]; exact hs.marks
      · rw [hv,hu]; exact hs.lives
      · rw [hv]; dsimp only; rw [List.flatMap_append]; simpa using hown'
      · rw [hv]
        intro m hm
        rcases List.mem_append.1 hm with hm | hm
        · rw [hu] at hm; exact hs.own m hm
        · rw [List.mem_singleton.1 hm]; exact hdm
     rw [huR]
     exact Fin.cut hK ⟨x⟩ ⟨hxok,by rw [hx]; exact hxR,hxS⟩ envA (fun _ h=>by dsimp only; rw [hx]; exact h)
 rintro ⟨t⟩ ⟨ht,htR,htS⟩
 dsimp only at ht htR htS ⊢
 clear hu huR hx1 hx1e hdm hdmd ho' hoR hoS hg
 rw [←htR]
 refine Fin.next ?_
 have hll:t.lives.length=t.ln:=by have:=OwnS.len ht.lives; rw [flat_len' lifeC 2 lifeC_len] at this; omega
 have hlf:t.lives.length≤n+1:=ht.pl.lfew
 have hcl:=Snd.clock_rng now
 refine SPY ?_; repeat' (first|refine ⟨fun hc=>?_,fun hc=>?_⟩|intro)
 refine W.loop (G:=GDi) (fun g=>[(0,ptr t.R),(1,.int .i64 now),(7,.slice g.la g.ln g.lc),(8,.int .i64 g.i)]) (fun g=>g.lb++({ t with f:=g.f }:DsM).H)
  (fun g=>g.i≤t.ln∧g.f.ok∧g.f.R=t.f.R∧g.f.S=Snd.lapse t.f.S (Snd.clock now) (t.lives.take g.i)∧OwnS 120 2 ((aliveV (Snd.clock now) (t.lives.take g.i)).flatMap lifeC) (.slice g.la g.ln g.lc) g.lb) (fun g=>t.ln - g.i) ⟨0,t.f,none,0,0,[]⟩ ⟨Nat.zero_le _,ht.f,rfl,rfl,.inl ⟨rfl,rfl,rfl⟩⟩ envA (fun _ h=>h) ?_
 rintro ⟨i,f,la,ln,lc,lb⟩ ⟨hi,hf,hfR,hfS,hown⟩
 dsimp only at hi hf hfR hfS hown ⊢
 obtain ⟨c0,c1,c2,c3,c4,c5,c6,c7,c8,c9,c10,c11,c12,c13,c14⟩:=DsM.cans (F:=F) { t with f:=f }
 dsimp only at c0 c1 c2 c3 c4 c5 c6 c7 c8 c9 c10 c11 c12 c13 c14
 have hln:ln≤i:=by
  have h1:=OwnS.len hown
  rw [flat_len' lifeC 2 lifeC_len] at h1
  have h2:(aliveV (Snd.clock now) (t.lives.take i)).length≤(t.lives.take i).length:=List.length_filter_le _ _
  rw [List.length_take] at h2
  omega
 refine SPQ ?_; repeat' (first|refine ⟨fun hc=>?_,fun hc=>?_⟩|intro)
 cases hc:decide ((i:Int) < t.ln) with
 | false=>
   have hi':i=t.lives.length:=by have:=of_decide_eq_false hc; omega
   subst hi'
   rw [List.take_length] at hown hfS
   refine SPZ ?_; repeat' (first|refine ⟨fun hc=>?_,fun hc=>?_⟩|intro)
   refine WL.e0 (Ef.st rfl rfl rfl (.right (DsM.putX (s:={ t with f:=f }) (off:=0+9) (vs:=[.slice la ln lc]) rfl))) ?_
   rintro _ _ ⟨rfl,rfl⟩
   obtain ⟨y,hy⟩:∃ y:DsM,y={ t with f:=f,lives:=aliveV (Snd.clock now) t.lives,la:=la,ln:=ln,lc:=lc,lb:=lb }:=⟨_,rfl⟩
   have hyR:y.R=t.R:=by rw [hy]
   have hyS:y.S=Snd.expire2 t.S (Snd.clock now):=by
    rw [hy]
    unfold DsM.S Snd.expire2
    dsimp only
    rw [hfS]
    rfl
   have hyok:y.ok (n+1):=by
    have h1:=Snd.expire2_ok ht.pl (Snd.clock now)
    rw [←hyS] at h1
    rw [hy] at h1 ⊢
    exact ⟨ht.q,hf,ht.ways,ht.tims,ht.sets,ht.marks,hown,ht.owed,ht.own,h1⟩
   refine WL.weak (H':=y.H) (fun _ h=>?_) ?_
   · rw [hy]
     unfold DsM.H DsM.T DsM.X DsM.hd
     unfold DsM.T DsM.X at h
     dsimp only at h ⊢
     exact In.of_sub (.pick (.right .here) (.pickL (L:=t.q.H) (.right .here) (.pickL (L:=f.H) (.right .here) (.pickL (L:=t.tb) (.right .here) (.pickL (L:=t.sb) (.right .here) (.pickL (L:=t.mb) (.right .here) (.pickL (L:=t.pb) (.right .here) (.pickL (L:=t.WH) (.right .here) (.pickL (L:=lb) .here (.last (.right .all))))))))))) h
   rw [←hyR]
   clear c0 c1 c2 c3 c4 c5 c6 c7 c8 c9 c10 c11 c12 c13 c14
   refine SPY ?_; repeat' (first|refine ⟨fun hc=>?_,fun hc=>?_⟩|intro)
   refine WL.e rfl (Ef.call (c:=y.H) (by exact rfl) (.all _) (dlay_tr _ y hyok (by omega) now)) ?_
   rintro _ _ ⟨_,⟨rfl,z,hz,rfl,hzR,hzS⟩,rfl⟩
   rw [List.append_nil]
   have hT:=fun F'=>drest_tr F' z hz
   rw [hzR] at hT
   refine SPY ?_; repeat' (first|refine ⟨fun hc=>?_,fun hc=>?_⟩|intro)
   refine WL.e rfl (Ef.call (c:=z.H) (by exact rfl) (.all _) (hT _)) ?_
   rintro _ _ ⟨_,⟨rfl,r,hr,rfl,hrR,hrS⟩,rfl⟩
   rw [List.append_nil]
   refine SPY ?_; repeat' (first|refine ⟨fun hc=>?_,fun hc=>?_⟩|intro)
   refine Fin.endW (by exact rfl) resA (H':=r.H) (fun _ h=>h) ⟨rfl,r,hr,?_,?_,rfl⟩
   · rw [hrR,hyR,htR]
   · rw [hrS,hzS,hyS,htS]
     rfl
 | true=>
 have hi':i < t.ln:=by have:=of_decide_eq_true hc; omega
 obtain ⟨x,hx⟩:∃ x,t.lives[i]? = some x:=⟨t.lives[i]'(by omega),List.getElem?_eq_getElem _⟩
 obtain ⟨b,off,hla,hcan⟩:=(Lst.own (F:=F) (H:=t.lb) ht.lives (fun _ h=>h)).el lifeC_len hx (by omega)
 have hcan:Sl.Can F ({ t with f:=f }:DsM).H b (off+(i:Int).toNat * 2) (lifeC x):=hcan.mono (fun _ h=>h.sublist (DsM.atL { t with f:=f }))
 have x0:=hcan.one (i:=0) rfl
 have x1:=hcan.one (i:=1) rfl
 have hia:0≤(i:Int)∧(i:Int) < t.ln:=by omega
 have hal:=aliveV_snoc (now:=Snd.clock now) hx
 have hlp:=lapse_snoc (f:=t.f.S) (now:=Snd.clock now) hx
 have c9':Sl.Can F ({ t with f:=f }:DsM).H t.R (0+9) [.slice (some ⟨b,off,none⟩) t.ln t.lc]:=by rw [←hla]; exact c9
 clear c9
 have c9:=c9'
 clear c9'
 refine SPY ?_; repeat' (first|refine ⟨fun hc=>?_,fun hc=>?_⟩|intro)
 refine W.drawA ?_
 refine SPY ?_; repeat' (first|refine ⟨fun hc=>?_,fun hc=>?_⟩|intro)
 refine WD.e rfl (Ef.callR (by exact rfl) (.nil _) (dclock_tr _ now)) ?_
 rintro _ _ ⟨rfl,rfl⟩
 refine ⟨.inr (fun _ h=>h),?_⟩
 refine SPQ ?_; repeat' (first|refine ⟨fun hc=>?_,fun hc=>?_⟩|intro)
 cases hd:decide (x.til≤Snd.clock now) with
 | true=>
   have hd':Snd.lifeDead (Snd.clock now) x=true:=hd
   rw [hd',if_pos rfl] at hal hlp
   refine SPY ?_; repeat' (first|refine ⟨fun hc=>?_,fun hc=>?_⟩|intro)
   refine W.drawA ?_
   refine SPY ?_; repeat' (first|refine ⟨fun hc=>?_,fun hc=>?_⟩|intro)
   refine WD.e rfl (Ef.call (c:=f.H) (by exact rfl) (.skipL lb (DsM.flP { t with f:=f }).sub) (rabandon_tr _ f hf x.id)) ?_
   rintro _ _ ⟨_,⟨rfl,f',hf',rfl,hfR',hfS'⟩,rfl⟩
   refine ⟨.inl (by kernel_rfl),?_⟩
   refine WD.weak (fun _ h=>In.front lb (DsM.flE (s:={ t with f:=f }) hfR') h) ?_
   clear c0 c1 c2 c3 c4 c5 c6 c7 c8 c9 c10 c11 c12 c13 c14 hcan x0 x1
   refine SPY ?_; repeat' (first|refine ⟨fun hc=>?_,fun hc=>?_⟩|intro)
   rw [i64_succ (by omega)]
   exact Fin.round ⟨i+1,f',la,ln,lc,lb⟩ ⟨hi',hf',hfR'.trans hfR,by rw [hlp,←hfS]; exact hfS',by rw [hal]; exact hown⟩ envA (fun _ h=>h) (by dsimp only; omega)
 | false=>
   have hd':Snd.lifeDead (Snd.clock now) x=false:=hd
   rw [hd',if_neg (by decide)] at hal hlp
   unfold lifeC at hcan
   refine SPY ?_; repeat' (first|refine ⟨fun hc=>?_,fun hc=>?_⟩|intro)
   refine WL.s rfl (Rd.ldaC rfl rfl (hcan.mono (fun _ h=>h.sublist (List.sublist_append_right _ _)))) ?_
   refine SPY ?_; repeat' (first|refine ⟨fun hc=>?_,fun hc=>?_⟩|intro)
   refine WL.e rfl (Ef.app (m:=1) (news:=lifeC x) (hb:=lb) (by exact rfl) (by exact rfl) rfl rfl hown (.last (.there .here)) (Src.own (n:=2) (.here rfl)) rfl (lifeC_one x) (by rw [flat_len' lifeC 2 lifeC_len,lifeC_len]; have:=OwnS.len hown; rw [flat_len' lifeC 2 lifeC_len] at this; omega) (by rw [flat_len' lifeC 2 lifeC_len,lifeC_len]; have:=OwnS.len hown; rw [flat_len' lifeC 2 lifeC_len] at this; simp only [maxLen]; omega)) ?_
   rintro v' _ ⟨lb',hown',rfl⟩
   obtain ⟨ja,jn,jc,rfl,_,_⟩:=OwnS.shape hown'
   clear c0 c1 c2 c3 c4 c5 c6 c7 c8 c9 c10 c11 c12 c13 c14 hcan x0 x1
   refine SPY ?_; repeat' (first|refine ⟨fun hc=>?_,fun hc=>?_⟩|intro)
   rw [i64_succ (by omega)]
   exact Fin.round ⟨i+1,f,ja,jn,jc,lb'⟩ ⟨hi',hf,hfR,by rw [hlp,←hfS],by rw [hal,List.flatMap_append]; simpa using hown'⟩ envA (fun _ h=>In.of_sub (.pickL (L:=lb') .here (.last (.there .all))) h) (by dsimp only; omega)
end Go.Proofs.YtlfpemmdehmbfaaGreat
namespace Go.Snd
open Go Go.Pth
structure Tight (s s':S):Prop where
 c:s'.f.c=s.f.c
 ws:∀ w' ∈ s'.ws,w'.set=true→∃ w ∈ s.ws,w.set=true∧w'.mark=w.mark
theorem Tight.refl (s:S):Tight s s:=⟨rfl,fun w h hs=>⟨w,h,hs,rfl⟩⟩
theorem Tight.same {s s':S} (h1:s'.f.c=s.f.c) (h2:s'.ws=s.ws):Tight s s':=⟨h1,fun w h hs=>⟨w,by rw [←h2]; exact h,hs,rfl⟩⟩
theorem Tight.trans {a b c:S} (h1:Tight a b) (h2:Tight b c):Tight a c:=⟨h2.c.trans h1.c,fun w hw hs=>by
 obtain ⟨x,hx,hxs,e⟩:=h2.ws w hw hs
 obtain ⟨y,hy,hys,e'⟩:=h1.ws x hx hxs
 exact ⟨y,hy,hys,e.trans e'⟩⟩
theorem MarkOk.tight {s s':S} (h:MarkOk s) (ht:Tight s s'):MarkOk s':=by
 intro w hw hs
 obtain ⟨x,hx,hxs,e⟩:=ht.ws w hw hs
 rw [e,ht.c]
 exact h x hx hxs
theorem add_c (f:Flt.S) (d:Flt.Dt) (p now id:Int):(Flt.add f d p now id).c=f.c:=by unfold Flt.add; split <;> rfl
theorem again_c (f:Flt.S) (t p now:Int):(Flt.again f t p now).1.c=f.c:=by
 unfold Flt.again
 repeat' split
 all_goals rfl
theorem layN_tight (now:Int):∀ (n:Nat) (s:S),Tight s (layN now n s)
 | 0,s=>.refl s
 | n+1,s=>by
   rw [layN]
   split
   · exact .refl s
   · rename_i x r hx
     split
     · exact Tight.trans (b:={ s with f:=Flt.abandon (Flt.add s.f x.d 0 (clock now) x.id) x.id,owed:=r }) (.same (add_c _ _ _ _ _) rfl) (layN_tight now n _)
     · exact .refl s
theorem restAll_tight (s:S):Tight s (restAll s):=⟨rfl,fun w hw hs=>by
 obtain ⟨k,hk,e⟩:=List.mem_mapIdx.1 hw
 refine ⟨s.ws[k],List.getElem_mem hk,?_⟩
 rw [←e] at hs ⊢
 unfold restW at hs ⊢
 split at hs
 · rename_i h0
   rw [if_pos h0]
   exact ⟨hs,rfl⟩
 · rename_i h0
   rw [if_neg h0]
   exact ⟨hs,rfl⟩⟩
theorem lapse_c (now:Int):∀ (l:List Life) (f:Flt.S),(l.foldl (fun f (x:Life)=>Flt.abandon f x.id) f).c=f.c
 | [],_=>rfl
 | x::l,f=>by rw [List.foldl_cons,lapse_c now l]; rfl
theorem expire_tight (s:S) (now:Int):Tight s (expire s now):=by
 unfold expire
 refine .trans (.trans (.trans (b:=expire1 s (clock now)) ?_ ?_) (layN_tight _ _ _)) (restAll_tight _)
 · unfold expire1
   dsimp only
   split
   · exact .same rfl rfl
   · exact .same rfl rfl
 · exact .same (lapse_c (clock now) _ _) rfl
theorem put_tight (s:S) (stream:Int) (ord:Bool) (bs:List UInt8) (lasts now:Int):Tight s (put s stream ord bs lasts now):=by
 unfold put
 split
 · exact .same rfl rfl
 · exact .refl s
theorem setW_tight {s:S} {k:Nat} {w w':Way} (h:s.ws[k]? = some w) (f:Flt.S) (hf:f.c=s.f.c) (hw:w'.set=true→w.set=true∧w'.mark=w.mark):Tight s { s with ws:=s.ws.set k w',f:=f }:=⟨hf,fun x hx hs=>by
 rcases List.mem_or_eq_of_mem_set hx with hx | rfl
 · exact ⟨x,hx,hs,rfl⟩
 · exact ⟨w,List.mem_of_getElem? h,hw hs⟩⟩
theorem late1_tight (now:Int) (g:Late) (k:Nat):Tight g.s (late1 now g k).s:=by
 unfold late1
 split
 · exact .refl _
 · rename_i w hw
   split
   · exact setW_tight (w':=lateW w) hw _ rfl (fun h=>by cases h)
   · exact .refl _
theorem lateL_tight (now:Int):∀ (l:List Nat) (g:Late),Tight g.s (l.foldl (late1 now) g).s
 | [],_=>.refl _
 | k::l,g=>.trans (late1_tight now g k) (lateL_tight now l _)
theorem timeout_tight (s:S) (now:Int):Tight s (timeout s now).s:=lateL_tight _ _ ⟨s,0,0⟩
theorem again1_c (k:Nat) (now:Int) (x:Go1 × Bool) (t:Int):(again1 k now x t).1.s.f.c=x.1.s.f.c:=by
 unfold again1
 repeat' split
 all_goals first
  | rfl
  | exact again_c _ _ _ _
theorem againL_c (k:Nat) (now:Int):∀ (l:List Int) (x:Go1 × Bool),(l.foldl (again1 k now) x).1.s.f.c=x.1.s.f.c
 | [],_=>rfl
 | t::l,x=>by rw [List.foldl_cons,againL_c k now l,again1_c]
theorem againS_c (s:S) (k:Nat) (now:Int):(again s k now).s.f.c=s.f.c:=againL_c k now _ _
theorem fresh1_c (k:Nat) (now:Int) (g:Go1):(fresh1 k now g).s.f.c=g.s.f.c:=by
 unfold fresh1
 split
 · rfl
 · exact add_c _ _ _ _ _
theorem freshN_c (k:Nat) (now:Int):∀ (m:Nat) (g:Go1),(freshN k now m g).s.f.c=g.s.f.c
 | 0,_=>rfl
 | m+1,g=>by
   rw [freshN]
   split
   · rfl
   · rw [freshN_c k now m,fresh1_c]
theorem run_tight (s:S) (k:Nat) (now:Int):Tight s (run s k now):=by
 unfold run
 split
 · rename_i w hw
   have e:(runW (clock now) w).set=w.set∧(runW (clock now) w).mark=w.mark:=by
    unfold runW
    split <;> exact ⟨rfl,rfl⟩
   exact setW_tight hw s.f rfl (fun h=>⟨by rw [←e.1]; exact h,e.2⟩)
 · exact .refl s
theorem trySome_tight {step:S→Nat→Option Go1} (hstep:∀ s k g,step s k=some g→Tight s g.s) (now:Int):∀ (l:List Nat) (s:S),Tight s (trySome step now l s).1
 | [],s=>.refl s
 | k::l,s=>by
   rw [trySome]
   split
   · exact trySome_tight hstep now l s
   · rename_i g hg
     split
     · exact .trans (hstep s k g hg) (trySome_tight hstep now l _)
     · exact .trans (hstep s k g hg) (run_tight _ _ _)
theorem next_tight (s:S) (now:Int):Tight s (next s now).1:=by
 have h1:=trySome_tight (step:=fun s k=>some (again s k now)) (fun s k g hg=>by cases hg; exact .same (againS_c s k now) (again_ws s k now)) now (List.range s.ws.length) s
 unfold next
 split
 · rename_i s1 r hs
   rw [hs] at h1
   exact h1
 · rename_i s1 hs
   rw [hs] at h1
   refine .trans h1 (trySome_tight (fun s k g hg=>?_) now _ s1)
   split at hg
   · cases hg
     exact .same (freshN_c k now 100 _) (fresh_ws s k now)
   · cases hg
theorem forward_tight (s:S) (now:Int):Tight s (forward s now).1:=by
 unfold forward
 split
 · exact .refl s
 · split
   · exact .refl s
   · exact .same rfl rfl
theorem beat_tight (s:S) (now:Int):Tight s (beat s now):=⟨rfl,fun w hw hs=>by
 obtain ⟨x,hx,rfl⟩:=List.mem_map.1 hw
 exact ⟨x,hx,hs,rfl⟩⟩
theorem beaten_tight (s:S) (k sent now:Int):Tight s (beaten s k sent now):=by
 unfold beaten
 split
 · exact .refl s
 · split
   · rename_i w hw
     exact setW_tight hw s.f rfl (fun h=>⟨h,rfl⟩)
   · exact .refl s
theorem sack_mark {n:Nat} {s s':S} (h:Ok n s) (hm:MarkOk s) {y rwnd:Int} (hy:0≤y∧y < 4294967296) {gs:List (Nat × Nat)} {now:Int} (hs:sack s y rwnd gs now=some s'):MarkOk s':=by
 unfold sack at hs
 split at hs
 · cases hs
 · rename_i f' t ht
   cases hs
   have hn:=mark_sack h hm hy ht
   have h1:=(h.f.sack hy ht).1
   have k1:MarkOk { s with f:=f',ws:=hearAll { s with f:=f' } t (fun k=>!mayW s k) (clock now) }:=by
    intro w hw hset
    obtain ⟨k,hk,rfl⟩:=List.mem_mapIdx.1 hw
    exact mark_hear3 (near_hear2 (hn _ (List.getElem_mem hk)) h1.g.few _ _ _) hset
   exact k1.tight (.trans (restAll_tight _) (.trans (.trans (b:={ restAll { s with f:=f',ws:=hearAll { s with f:=f' } t (fun k=>!mayW s k) (clock now) } with q:=Oq.free (restAll { s with f:=f',ws:=hearAll { s with f:=f' } t (fun k=>!mayW s k) (clock now) }).q t.freed }) (.same rfl rfl) (layN_tight _ _ _)) (.same rfl rfl)))
theorem did_mark {n:Nat} {s:S} (h:Ok n s) (hm:MarkOk s) (o:Dg) (cum now:Int):MarkOk (did s o cum now).s:=by
 unfold did
 split
 · exact hm.tight (put_tight _ _ _ _ _ _)
 · split
   · split
     · exact hm
     · rename_i s' hs
       exact sack_mark h hm (Flt.u32_mod _) hs
   · split
     · exact hm.tight (expire_tight s now)
     · split
       · exact hm.tight (timeout_tight s now)
       · split
         · have:=next_tight s now
           split
           · rename_i s' hn; rw [hn] at this; exact hm.tight this
           · rename_i s' k l hn; rw [hn] at this; exact hm.tight this
         · split
           · have:=forward_tight s now
             split
             · rename_i s' hn; rw [hn] at this; exact hm.tight this
             · rename_i s' k l hn; rw [hn] at this; exact hm.tight this
           · split
             · exact hm.tight (beat_tight s now)
             · split
               · exact hm.tight (beaten_tight s _ _ now)
               · exact hm
theorem newS_mark (paths streams sroom mtu:Int) (p:Pth.S) (first rwnd:Int):MarkOk (newS paths streams sroom mtu p first rwnd):=by
 intro w hw hs
 obtain ⟨_,rfl⟩:=List.mem_replicate.1 hw
 cases hs
end Go.Snd
namespace Go.Proofs.YtlfpemmdehmbfaaGreat
open Go Go.Sl Go.Pth
def plainC (p:Int):Cfg:=⟨1+p % 4,128,2,65536,65536,1000,3,1,60,5,100,10,2,5⟩
theorem plain_tr (F:Nat→Option Obj) (p:Int) (hp:0≤p∧p < 256):Tr Tryz.prog 20 [.int .u8 p].toArray F [] (fun v H=>v=.agg (plainC p).cells.toArray∧H=[]):=by
 refine Tr.enter Tryz.func20 rfl Tryz.ntmps20 rfl (fun w0=>?_)
 refine SPU ?_; repeat' (first|refine ⟨fun hc=>?_,fun hc=>?_⟩|intro)
 refine Fin.retW (by exact rfl) resA (H':=[]) (fun _ h=>h.sublist (List.nil_sublist _)) ⟨?_,rfl⟩
 have e1:IntKind.i64.wrap p=p:=i64_id (by omega) (by omega)
 have e2:p.tmod 4=p % 4:=Int.tmod_eq_emod_of_nonneg (by omega)
 have e3:IntKind.i64.wrap (1+p % 4)=1+p % 4:=i64_id (by omega) (by omega)
 simp only [e1,e2,e3,plainC,Cfg.cells,tup]
theorem plain_may (p:Int):(plainC p).sndMay 0=true:=by
 have h:0≤p % 4∧p % 4 < 4:=by omega
 unfold Cfg.sndMay plainC Cfg.pathMay
 dsimp only
 rw [decide_eq_true (by omega)]
 rfl
def wz (n:Nat):List UInt8:=List.replicate n 0
theorem mk_wz (n:Nat):mkCells [.int .u8 0] n=(wz n).map B:=by
 induction n with
 | zero=>rfl
 | succ n ih=>rw [mkCells,ih]; rfl
def wp:Pth.S:=⟨⟨3,1,60,false,0,0⟩,⟨128,1000,256,1000,0⟩,0,2,10,10,false⟩
def wS0:Snd.S:=⟨⟨[],0,65536,0,[0,0]⟩,⟨[],9,2⟩,[⟨wp,-1,false,0⟩,⟨wp,-1,false,0⟩],400,400,128,[],[],false,0,0,1⟩
def wS1:Snd.S:=⟨⟨[⟨0,true,wz 150,0,0,0,0⟩],1,65536,150,[0,0]⟩,⟨[],9,2⟩,[⟨wp,-1,false,0⟩,⟨wp,-1,false,0⟩],400,400,128,[],[],false,0,0,1⟩
def wS2:Snd.S:=⟨⟨[⟨0,true,wz 150,0,0,100,0⟩],1,65536,150,[1,0]⟩,⟨[⟨10,0,0,false,true,false,wz 100,0,0,0,0,false,false,false,false⟩],9,2⟩,[⟨wp,3,false,0⟩,⟨wp,-1,false,0⟩],300,400,128,[],[],false,0,0,1⟩
def wS3:Snd.S:=⟨⟨[],1,65536,150,[1,0]⟩,⟨[⟨10,0,0,false,true,false,wz 100,0,0,0,0,false,false,false,false⟩,⟨11,0,0,false,false,true,wz 50,0,0,0,0,false,false,false,false⟩],9,2⟩,[⟨wp,3,false,0⟩,⟨wp,-1,false,0⟩],250,400,128,[],[],false,0,0,1⟩
def wd1:Flt.Dt:=⟨10,0,0,false,true,false,wz 100⟩
def wd2:Flt.Dt:=⟨11,0,0,false,false,true,wz 50⟩
theorem wN0:(plainC 1).sndNew 10 400 0=wS0:=by kernel_rfl
theorem wE1:Snd.putE wS0 0 150 0 0=0:=by kernel_rfl
theorem wN1:Snd.put wS0 0 true (wz 150) 0 0=wS1:=by kernel_rfl
theorem wN2:Snd.next wS1 0=(wS2,some (0,[wd1])):=by kernel_rfl
theorem wN3:Snd.next wS2 0=(wS3,some (0,[wd2])):=by kernel_rfl
theorem wN4:Snd.next wS3 0=(wS3,none):=by kernel_rfl
theorem wN5:(Snd.sack wS3 11 400 [] 2).map Snd.empty=some true:=by kernel_rfl
theorem OuM.ok.one {o:OuM} (h:o.ok) {d:Flt.Dt} (hL:o.L=[d]):∃ (b off:Nat) (ba:Option Addr) (bc:Nat),o.sa=some ⟨b,off,none⟩∧o.sn=1∧∀ F:Nat→Option Obj,Sl.Can F o.hb b (off+(0:Int).toNat * 7+6) [.slice ba d.bs.length bc]∧Sl.Can F o.hb b (off+(0:Int).toNat * 7+0) [.int .u32 d.tsn]:=by
 have hl:=h.len
 have hr:=h.row
 unfold OuM.L at hL
 obtain ⟨m,hm,hd⟩:∃ m,o.ds=[m]∧m.d=d:=by
  cases hds:o.ds with
  | nil=>rw [hds] at hL; cases hL
  | cons m r=>
    rw [hds,List.map_cons] at hL
    obtain ⟨h1,h2⟩:=List.cons.inj hL
    exact ⟨m,by rw [List.map_eq_nil_iff.1 h2],h1⟩
 have hsn:o.sn=1:=by rw [hm] at hl; simpa using hl.symm
 have hbn:m.bn=d.bs.length:=by
  have:=OwnS.len (h.own m (by rw [hm]; exact List.mem_singleton.2 rfl))
  rw [hd] at this
  simp at this
  omega
 rw [hm,hsn] at hr
 have hL:=fun F:Nat→Option Obj=>Lst.own (F:=F) hr (fun _ hh=>hh)
 obtain ⟨b,off,ha,_⟩:=(hL (fun _=>none)).can (by decide)
 refine ⟨b,off,m.ba,m.bc,ha,hsn,fun F=>?_⟩
 obtain ⟨b',off',ha',hcan⟩:=(hL F).can (by decide)
 rw [ha] at ha'
 cases ha'
 rw [←hbn,←hd]
 exact ⟨hcan.one (i:=6) rfl,hcan.one (i:=0) rfl⟩
set_option maxHeartbeats 4000000 in
theorem works_tr (F:Nat→Option Obj):Tr Tryz.prog 5 [].toArray F [] (fun v H=>v=.bool true∧H=[]):=by
 refine Tr.enter Tryz.func5 rfl Tryz.ntmps5 rfl (fun w0=>?_)
 refine SPS ?_; repeat' (first|refine ⟨fun hc=>?_,fun hc=>?_⟩|intro)
 refine WL.e rfl (Ef.callR (by exact rfl) (.nil _) (plain_tr _ 1 (by omega))) ?_
 rintro _ _ ⟨rfl,rfl⟩
 refine SPS ?_; repeat' (first|refine ⟨fun hc=>?_,fun hc=>?_⟩|intro)
 refine WL.e rfl (Ef.call (by exact rfl) (.nil _) (snew_tr _ (plainC 1) 10 400 0 (by omega))) ?_
 rintro _ _ ⟨_,(⟨hno,_⟩ | ⟨_,s0,hs0,rfl,rfl,hS0⟩),rfl⟩
 · rw [plain_may] at hno; cases hno
 rw [wN0] at hS0
 dsimp only [tup]
 rw [List.append_nil]
 refine SPS ?_; repeat' (first|refine ⟨fun hc=>?_,fun hc=>?_⟩|intro)
 refine WL.e rfl (Ef.mkS (n:=150) (z:=[.int .u8 0]) (by exact rfl) (by exact rfl) rfl rfl (by decide) (by decide)) ?_
 rintro _ _ ⟨z1,rfl,rfl⟩
 rw [mk_wz]
 refine SPS ?_; repeat' (first|refine ⟨fun hc=>?_,fun hc=>?_⟩|intro)
 refine WL.e rfl (Ef.callW (c:=s0.H) (by exact rfl) (.skip _ (.all _)) (fun F' hF=>sput_tr F' s0 hs0 (by decide) 0 (by omega) true (wz 150) (some ⟨z1,0,none⟩) 150 150 (Lst.mono (F:=F) (H:=[(z1,.cells ((wz 150).map B).toArray 5 (0,0))]) ⟨rfl,Nat.le_refl _,fun _=>⟨z1,0,rfl,Can.cut (n:=150) (.here (by kernel_rfl))⟩,fun h=>by cases h⟩ (fun w h=>hF w h)) 0 0)) ?_
 rintro _ _ ⟨_,⟨rfl,s1,hs1,rfl,hR1,hS1⟩,rfl⟩
 rw [hS0,wN1] at hS1
 rw [hS0,show (wz 150).length=150 from rfl,wE1,←hR1]
 refine WL.weak (H':=s1.H) (fun _ h=>h.left) ?_
 refine SPS ?_; repeat' (first|refine ⟨fun hc=>?_,fun hc=>?_⟩|intro)
 refine WL.e rfl (Ef.call (c:=s1.H) (by exact rfl) (.all _) (snx_tr _ s1 hs1 0)) ?_
 rintro _ _ ⟨_,hq,rfl⟩
 rw [hS1,wN2] at hq
 obtain ⟨s2,o1,rfl,hs2,hR2,hS2,ho1,hL1,rfl⟩:=hq
 obtain ⟨b1,f1,ba1,bc1,ha1,hn1,hc1⟩:=ho1.one hL1
 obtain ⟨hc1a,hc1b⟩:=hc1 F
 rw [ha1,hn1,←hR2,List.append_nil]
 dsimp only [tup]
 refine WL.weak (H':=o1.hb++s2.H) (fun _ h=>In.of_sub (.pickL (L:=o1.hb) .here (.last (.right .all))) h) ?_
 refine SPS ?_; repeat' (first|refine ⟨fun hc=>?_,fun hc=>?_⟩|intro)
 refine WL.e rfl (Ef.call (c:=s2.H) (by exact rfl) (.skipL o1.hb (.all _)) (snx_tr _ s2 hs2 0)) ?_
 rintro _ _ ⟨_,hq,rfl⟩
 rw [hS2,wN3] at hq
 obtain ⟨s3,o2,rfl,hs3,hR3,hS3,ho2,hL2,rfl⟩:=hq
 obtain ⟨b2,f2,ba2,bc2,ha2,hn2,hc2⟩:=ho2.one hL2
 obtain ⟨hc2a,hc2b⟩:=hc2 F
 rw [ha2,hn2,←hR3]
 dsimp only [tup]
 refine WL.weak (H':=o1.hb++(o2.hb++s3.H)) (fun _ h=>by
  rw [List.append_assoc,List.append_assoc] at h
  exact In.of_sub (.pickL (L:=o1.hb) (.right (.right (.right .here))) (.pickL (L:=o2.hb) .here (.last (L:=s3.H) (.right .here)))) h) ?_
 refine SPS ?_; repeat' (first|refine ⟨fun hc=>?_,fun hc=>?_⟩|intro)
 refine WL.e rfl (Ef.call (c:=s3.H) (by exact rfl) (.skipL o1.hb (.skipL o2.hb (.all _))) (snx_tr _ s3 hs3 0)) ?_
 rintro _ _ ⟨_,hq,rfl⟩
 rw [hS3,wN4] at hq
 obtain ⟨rfl,s4,hs4,hR4,hS4,rfl⟩:=hq
 rw [←hR4]
 dsimp only [tup]
 refine WL.weak (H':=o1.hb++(o2.hb++s4.H)) (fun _ h=>In.of_sub (.pickL (L:=o1.hb) (.right .here) (.pickL (L:=o2.hb) (.right .here) (.last (L:=s4.H) .here))) h) ?_
 refine SPS ?_; repeat' (first|refine ⟨fun hc=>?_,fun hc=>?_⟩|intro)
 refine WL.e rfl (Ef.callR (c:=s4.H) (by exact rfl) (.skipL o1.hb (.skipL o2.hb (.all _))) (sroom_tr _ s4)) ?_
 rintro _ _ ⟨rfl,rfl⟩
 rw [hS4,show wS3.room=250 from rfl]
 refine SPS ?_; repeat' (first|refine ⟨fun hc=>?_,fun hc=>?_⟩|intro)
 refine WL.e rfl (Ef.call (c:=s4.H) (by exact rfl) (.skipL o1.hb (.skipL o2.hb (.all _))) (ssack_tr _ s4 hs4 11 400 (by omega) (by omega) [] none 0 0 .nil (by simp) (by simp) none 0 0 2)) ?_
 rintro _ _ ⟨_,hq,rfl⟩
 rw [hS4] at hq
 have h5:=wN5
 cases hsk:Snd.sack wS3 11 400 [] 2 with
 | none=>rw [hsk] at h5; cases h5
 | some S5=>
 rw [hsk] at h5 hq
 have h5:Snd.empty S5=true:=Option.some.inj h5
 obtain ⟨rfl,s5,hs5,rfl,hR5,hS5⟩:=hq
 rw [←hR5]
 refine WL.weak (H':=o1.hb++(o2.hb++s5.H)) (fun _ h=>In.of_sub (.pickL (L:=o1.hb) (.right .here) (.pickL (L:=o2.hb) (.right .here) (.last (L:=s5.H) .here))) h) ?_
 have k1:=hc1a.mono (F':=F) (H':=o1.hb++(o2.hb++s5.H)) (fun _ h=>h.left)
 have k2:=hc1b.mono (F':=F) (H':=o1.hb++(o2.hb++s5.H)) (fun _ h=>h.left)
 have k3:=hc2a.mono (F':=F) (H':=o1.hb++(o2.hb++s5.H)) (fun _ h=>h.right.left)
 have k4:=hc2b.mono (F':=F) (H':=o1.hb++(o2.hb++s5.H)) (fun _ h=>h.right.left)
 clear hc1 hc2 hc1a hc1b hc2a hc2b
 rw [show wd1.bs.length=100 from rfl] at k1
 rw [show wd2.bs.length=50 from rfl] at k3
 rw [show wd1.tsn=10 from rfl] at k2
 rw [show wd2.tsn=11 from rfl] at k4
 have hia:0≤(0:Int)∧(0:Int) < ((1:Nat):Int):=by decide
 refine SPS ?_; repeat' (first|refine ⟨fun hc=>?_,fun hc=>?_⟩|intro)
 refine WL.e rfl (Ef.callR (c:=s5.H) (by exact rfl) (.skipL o1.hb (.skipL o2.hb (.all _))) (sempty_tr _ s5 hs5)) ?_
 rintro _ _ ⟨rfl,rfl⟩
 rw [hS5,h5]
 refine SPS ?_; repeat' (first|refine ⟨fun hc=>?_,fun hc=>?_⟩|intro)
 exact Fin.retW (by exact rfl) resA (fun _ h=>h.sublist (List.nil_sublist _)) ⟨rfl,rfl⟩
end Go.Proofs.YtlfpemmdehmbfaaGreat
namespace Go.Proofs.YtlfpemmdehmbfaaGreat
open Go Go.Sl Go.Pth
structure Ov where
 kind:Int
 wait:Int
 stream:Int
 ord:Bool
 ba:Option Addr
 bn:Nat
 bc:Nat
 life:Int
 by_:Int
 ka:Option Addr
 kn:Nat
 kc:Nat
 rwnd:Int
 path:Int
def Ov.cells (o:Ov):List Value:=[.int .i64 o.kind,.int .u16 o.wait,.int .u16 o.stream,.bool o.ord,.slice o.ba o.bn o.bc,.int .i64 o.life,.int .u32 o.by_,.slice o.ka o.kn o.kc,.int .u32 o.rwnd,.int .i64 o.path]
def vastG:List Ov→Int→Bool
 | [],_=>false
 | o::r,n=>if n+min (o.bn:Int) 131072 > 32768∨o.kn > 50 then true else vastG r (n+min (o.bn:Int) 131072)
def vast (l:List Ov):Bool:=decide (l.length > 120) || vastG l 0
structure VsG where
 i:Nat
 n:Int
set_option maxHeartbeats 4000000 in
theorem vast_tr (F:Nat→Option Obj) (X:HL) (l:List Ov) (ka:Option Addr) (kn kc:Nat) (hl:Lst F X 10 (l.flatMap Ov.cells) ka kn kc) :
 Tr Tryz.prog 4 [.slice ka kn kc].toArray F X (fun v H=>v=.bool (vast l)∧H=X):=by
 refine Tr.enter Tryz.func4 rfl Tryz.ntmps4 rfl (fun w0=>?_)
 have hkn:kn=l.length:=by have:=hl.len; rw [flat_len' Ov.cells 10 (fun _=>rfl)] at this; omega
 refine SPS ?_; repeat' (first|refine ⟨fun hc=>?_,fun hc=>?_⟩|intro)
 · refine Fin.retW (by exact rfl) resA (fun _ h=>h) ⟨?_,rfl⟩
   simp at hc
   simp [tup,vast]
   omega
 have h80:kn≤120:=by simp at hc; omega
 refine W.loop (G:=VsG) (fun g=>[(0,.slice ka kn kc),(3,.int .i64 g.n),(4,.int .i64 g.i)]) (fun _=>X)
  (fun g=>g.i≤kn∧0≤g.n∧g.n≤32768∧vastG (l.drop g.i) g.n=vastG l 0) (fun g=>kn - g.i) ⟨0,0⟩ ⟨Nat.zero_le _,by decide,by decide,rfl⟩ envA (fun _ h=>h) ?_
 rintro ⟨i,n⟩ ⟨hi,hn0,hn1,hv⟩
 dsimp only at hi hn0 hn1 hv ⊢
 refine SPS ?_; repeat' (first|refine ⟨fun hc=>?_,fun hc=>?_⟩|intro)
 · have hi':i < kn:=by simp at hc; omega
   obtain ⟨o,ho⟩:∃ o,l[i]? = some o:=⟨l[i]'(by omega),by simp⟩
   obtain ⟨b,off,rfl,hcan⟩:=hl.can (by omega)
   have hat:=flat_at Ov.cells 10 (fun _=>rfl) l i o ho
   have hsub:=hcan.sub (i * 10) 10
   rw [hat] at hsub
   have hia:0≤(i:Int)∧(i:Int) < kn:=by omega
   have hC1:Sl.Can F X b (off+(i:Int).toNat * 10+2+2) [.slice o.ba o.bn o.bc]:=by have:=hsub.one (i:=4) (v:=.slice o.ba o.bn o.bc) rfl; simpa using this
   have hC2:Sl.Can F X b (off+(i:Int).toNat * 10+7) [.slice o.ka o.kn o.kc]:=by have:=hsub.one (i:=7) (v:=.slice o.ka o.kn o.kc) rfl; simpa using this
   have hd:l.drop i=o::l.drop (i+1):=by rw [List.drop_eq_getElem_cons (by omega),(List.getElem?_eq_some_iff.1 ho).2]
   have e1:IntKind.i64.wrap (n+if 131072 < (o.bn:Int) then 131072 else (o.bn:Int))=n+min (o.bn:Int) 131072:=by
    rw [show (if 131072 < (o.bn:Int) then 131072 else (o.bn:Int))=min (o.bn:Int) 131072 by split <;> omega,i64_id (by omega) (by omega)]
   rw [hd,vastG] at hv
   have hno:vast l=vastG l 0:=by unfold vast; rw [show decide (l.length > 120)=false by simp; omega]; rfl
   refine SPS ?_; repeat' (first|refine ⟨fun hc=>?_,fun hc=>?_⟩|intro)
   · refine Fin.retW (by exact rfl) resA (fun _ h=>h) ⟨?_,rfl⟩
     rw [e1] at hc
     rw [hno,←hv,if_pos (.inl (of_decide_eq_true hc))]
     rfl
   · refine Fin.retW (by exact rfl) resA (fun _ h=>h) ⟨?_,rfl⟩
     have h5:=of_decide_eq_true hc
     rw [hno,←hv,if_pos (.inr (by omega))]
     rfl
   · rename_i hc1
     rw [e1] at hc1
     have g1:=of_decide_eq_false hc1
     have g2:=of_decide_eq_false hc
     rw [if_neg (by omega)] at hv
     rw [e1,i64_succ (by omega)]
     exact Fin.round ⟨i+1,n+min (o.bn:Int) 131072⟩ ⟨hi',by dsimp only; omega,by dsimp only; omega,hv⟩ envA (fun _ h=>h) (by dsimp only; omega)
 · have hi':i=l.length:=by simp at hc; omega
   subst hi'
   refine Fin.retW (by exact rfl) resA (fun _ h=>h) ⟨?_,rfl⟩
   rw [List.drop_length,vastG] at hv
   unfold vast
   rw [←hv,show decide (l.length > 120)=false by simp; omega]
   rfl
structure Ov.Is (F:Nat→Option Obj) (o:Ov) (bs:List UInt8) (gs:List (Nat × Nat)):Prop where
 bytes:Lst F [] 1 (bs.map B) o.ba o.bn o.bc
 gaps:Lst F [] 2 (gs.flatMap gC) o.ka o.kn o.kc
 wait:0≤o.wait∧o.wait < 65536
 stream:0≤o.stream∧o.stream < 65536
 by_:0≤o.by_∧o.by_ < 4294967296
 rwnd:0≤o.rwnd∧o.rwnd < 4294967296
 gs16:∀ g ∈ gs,g.1 < 65536∧g.2 < 65536
theorem Ov.Is.bn {F:Nat→Option Obj} {o:Ov} {bs:List UInt8} {gs:List (Nat × Nat)} (h:o.Is F bs gs):o.bn=bs.length:=by have:=h.bytes.len; simp at this; omega
theorem Ov.Is.kn {F:Nat→Option Obj} {o:Ov} {bs:List UInt8} {gs:List (Nat × Nat)} (h:o.Is F bs gs):o.kn=gs.length:=by have:=h.gaps.len; rw [flat_len' gC 2 gC_len] at this; omega
theorem Ov.Is.mono {F F':Nat→Option Obj} {o:Ov} {bs:List UInt8} {gs:List (Nat × Nat)} (h:o.Is F bs gs) (hw:∀ w,In F' [] w→In F [] w):o.Is F' bs gs:=⟨h.bytes.mono hw,h.gaps.mono hw,h.wait,h.stream,h.by_,h.rwnd,h.gs16⟩
theorem gC_one (gs:List (Nat × Nat)):∀ u ∈ gs.flatMap gC,u.oneCell'=true:=by
 intro u hu
 obtain ⟨g,_,hg⟩:=List.mem_flatMap.1 hu
 simp [gC] at hg
 rcases hg with rfl | rfl <;> rfl
def toldV (e a b:Int) (lv:Value) (fc:Int) (fs:Value) (is_:Bool) (kv:Value):List Value:=[.int .i64 e,.int .i64 a,.int .i64 b,lv,.int .u32 fc,fs,.bool is_,kv]
def nilS:Value:=.slice none 0 0
end Go.Proofs.YtlfpemmdehmbfaaGreat
