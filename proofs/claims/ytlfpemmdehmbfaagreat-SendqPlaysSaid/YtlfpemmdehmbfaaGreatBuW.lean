/- Some texts as one. The document's sender: Sack: walked. Conditions: it is well formed; the gaps can be read. A sender: messages whose life is over are struck out, and abandoned, walked. Conditions: it is well formed. -/
import Derived.Test.YtlfpemmdehmbfaaGreatBuD
import Derived.Test.YtlfpemmdehmbfaaGreatBuV
import Derived.Test.YtlfpemmdehmbfaaGreatBuT
import Derived.Test.YtlfpemmdehmbfaaGreatBuQ
import Derived.Test.YtlfpemmdehmbfaaGreatBuH
namespace Go.Proofs.YtlfpemmdehmbfaaGreat
open Go Go.Sl Go.Pth
def DSackQ (n:Nat) (s:DsM) (o:Option Snd.S) (v:Value) (H:HL):Prop:=match o with
 | none=>v=.int .i64 1∧H=s.H
 | some S'=>v=.int .i64 0∧∃ s':DsM,s'.ok n∧H=s'.H∧s'.R=s.R∧s'.S=S'
structure GDf where
 i:Nat
 fa:Option Addr
 fn:Nat
 fc:Nat
 nb:HL
structure GDq where
 b:Nat
 f:FR
 A:Flt.Tld
 E:Int
structure GDh where
 i:Nat
 s:DsM
set_option maxHeartbeats 16000000 in
theorem dsack_tr (F:Nat→Option Obj) {n:Nat} (s:DsM) (hs:s.ok n) (hn:n≤1000000) (y rwnd:Int) (hy:0≤y∧y < 4294967296) (hrw:0≤rwnd) (hmk:Snd.MarkOk s.S) (gs:List (Nat × Nat)) (ga:Option Addr) (gn gc:Nat) (hl:Lst F [] 2 (gs.flatMap gC) ga gn gc) (hg:∀ g ∈ gs,g.1 < 65536∧g.2 < 65536) (hgl:gs.length≤1000) (ra:Option Addr) (rn rc:Nat) (now:Int) :
 Tr Tryz.prog 38 [ptr s.R,.agg [.int .u32 y,.int .u32 rwnd,.slice ga gn gc,.slice ra rn rc].toArray,.int .i64 now].toArray F s.H (fun v H=>DSackQ n s (Snd.sack s.S y rwnd gs now) v H):=by
 refine Tr.enter Tryz.func38 rfl Tryz.ntmps38 rfl (fun w0=>?_)
 obtain ⟨c0,c1,c2,c3,c4,c5,c6,c7,c8,c9,c10,c11,c12,c13,c14⟩:=s.cans (F:=F)
 have hwn:=hs.pn
 have hnws:=hs.nws
 have hSlen:s.S.ws.length=s.ws.length:=by simp [DsM.S]
 refine SPX ?_; repeat' (first|refine ⟨fun hc=>?_,fun hc=>?_⟩|intro)
 rename_i b4
 refine W.loop (G:=GDf) (fun g=>[(0,ptr s.R),(2,.int .i64 now),(4,ptr b4),(7,.slice g.fa g.fn g.fc),(8,.int .i64 g.i)])
  (fun g=>g.nb++((b4,.cells [.int .u32 y,.int .u32 rwnd,.slice ga gn gc,.slice ra rn rc].toArray 75 (0,0))::s.H)) (fun g=>g.i≤s.pn∧OwnS 4 1 (((List.range g.i).map (fun k=>!Snd.mayW s.S k)).map Value.bool) (.slice g.fa g.fn g.fc) g.nb) (fun g=>s.pn - g.i)
  ⟨0,none,0,0,[]⟩ ⟨Nat.zero_le _,.inl ⟨rfl,rfl,rfl⟩⟩ envA (fun _ h=>h) ?_
 rintro ⟨i,fa,fn,fc,nb⟩ ⟨hi,hown⟩
 dsimp only at hi hown ⊢
 have hfn:fn=i:=by have:=OwnS.len hown; simp at this; omega
 refine SPY ?_; repeat' (first|refine ⟨fun hc=>?_,fun hc=>?_⟩|intro)
 · have hi':i < s.pn:=by have:=of_decide_eq_true hc; omega
   refine WL.e rfl (Ef.callR (c:=s.H) (by exact rfl) (.skipL nb (.skip _ (.all _))) (dmay_tr _ s hs i (by omega))) ?_
   rintro _ _ ⟨rfl,rfl⟩
   refine SPX ?_; repeat' (first|refine ⟨fun hc=>?_,fun hc=>?_⟩|intro)
   refine WL.e rfl (Ef.app (m:=1) (news:=[.bool (!Snd.mayW s.S i)]) (hb:=nb) (by exact rfl) (by exact rfl) rfl rfl hown (.last (.there .here)) (Src.own (n:=1) (.here rfl)) rfl (fun u hu=>by rw [List.mem_singleton.1 hu]; rfl) (by simp; omega) (by simp [maxLen]; omega)) ?_
   rintro v' _ ⟨nb',hown',rfl⟩
   obtain ⟨ja,jn,jc,rfl,_,_⟩:=OwnS.shape hown'
   refine SPX ?_; repeat' (first|refine ⟨fun hc=>?_,fun hc=>?_⟩|intro)
   rw [i64_succ (by omega)]
   refine Fin.round ⟨i+1,ja,jn,jc,nb'⟩ ⟨hi',by dsimp only; rw [List.range_succ,List.map_append,List.map_append]; exact hown'⟩ envA (fun _ h=>In.of_sub (.pickL (L:=nb') .here (.last (.there .all))) h) (by dsimp only; omega)
 have hi':i=s.pn:=by have:=of_decide_eq_false hc; omega
 subst hi'
 obtain ⟨rr,hrr⟩:∃ rr,s.R=rr:=⟨_,rfl⟩
 refine W.cut (G:=GDq) (fun g=>[(0,ptr s.R),(2,.int .i64 now),(4,ptr b4),(7,.slice fa fn fc),(9,ptr g.b),(10,.int .i64 g.E)])
  (fun g=>(g.b,.cells (tldC g.A).toArray 186 (0,0))::(nb++((b4,.cells [.int .u32 y,.int .u32 rwnd,.slice ga gn gc,.slice ra rn rc].toArray 75 (0,0))::({ s with f:=g.f }:DsM).H)))
  (fun g=>(Flt.sack s.f.S y gs=none∧g.E=1∧g.f=s.f)∨(Flt.sack s.f.S y gs=some (g.f.S,g.A)∧g.E=0∧g.f.ok∧g.f.R=s.f.R)) (fun K' hK _=>?_) ?_
 · have hrs:Flt.rsack s.f.S y gs=Flt.sack s.f.S y gs:=Flt.rsack_eq hs.pl.f.g.c hy gs
   have hsub:∀ w,In F (nb++((b4,.cells [.int .u32 y,.int .u32 rwnd,.slice ga gn gc,.slice ra rn rc].toArray 75 (0,0))::s.H)) w→In F [(b4,.cells [.int .u32 y,.int .u32 rwnd,.slice ga gn gc,.slice ra rn rc].toArray 75 (0,0)),s.hd] w:=fun _ h=>h.sublist (List.Sublist.trans (.cons_cons _ s.hdSub) (List.sublist_append_right _ _))
   refine W.drawG 9 [(b4,.cells [.int .u32 y,.int .u32 rwnd,.slice ga gn gc,.slice ra rn rc].toArray 75 (0,0)),s.hd] hsub ?_
   have c1:Sl.Can F [(b4,.cells [.int .u32 y,.int .u32 rwnd,.slice ga gn gc,.slice ra rn rc].toArray 75 (0,0)),s.hd] s.R (0+1) [ptr s.f.R]:=(s.hdCan.one (i:=1) rfl).mono (fun _ h=>h.sublist (.cons _ (.refl _)))
   have hk1:∀ (q:HL) w,In F (q++(nb++((b4,.cells [.int .u32 y,.int .u32 rwnd,.slice ga gn gc,.slice ra rn rc].toArray 75 (0,0))::s.flR))) w→In F [(b4,.cells [.int .u32 y,.int .u32 rwnd,.slice ga gn gc,.slice ra rn rc].toArray 75 (0,0)),s.hd] w:=fun _ _ h=>In.of_sub (.pick (.right (.right .here)) (.last (L:=[_]) (.right (.right .here)))) h
   clear c0 c2 c3 c4 c5 c6 c7 c8 c9 c10 c11 c12 c13 c14
   repeat' (first
    | refine WF.pA ?_ | refine WF.sA ?_)
   refine WF.e rfl (Ef.callF (c:=s.f.H) (by exact rfl) (.skipL nb (.skip _ s.flP.sub)) (fun hd=>rsack_tr _ s.f hs.f hs.small hs.pathOk y rwnd hy gs ga gn gc (hl.mono (fun _ h=>addF_in hd h)) hg hgl ra rn rc)) ?_ ?_
   · rintro _ _ ⟨_,hSR,rfl⟩
     rw [hrs] at hSR
     unfold RsR at hSR
     cases hso:Flt.sack s.f.S y gs with
     | none=>
       rw [hso] at hSR
       obtain ⟨rfl,rfl⟩:=hSR
       refine ⟨.inr (fun _ h=>hk1 _ _ h),?_⟩
       dsimp only [tup]
       repeat' (first
        | refine WF.pA ?_ | refine WF.sA ?_)
       refine WF.nil ?_
       refine WD.aA (fun b9=>?_) (hk:=fun _=>.inr (fun _ h=>hk1 _ _ (h.sublist (.cons _ (.refl _)))))
       refine WD.e0A ?_ (hk:=.inl (by kernel_rfl))
       refine SPZ ?_; repeat' (first|refine ⟨fun hc=>?_,fun hc=>?_⟩|intro)
       exact Fin.cut hK ⟨b9,s.f,Flt.Tld.zero,1⟩ (.inl ⟨hso,rfl,rfl⟩) envA (fun _ h=>In.frontN nb (s.flE (f':=s.f) rfl) h)
     | some q=>
       obtain ⟨f',A⟩:=q
       rw [hso] at hSR
       obtain ⟨rfl,f1,hf1,rfl,hR1,rfl⟩:=hSR
       refine ⟨.inr (fun _ h=>hk1 _ _ h),?_⟩
       dsimp only [tup]
       repeat' (first
        | refine WF.pA ?_ | refine WF.sA ?_)
       refine WF.nil ?_
       refine WD.aA (fun b9=>?_) (hk:=fun _=>.inr (fun _ h=>hk1 _ _ (h.sublist (.cons _ (.refl _)))))
       refine WD.e0A ?_ (hk:=.inl (by kernel_rfl))
       refine SPZ ?_; repeat' (first|refine ⟨fun hc=>?_,fun hc=>?_⟩|intro)
       exact Fin.cut hK ⟨b9,f1,A,0⟩ (.inr ⟨hso,rfl,hf1,hR1⟩) envA (fun _ h=>In.frontN nb (s.flE hR1) h)
   · refine WD.aA (fun b9=>?_) (hk:=fun _=>.inr (fun _ h=>hsub _ (h.sublist (.cons _ (.refl _)))))
     refine WD.e rfl (Ef.callF (c:=s.f.H) (by exact rfl) (.skip _ (.skipL nb (.skip _ s.flP.sub))) (fun hd=>rsack_tr _ s.f hs.f hs.small hs.pathOk y rwnd hy gs ga gn gc (hl.mono (fun _ h=>addF_in hd h)) hg hgl ra rn rc)) ?_
     rintro _ _ ⟨_,hSR,rfl⟩
     rw [hrs] at hSR
     unfold RsR at hSR
     cases hso:Flt.sack s.f.S y gs with
     | none=>
       rw [hso] at hSR
       obtain ⟨rfl,rfl⟩:=hSR
       refine ⟨.inl (by kernel_rfl),?_⟩
       dsimp only [tup]
       refine SPZ ?_; repeat' (first|refine ⟨fun hc=>?_,fun hc=>?_⟩|intro)
       refine WD.e0 (Ef.sta rfl rfl rfl rfl (.right (.here rfl))) ?_
       rintro _ _ ⟨rfl,rfl⟩
       refine ⟨.inl (by kernel_rfl),?_⟩
       refine SPZ ?_; repeat' (first|refine ⟨fun hc=>?_,fun hc=>?_⟩|intro)
       exact Fin.cut hK ⟨b9,s.f,Flt.Tld.zero,1⟩ (.inl ⟨hso,rfl,rfl⟩) envA (fun _ h=>In.frontM nb (s.flE (f':=s.f) rfl) h)
     | some q=>
       obtain ⟨f',A⟩:=q
       rw [hso] at hSR
       obtain ⟨rfl,f1,hf1,rfl,hR1,rfl⟩:=hSR
       refine ⟨.inl (by kernel_rfl),?_⟩
       dsimp only [tup]
       refine SPZ ?_; repeat' (first|refine ⟨fun hc=>?_,fun hc=>?_⟩|intro)
       refine WD.e0 (Ef.sta rfl rfl rfl rfl (.right (.here rfl))) ?_
       rintro _ _ ⟨rfl,rfl⟩
       refine ⟨.inl (by kernel_rfl),?_⟩
       refine SPZ ?_; repeat' (first|refine ⟨fun hc=>?_,fun hc=>?_⟩|intro)
       exact Fin.cut hK ⟨b9,f1,A,0⟩ (.inr ⟨hso,rfl,hf1,hR1⟩) envA (fun _ h=>In.frontM nb (s.flE hR1) h)
 clear c0 c1 c2 c3 c4 c5 c6 c7 c8 c9 c10 c11 c12 c13 c14
 rintro ⟨b9,f1,A,E⟩ (⟨hso,hE,hff⟩ | ⟨hso,hE,hf1,hR1⟩)
 · dsimp only at hE hff ⊢
   subst hE hff
   refine Fin.next ?_
   refine SPY ?_; repeat' (first|refine ⟨fun hc=>?_,fun hc=>?_⟩|intro)
   refine Fin.retW (by exact rfl) resA (H':=s.H) (fun _ h=>h.sublist (.cons _ (List.Sublist.trans (.cons _ (.refl _)) (List.sublist_append_right _ _)))) ?_
   unfold Snd.sack
   rw [show s.S.f=s.f.S from rfl,hso]
   exact ⟨rfl,rfl⟩
 dsimp only at hso hE hf1 hR1 ⊢
 subst hE
 obtain ⟨hFO,hat,hnn,hpaths,hcum⟩:=hs.pl.f.sack hy (show Flt.sack s.S.f y gs=some (f1.S,A) from hso)
 have hpl1:Snd.Ok n { s.S with f:=f1.S }:={ hs.pl with f:=hFO,paths:=by dsimp only; rw [hpaths]; exact hs.pl.paths }
 have hs1:=hs.setF hf1 hpl1
 have hmk1:=Snd.mark_sack hs.pl hmk hy (show Flt.sack s.S.f y gs=some (f1.S,A) from hso)
 obtain ⟨s1,hs1e⟩:∃ s1,({ s with f:=f1 }:DsM)=s1:=⟨_,rfl⟩
 have hS1:s1.S={ s.S with f:=f1.S }:=by rw [←hs1e]; rfl
 have hR1':s1.R=rr:=by rw [←hs1e]; exact hrr
 have hwn1:s1.pn=s.pn:=by rw [←hs1e]
 have hf1e:s1.f=f1:=by rw [←hs1e]
 rw [hs1e] at hs1 ⊢
 rw [hrr]
 have hsack:Snd.sack s.S y rwnd gs now=some { (Snd.lay { Snd.restAll { s1.S with ws:=Snd.hearAll s1.S A (fun k=>!Snd.mayW s.S k) (Snd.clock now) } with q:=Oq.free (Snd.restAll { s1.S with ws:=Snd.hearAll s1.S A (fun k=>!Snd.mayW s.S k) (Snd.clock now) }).q A.freed } now) with room:=Snd.roomOf (Snd.lay { Snd.restAll { s1.S with ws:=Snd.hearAll s1.S A (fun k=>!Snd.mayW s.S k) (Snd.clock now) } with q:=Oq.free (Snd.restAll { s1.S with ws:=Snd.hearAll s1.S A (fun k=>!Snd.mayW s.S k) (Snd.clock now) }).q A.freed } now) rwnd A.whole }:=by
  unfold Snd.sack
  rw [show s.S.f=s.f.S from rfl,hso,hS1]
 rw [hsack]
 clear hsack
 obtain ⟨full,hfull⟩:∃ full:Nat→Bool,(fun k=>!Snd.mayW s.S k)=full:=⟨_,rfl⟩
 rw [hfull] at hown ⊢
 have hset:∀ j,j < s.pn→((List.range s.pn).map full)[j]? = some (full j):=fun j hj=>by rw [List.getElem?_map,List.getElem?_range hj]; rfl
 obtain ⟨gw,hgw⟩:∃ gw,(fun k w=>Snd.hear (Snd.ptOf A k) (full k) (Snd.clock now) s1.S.f.c s1.S.f.L.length w)=gw:=⟨_,rfl⟩
 have hlen1:s1.S.ws.length=s.pn:=by rw [hS1]; show s.S.ws.length=s.pn; omega
 obtain ⟨pb,po,hpa1,_⟩:=hs1.prow
 obtain ⟨tb,to_,hta1,_⟩:=hs1.trow
 obtain ⟨sb,so,hsa1,_⟩:=hs1.srow
 obtain ⟨mb,mo,hma1,_⟩:=hs1.mrow
 have htn1:=hs1.tn
 have hsn1:=hs1.sn
 have hmn1:=hs1.mn
 have hwl1:s1.ws.length=s.pn:=by have:=hs1.pn; omega
 refine Fin.next ?_
 refine SPY ?_; repeat' (first|refine ⟨fun hc=>?_,fun hc=>?_⟩|intro)
 refine W.loop (G:=GDh) (fun g=>[(0,ptr rr),(2,.int .i64 now),(4,ptr b4),(7,.slice fa fn fc),(9,ptr b9),(11,.int .i64 g.i)])
  (fun g=>(b9,.cells (tldC A).toArray 186 (0,0))::((b4,.cells [.int .u32 y,.int .u32 rwnd,.slice ga gn gc,.slice ra rn rc].toArray 75 (0,0))::(nb++g.s.H))) (fun g=>g.i≤s.pn∧g.s.ok n∧g.s.R=rr∧g.s.cells=s1.cells∧g.s.f=s1.f∧g.s.S={ s1.S with ws:=Snd.pmap gw s1.S.ws g.i }) (fun g=>s.pn - g.i) ⟨0,s1⟩ ⟨Nat.zero_le _,hs1,hR1',rfl,rfl,by dsimp only; rw [Snd.pmap_zero]⟩ envA (fun _ h=>In.of_sub (.pick .here (.pick (.right .here) (.pickL (L:=nb) .here (.last .all)))) h) ?_
 rintro ⟨i,t⟩ ⟨hi2,ht,hRt,hct,hft,htS⟩
 dsimp only at hi2 ht hRt hct hft htS ⊢
 obtain ⟨⟨e1,e2⟩,⟨e3,e4⟩,⟨e5,e6⟩,⟨e7,e8⟩,e9,e10⟩:=DsM.slc hct
 have htl:t.ws.length=s.pn:=by have:=ht.pn; omega
 obtain ⟨c0,c1,c2,c3,c4,c5⟩:=DsM.cansL (F:=F) (hRt.trans hR1'.symm) hct
 rw [hR1'] at c0 c1 c2 c3 c4 c5
 rw [hwn1] at c2
 refine SPQ ?_; repeat' (first|refine ⟨fun hc=>?_,fun hc=>?_⟩|intro)
 cases hc:decide ((i:Int) < s.pn) with
 | false=>
   have hi':i=s1.S.ws.length:=by have:=of_decide_eq_false hc; omega
   subst hi'
   refine SPQ ?_; repeat' (first|refine ⟨fun hc=>?_,fun hc=>?_⟩|intro)
   have htS2:t.S={ s1.S with ws:=Snd.hearAll s1.S A full (Snd.clock now) }:=by rw [htS,Snd.pmap_all,←hgw]; rfl
   rw [←htS2]
   clear c0 c1 c2 c3 c4 c5
   subst hRt
   refine WL.e rfl (Ef.call (c:=t.H) (by exact rfl) (.skip _ (.skip _ (.skipL nb (.all _)))) (drest_tr _ t ht)) ?_
   rintro _ _ ⟨_,⟨rfl,s3,hs3,rfl,hR3,hS3⟩,rfl⟩
   refine WL.weak (H':=(b9,.cells (tldC A).toArray 186 (0,0))::(b4,.cells [.int .u32 y,.int .u32 rwnd,.slice ga gn gc,.slice ra rn rc].toArray 75 (0,0))::s3.H) (fun _ h=>In.of_sub (.pick (.right .here) (.pick (.right .here) (.last .here))) h) ?_
   rw [←hR3,←hS3]
   obtain ⟨c0,c1,c2,c3,c4,c5,c6,c7,c8,c9,c10,c11,c12,c13,c14⟩:=s3.cans (F:=F)
   unfold tldC
   refine SPY ?_; repeat' (first|refine ⟨fun hc=>?_,fun hc=>?_⟩|intro)
   refine W.drawA ?_
   refine SPY ?_; repeat' (first|refine ⟨fun hc=>?_,fun hc=>?_⟩|intro)
   refine WD.e rfl (Ef.call (c:=s3.q.H) (by exact rfl) (.skip _ (.skip _ s3.oqP.sub)) (dofree_tr _ s3.q hs3.q A.freed (by have:=Snd.sack_freed hs.pl.f (show Flt.sack s.S.f y gs=some (f1.S,A) from hso); omega))) ?_
   rintro _ _ ⟨_,⟨rfl,o',ho',rfl,hRo,hSo,_⟩,rfl⟩
   refine ⟨.inl (by kernel_rfl),?_⟩
   refine WD.weak (fun _ h=>In.front2 (s3.oqE hRo) h) ?_
   obtain ⟨s4,hs4e⟩:∃ s4,({ s3 with q:=o' }:DsM)=s4:=⟨_,rfl⟩
   have hS4:s4.S={ s3.S with q:=Oq.free s3.S.q A.freed }:=by rw [←hs4e]; show ({ s3.S with q:=o'.S }:Snd.S)=_; rw [hSo]; rfl
   have hs4:s4.ok n:=by
    rw [←hs4e]
    refine hs3.setO ho' ?_
    rw [hSo]
    exact Snd.free_ok hs3.pl A.freed
   have hR4:s4.R=s3.R:=by rw [←hs4e]
   rw [hs4e,←hR4,←hS4]
   clear c0 c1 c2 c3 c4 c5 c6 c7 c8 c9 c10 c11 c12 c13 c14
   refine SPY ?_; repeat' (first|refine ⟨fun hc=>?_,fun hc=>?_⟩|intro)
   refine WL.e rfl (Ef.call (c:=s4.H) (by exact rfl) (.skip _ (.skip _ (.all _))) (dlay_tr _ s4 hs4 hn now)) ?_
   rintro _ _ ⟨_,⟨rfl,s5,hs5,rfl,hR5,hS5⟩,rfl⟩
   refine WL.weak (H':=(b9,_)::(b4,_)::s5.H) (fun _ h=>In.of_sub (.pick (.right .here) (.pick (.right .here) (.last .here))) h) ?_
   rw [←hR5,←hS5]
   obtain ⟨c0,c1,c2,c3,c4,c5,c6,c7,c8,c9,c10,c11,c12,c13,c14⟩:=s5.cans (F:=F)
   refine SPY ?_; repeat' (first|refine ⟨fun hc=>?_,fun hc=>?_⟩|intro)
   refine W.drawA ?_
   refine SPY ?_; repeat' (first|refine ⟨fun hc=>?_,fun hc=>?_⟩|intro)
   refine WD.e rfl (Ef.callR (c:=s5.f.H) (by exact rfl) (.skip _ (.skip _ s5.flP.sub)) (ropen_tr _ s5.f hs5.f hs5.small)) ?_
   rintro _ _ ⟨rfl,rfl⟩
   refine ⟨.inr (fun _ h=>h),?_⟩
   have hRend:s5.R=s.R:=by rw [hR5,hR4,hR3,hrr]
   have hob:Flt.openB s5.f.S≤3072000:=hs5.pl.f.small _
   refine SPY ?_; repeat' (first|refine ⟨fun hc=>?_,fun hc=>?_⟩|intro)
   · have hwh:A.whole=false:=by simpa using hc
     simp only [Go.Pth.go_mn,Go.Pth.go_mx]
     rw [i64_id (n:=min rwnd 1048576) (by omega) (by omega),i64_id (n:=min rwnd 1048576 - (Flt.openB s5.f.S:Int)) (by omega) (by omega)]
     have hrm:min (max 0 (min rwnd 1048576 - (Flt.openB s5.f.S:Int))) s5.room=Snd.roomOf s5.S rwnd A.whole:=by unfold Snd.roomOf; rw [hwh]; rfl
     rw [hrm]
     refine SPY ?_; repeat' (first|refine ⟨fun hc=>?_,fun hc=>?_⟩|intro)
     refine WL.e0 (Ef.st rfl rfl rfl (.there (.there (DsM.put (s':={ s5 with room:=Snd.roomOf s5.S rwnd A.whole }) rfl rfl (off:=0+6) (vs:=[.int .i64 (Snd.roomOf s5.S rwnd A.whole)]) rfl)))) ?_
     rintro _ _ ⟨rfl,rfl⟩
     refine SPY ?_; repeat' (first|refine ⟨fun hc=>?_,fun hc=>?_⟩|intro)
     have hpl6:Snd.Ok n { s5.S with room:=Snd.roomOf s5.S rwnd A.whole }:={ hs5.pl with room:=Snd.roomOf_rng hs5.pl.room rwnd A.whole }
     exact Fin.retW (by exact rfl) resA (H':=({ s5 with room:=Snd.roomOf s5.S rwnd A.whole }:DsM).H) (fun _ h=>h.sublist (.cons _ (.cons _ (.refl _)))) ⟨rfl,{ s5 with room:=Snd.roomOf s5.S rwnd A.whole },⟨hs5.q,hs5.f,hs5.ways,hs5.tims,hs5.sets,hs5.marks,hs5.lives,hs5.owed,hs5.own,hpl6⟩,rfl,hRend,rfl⟩
   · have hwh:A.whole=true:=by simpa using hc
     simp only [Go.Pth.go_mn,Go.Pth.go_mx]
     rw [i64_id (n:=min rwnd 1048576) (by omega) (by omega),i64_id (n:=min rwnd 1048576 - (Flt.openB s5.f.S:Int)) (by omega) (by omega)]
     have hrm:max 0 (min rwnd 1048576 - (Flt.openB s5.f.S:Int))=Snd.roomOf s5.S rwnd A.whole:=by unfold Snd.roomOf; rw [hwh]; rfl
     rw [hrm]
     refine SPY ?_; repeat' (first|refine ⟨fun hc=>?_,fun hc=>?_⟩|intro)
     refine WL.e0 (Ef.st rfl rfl rfl (.there (.there (DsM.put (s':={ s5 with room:=Snd.roomOf s5.S rwnd A.whole }) rfl rfl (off:=0+6) (vs:=[.int .i64 (Snd.roomOf s5.S rwnd A.whole)]) rfl)))) ?_
     rintro _ _ ⟨rfl,rfl⟩
     refine SPY ?_; repeat' (first|refine ⟨fun hc=>?_,fun hc=>?_⟩|intro)
     have hpl6:Snd.Ok n { s5.S with room:=Snd.roomOf s5.S rwnd A.whole }:={ hs5.pl with room:=Snd.roomOf_rng hs5.pl.room rwnd A.whole }
     exact Fin.retW (by exact rfl) resA (H':=({ s5 with room:=Snd.roomOf s5.S rwnd A.whole }:DsM).H) (fun _ h=>h.sublist (.cons _ (.cons _ (.refl _)))) ⟨rfl,{ s5 with room:=Snd.roomOf s5.S rwnd A.whole },⟨hs5.q,hs5.f,hs5.ways,hs5.tims,hs5.sets,hs5.marks,hs5.lives,hs5.owed,hs5.own,hpl6⟩,rfl,hRend,rfl⟩
 | true=>
 have hi':i < s.pn:=by have:=of_decide_eq_true hc; omega
 obtain ⟨m,hm,hmS,_⟩:=DsM.wayAt ht (k:=i) (by omega)
 have hms:s1.S.ws[i]? = some m.W:=by
  have h1:t.S.ws[i]? = some m.W:=hmS
  rw [htS] at h1
  obtain ⟨w,hw⟩:∃ w,s1.S.ws[i]? = some w:=⟨s1.S.ws[i]'(by omega),List.getElem?_eq_getElem _⟩
  have h2:=Snd.pmap_get gw hw
  dsimp only at h1
  rw [h2] at h1
  rw [hw,←h1]
 have htold:=(dtold_can F b9 A (i:=i) (by omega)).mono (F':=F) (H':=(b9,.cells (tldC A).toArray 186 (0,0))::((b4,.cells [.int .u32 y,.int .u32 rwnd,.slice ga gn gc,.slice ra rn rc].toArray 75 (0,0))::(nb++t.H))) (fun _ h=>h.sublist (.cons_cons _ (List.nil_sublist _)))
 have hxat:=Snd.ptOf_at hat i
 have hgwi:gw i m.W=Snd.hear (Snd.ptOf A i) (full i) (Snd.clock now) s1.S.f.c s1.S.f.L.length m.W:=by rw [←hgw]
 obtain ⟨x,hx⟩:∃ x,Snd.ptOf A i=x:=⟨_,rfl⟩
 rw [hx] at htold hxat hgwi
 unfold PTcells at htold
 obtain ⟨bf,of_,hfa,hfl,hcf⟩:=own_el hown (hset i hi')
 subst hfa
 have hcf:=hcf F
 have hip:0≤(i:Int)∧(i:Int) < s.pn:=by omega
 have hif:0≤(i:Int)∧(i:Int) < fn:=by omega
 have hit:0≤(i:Int)∧(i:Int) < s1.tn:=by omega
 have his:0≤(i:Int)∧(i:Int) < s1.sn:=by omega
 have him:0≤(i:Int)∧(i:Int) < s1.mn:=by omega
 refine SPQ ?_; repeat' (first|refine ⟨fun hc=>?_,fun hc=>?_⟩|intro)
 refine WL.p rfl (Pu.iaA rfl rfl (by omega)) ?_
 refine WL.s rfl (Rd.ldaC rfl rfl htold) ?_
 clear htold
 refine SPQ ?_; repeat' (first|refine ⟨fun hc=>?_,fun hc=>?_⟩|intro)
 rename_i b12
 clear c0 c1 c2 c3 c4 c5
 have hcl:=Snd.clock_rng now
 obtain ⟨hx1,hx2⟩:=hxat
 obtain ⟨w1,hw1⟩:∃ w1,Snd.hear1 x (full i) (Snd.clock now) m.W=w1:=⟨_,rfl⟩
 refine W.cut (G:=DsM) (fun _=>[(0,ptr rr),(2,.int .i64 now),(4,ptr b4),(7,.slice (some ⟨bf,of_,none⟩) fn fc),(9,ptr b9),(11,.int .i64 i),(12,ptr b12)]) (fun u=>(b12,.cells [.int .i64 x.acked,.bool x.pseudo,.bool x.fast,.int .i64 x.at_,.bool x.some_].toArray 183 (0,0))::((b9,.cells (tldC A).toArray 186 (0,0))::((b4,.cells [.int .u32 y,.int .u32 rwnd,.slice ga gn gc,.slice ra rn rc].toArray 75 (0,0))::(nb++u.H)))) (fun u=>DWay n t i (w1) u) (fun K' hK _=>?_) ?_
 · refine W.cond rfl (fun hc=>?_) (fun hc=>?_)
   rotate_left
   · have h0:=of_decide_eq_false hc
     have e:Snd.hear1 x (full i) (Snd.clock now) m.W=m.W:=by unfold Snd.hear1; rw [if_neg h0]
     refine SPY ?_; repeat' (first|refine ⟨fun hc=>?_,fun hc=>?_⟩|intro)
     exact Fin.cut hK t (by rw [←hw1,e]; exact .refl ht hm) envA (fun _ h=>h)
   have h0:=of_decide_eq_true hc
   obtain ⟨u,hu,hut⟩:∃ u,DWay n t i m.W u∧t.H=u.H:=⟨t,.refl ht hm,rfl⟩
   rw [hut]
   obtain ⟨mu,hmu,hwu⟩:=hu.at_ (by omega)
   obtain ⟨c0,c1,c2,c3,c4,c5⟩:=DsM.cansL (F:=F) (t:=u) (s:=s1) ((hu.R.trans hRt).trans hR1'.symm) (hu.cells.trans hct)
   rw [hR1'] at c0 c1 c2 c3 c4 c5
   rw [hpa1,hwn1] at c2
   rw [hta1] at c3
   rw [hsa1] at c4
   rw [hma1] at c5
   obtain ⟨p0,p1,p2⟩:=hu.rows hmu (e1.trans hpa1) (e5.trans hsa1) (e7.trans hma1) F
   have hpsu:=congrArg Snd.Way.p hwu
   have hpou:=(hu.ok.way hmu).p
   refine SPY ?_; repeat' (first|refine ⟨fun hc=>?_,fun hc=>?_⟩|intro)
   refine WL.e rfl (Ef.call (c:=mu.p.H) (by exact rfl) (.skip _ (.skip _ (.skip _ (.skipL nb (DsM.paP hmu).sub)))) (danswered_tr _ mu.p)) ?_
   rintro _ _ ⟨_,⟨rfl,rfl⟩,rfl⟩
   refine WL.weak (fun _ h=>In.front ((b12,.cells [.int .i64 x.acked,.bool x.pseudo,.bool x.fast,.int .i64 x.at_,.bool x.some_].toArray 183 (0,0))::((b9,.cells (tldC A).toArray 186 (0,0))::((b4,.cells [.int .u32 y,.int .u32 rwnd,.slice ga gn gc,.slice ra rn rc].toArray 75 (0,0))::nb))) (DsM.paE (m':={ mu with p:=mu.p.with (answered mu.p.s) }) hmu) h) ?_
   have hv:=hu.path hmu hwu (answered mu.p.s) (answered_ok hpou)
   generalize hve:u.setW i { mu with p:=mu.p.with (answered mu.p.s) }=v at hv ⊢
   rw [show mu.p.s=m.W.p from hpsu] at hv
   clear c0 c1 c2 c3 c4 c5 p0 p1 p2
   obtain ⟨mv,hmv,hwv⟩:=hv.at_ (by omega)
   obtain ⟨c0,c1,c2,c3,c4,c5⟩:=DsM.cansL (F:=F) (t:=v) (s:=s1) ((hv.R.trans hRt).trans hR1'.symm) (hv.cells.trans hct)
   rw [hR1'] at c0 c1 c2 c3 c4 c5
   rw [hpa1,hwn1] at c2
   rw [hta1] at c3
   rw [hsa1] at c4
   rw [hma1] at c5
   obtain ⟨p0,p1,p2⟩:=hv.rows hmv (e1.trans hpa1) (e5.trans hsa1) (e7.trans hma1) F
   have hpsv:=congrArg Snd.Way.p hwv
   have hpov:=(hv.ok.way hmv).p
   refine SPQ ?_; repeat' (first|refine ⟨fun hc=>?_,fun hc=>?_⟩|intro)
   obtain ⟨w2,hw2⟩:∃ w2,({ m.W with p:=if x.some_ then sampled (answered m.W.p) (mx 0 (Snd.clock now - x.at_)) else answered m.W.p }:Snd.Way)=w2:=⟨_,rfl⟩
   refine W.cut (G:=DsM) (fun _=>[(0,ptr rr),(2,.int .i64 now),(4,ptr b4),(7,.slice (some ⟨bf,of_,none⟩) fn fc),(9,ptr b9),(11,.int .i64 i),(12,ptr b12)]) (fun u=>(b12,.cells [.int .i64 x.acked,.bool x.pseudo,.bool x.fast,.int .i64 x.at_,.bool x.some_].toArray 183 (0,0))::((b9,.cells (tldC A).toArray 186 (0,0))::((b4,.cells [.int .u32 y,.int .u32 rwnd,.slice ga gn gc,.slice ra rn rc].toArray 75 (0,0))::(nb++u.H)))) (fun u=>DWay n t i (w2) u) (fun K'' hK2 _=>?_) ?_
   · refine W.cond rfl (fun hc=>?_) (fun hc=>?_)
     · have hso:x.some_=true:=hc
       refine W.drawA ?_
       refine SPY ?_; repeat' (first|refine ⟨fun hc=>?_,fun hc=>?_⟩|intro)
       refine WD.e rfl (Ef.callR (by exact rfl) (.nil _) (dclock_tr _ now)) ?_
       rintro _ _ ⟨rfl,rfl⟩
       refine ⟨.inr (fun _ h=>h),?_⟩
       refine SPY ?_; repeat' (first|refine ⟨fun hc=>?_,fun hc=>?_⟩|intro)
       rw [i64_id (n:=Snd.clock now - x.at_) (by omega) (by omega)]
       simp only [Go.Pth.go_mx]
       refine WD.e rfl (Ef.call (c:=mv.p.H) (by exact rfl) (.skip _ (.skip _ (.skip _ (.skipL nb (DsM.paP hmv).sub)))) (dsample_tr _ mv.p hpov (max 0 (Snd.clock now - x.at_)) (by omega))) ?_
       rintro _ _ ⟨_,⟨rfl,rfl⟩,rfl⟩
       refine ⟨.inl (by kernel_rfl),?_⟩
       refine WD.weak (fun _ h=>In.front ((b12,.cells [.int .i64 x.acked,.bool x.pseudo,.bool x.fast,.int .i64 x.at_,.bool x.some_].toArray 183 (0,0))::((b9,.cells (tldC A).toArray 186 (0,0))::((b4,.cells [.int .u32 y,.int .u32 rwnd,.slice ga gn gc,.slice ra rn rc].toArray 75 (0,0))::nb))) (DsM.paE (m':={ mv with p:=mv.p.with (sampled mv.p.s (max 0 (Snd.clock now - x.at_))) }) hmv) h) ?_
       have hw:=hv.path hmv hwv (sampled mv.p.s (max 0 (Snd.clock now - x.at_))) (sampled_ok hpov (by omega))
       generalize hwe:v.setW i { mv with p:=mv.p.with (sampled mv.p.s (max 0 (Snd.clock now - x.at_))) }=w at hw ⊢
       refine SPY ?_; repeat' (first|refine ⟨fun hc=>?_,fun hc=>?_⟩|intro)
       rw [show mv.p.s=answered m.W.p from hpsv] at hw
       exact Fin.cut hK2 w (by rw [←hw2,hso,if_pos rfl]; exact hw) envA (fun _ h=>h)
     · have hso:x.some_=false:=hc
       refine SPY ?_; repeat' (first|refine ⟨fun hc=>?_,fun hc=>?_⟩|intro)
       exact Fin.cut hK2 v (by rw [←hw2,hso,if_neg (by decide)]; exact hv) envA (fun _ h=>h)
   clear c0 c1 c2 c3 c4 c5 p0 p1 p2
   rintro k hk
   refine Fin.next ?_
   obtain ⟨mk,hmk,hwk⟩:=hk.at_ (by omega)
   obtain ⟨c0,c1,c2,c3,c4,c5⟩:=DsM.cansL (F:=F) (t:=k) (s:=s1) ((hk.R.trans hRt).trans hR1'.symm) (hk.cells.trans hct)
   rw [hR1'] at c0 c1 c2 c3 c4 c5
   rw [hpa1,hwn1] at c2
   rw [hta1] at c3
   rw [hsa1] at c4
   rw [hma1] at c5
   obtain ⟨p0,p1,p2⟩:=hk.rows hmk (e1.trans hpa1) (e5.trans hsa1) (e7.trans hma1) F
   have hpsk:=congrArg Snd.Way.p hwk
   have hpok:=(hk.ok.way hmk).p
   have hh1:Snd.hear1 x (full i) (Snd.clock now) m.W=if x.pseudo then { w2 with p:=acked w2.p x.acked (full i),timer:=Snd.clock now+(acked w2.p x.acked (full i)).r.value } else w2:=by
    unfold Snd.hear1
    rw [if_pos h0,←hw2]
   rw [hw1] at hh1
   refine SPY ?_; repeat' (first|refine ⟨fun hc=>?_,fun hc=>?_⟩|intro)
   · have hpd:x.pseudo=true:=hc
     rw [hpd,if_pos rfl] at hh1
     refine W.drawA ?_
     refine SPY ?_; repeat' (first|refine ⟨fun hc=>?_,fun hc=>?_⟩|intro)
     refine WD.e rfl (Ef.call (c:=mk.p.H) (by exact rfl) (.skip _ (.skip _ (.skip _ (.skipL nb (DsM.paP hmk).sub)))) (dacked_tr _ mk.p hpok x.acked (full i))) ?_
     rintro _ _ ⟨_,⟨rfl,rfl⟩,rfl⟩
     refine ⟨.inl (by kernel_rfl),?_⟩
     refine WD.weak (fun _ h=>In.front ((b12,.cells [.int .i64 x.acked,.bool x.pseudo,.bool x.fast,.int .i64 x.at_,.bool x.some_].toArray 183 (0,0))::((b9,.cells (tldC A).toArray 186 (0,0))::((b4,.cells [.int .u32 y,.int .u32 rwnd,.slice ga gn gc,.slice ra rn rc].toArray 75 (0,0))::nb))) (DsM.paE (m':={ mk with p:=mk.p.with (acked mk.p.s x.acked (full i)) }) hmk) h) ?_
     have hz:=hk.path hmk hwk (acked mk.p.s x.acked (full i)) (acked_ok hpok _ _)
     generalize hze:k.setW i { mk with p:=mk.p.with (acked mk.p.s x.acked (full i)) }=z at hz ⊢
     rw [show mk.p.s=w2.p from hpsk] at hz
     clear c0 c1 c2 c3 c4 c5 p0 p1 p2
     obtain ⟨mz,hmz,hwz⟩:=hz.at_ (by omega)
     obtain ⟨c0,c1,c2,c3,c4,c5⟩:=DsM.cansL (F:=F) (t:=z) (s:=s1) ((hz.R.trans hRt).trans hR1'.symm) (hz.cells.trans hct)
     rw [hR1'] at c0 c1 c2 c3 c4 c5
     rw [hpa1,hwn1] at c2
     rw [hta1] at c3
     rw [hsa1] at c4
     rw [hma1] at c5
     obtain ⟨p0,p1,p2⟩:=hz.rows hmz (e1.trans hpa1) (e5.trans hsa1) (e7.trans hma1) F
     have hpsz:=congrArg Snd.Way.p hwz
     have hpoz:=(hz.ok.way hmz).p
     refine SPY ?_; repeat' (first|refine ⟨fun hc=>?_,fun hc=>?_⟩|intro)
     refine W.drawA ?_
     refine SPY ?_; repeat' (first|refine ⟨fun hc=>?_,fun hc=>?_⟩|intro)
     refine WD.e rfl (Ef.callR (by exact rfl) (.nil _) (dclock_tr _ now)) ?_
     rintro _ _ ⟨rfl,rfl⟩
     refine ⟨.inr (fun _ h=>h),?_⟩
     refine SPY ?_; repeat' (first|refine ⟨fun hc=>?_,fun hc=>?_⟩|intro)
     refine WD.e rfl (Ef.callR (by exact rfl) (.skip _ (.skip _ (.skip _ (.skipL nb (DsM.paP hmz).sub)))) (drto_tr _ mz.p)) ?_
     rintro _ _ ⟨rfl,rfl⟩
     refine ⟨.inr (fun _ h=>h),?_⟩
     refine SPY ?_; repeat' (first|refine ⟨fun hc=>?_,fun hc=>?_⟩|intro)
     have hval:=(hz.ok.way hmz).value
     have hzv:mz.p.s.r.value=(acked w2.p x.acked (full i)).r.value:=by rw [show mz.p.s=acked w2.p x.acked (full i) from hpsz]
     rw [show mz.W.p.r.value=mz.p.s.r.value from rfl] at hval
     rw [i64_id (n:=Snd.clock now+mz.p.s.r.value) (by omega) (by omega),hzv]
     rw [hzv] at hval
     obtain ⟨q,hq,hput⟩:=hz.putT (by omega) (e3.trans hta1) (Snd.clock now+(acked w2.p x.acked (full i)).r.value) (by omega)
     refine WD.e0 (Ef.st rfl rfl rfl (.there (.there (.there (.right hput))))) ?_
     rintro _ _ ⟨rfl,rfl⟩
     refine ⟨.inl (by kernel_rfl),?_⟩
     refine SPY ?_; repeat' (first|refine ⟨fun hc=>?_,fun hc=>?_⟩|intro)
     exact Fin.cut hK q (by rw [hh1]; exact hq) envA (fun _ h=>h)
   · have hpd:x.pseudo=false:=hc
     rw [hpd,if_neg (by decide)] at hh1
     exact Fin.cut hK k (by rw [hh1]; exact hk) envA (fun _ h=>h)
 rintro u hu
 refine Fin.next ?_
 obtain ⟨mu,hmu,hwu⟩:=hu.at_ (by omega)
 obtain ⟨c0,c1,c2,c3,c4,c5⟩:=DsM.cansL (F:=F) (t:=u) (s:=s1) ((hu.R.trans hRt).trans hR1'.symm) (hu.cells.trans hct)
 rw [hR1'] at c0 c1 c2 c3 c4 c5
 rw [hpa1,hwn1] at c2
 rw [hta1] at c3
 rw [hsa1] at c4
 rw [hma1] at c5
 obtain ⟨p0,p1,p2⟩:=hu.rows hmu (e1.trans hpa1) (e5.trans hsa1) (e7.trans hma1) F
 have hpsu:=congrArg Snd.Way.p hwu
 have hpou:=(hu.ok.way hmu).p
 repeat refine W.seq ?_
 refine W.cut (G:=Unit) (fun _=>[(0,ptr rr),(2,.int .i64 now),(4,ptr b4),(7,.slice (some ⟨bf,of_,none⟩) fn fc),(9,ptr b9),(11,.int .i64 i),(12,ptr b12),(128,.bool (x.fast && !mu.set))]) (fun _=>(b12,.cells [.int .i64 x.acked,.bool x.pseudo,.bool x.fast,.int .i64 x.at_,.bool x.some_].toArray 183 (0,0))::((b9,.cells (tldC A).toArray 186 (0,0))::((b4,.cells [.int .u32 y,.int .u32 rwnd,.slice ga gn gc,.slice ra rn rc].toArray 75 (0,0))::(nb++u.H)))) (fun _=>True) (fun K' hK _=>?_) ?_
 · refine SPY ?_; repeat' (first|refine ⟨fun hc=>?_,fun hc=>?_⟩|intro)
   · exact Fin.cut hK () trivial (by rw [‹x.fast=true›,Bool.true_and]; exact envA) (fun _ h=>h)
   · exact Fin.cut hK () trivial (by rw [‹x.fast=false›,Bool.false_and]; exact envA) (fun _ h=>h)
 rintro _ _
 refine Fin.next ?_
 repeat refine W.seq ?_
 obtain ⟨w2,hw2⟩:∃ w2,Snd.hear2 x s1.S.f.c s1.S.f.L.length w1=w2:=⟨_,rfl⟩
 refine W.cut (G:=DsM) (fun _=>[(0,ptr rr),(2,.int .i64 now),(4,ptr b4),(7,.slice (some ⟨bf,of_,none⟩) fn fc),(9,ptr b9),(11,.int .i64 i),(12,ptr b12)]) (fun u=>(b12,.cells [.int .i64 x.acked,.bool x.pseudo,.bool x.fast,.int .i64 x.at_,.bool x.some_].toArray 183 (0,0))::((b9,.cells (tldC A).toArray 186 (0,0))::((b4,.cells [.int .u32 y,.int .u32 rwnd,.slice ga gn gc,.slice ra rn rc].toArray 75 (0,0))::(nb++u.H)))) (fun u=>DWay n t i (w2) u) (fun K' hK _=>?_) ?_
 · refine W.cond rfl (fun hc=>?_) (fun hc=>?_)
   rotate_left
   · have e:Snd.hear2 x s1.S.f.c s1.S.f.L.length w1=w1:=by unfold Snd.hear2; rw [←hwu,show mu.W.set=mu.set from rfl,hc,if_neg (by decide)]
     refine SPY ?_; repeat' (first|refine ⟨fun hc=>?_,fun hc=>?_⟩|intro)
     exact Fin.cut hK u (by rw [←hw2,e]; exact hu) envA (fun _ h=>h)
   have e:Snd.hear2 x s1.S.f.c s1.S.f.L.length w1={ w1 with p:=fast w1.p,set:=true,mark:=Spn.u32 (s1.S.f.c+Spn.u32 s1.S.f.L.length) }:=by unfold Snd.hear2; rw [←hwu,show mu.W.set=mu.set from rfl,hc,if_pos rfl]
   refine SPY ?_; repeat' (first|refine ⟨fun hc=>?_,fun hc=>?_⟩|intro)
   refine WL.e rfl (Ef.call (c:=mu.p.H) (by exact rfl) (.skip _ (.skip _ (.skip _ (.skipL nb (DsM.paP hmu).sub)))) (dfast_tr _ mu.p hpou)) ?_
   rintro _ _ ⟨_,⟨rfl,rfl⟩,rfl⟩
   refine WL.weak (fun _ h=>In.front ((b12,.cells [.int .i64 x.acked,.bool x.pseudo,.bool x.fast,.int .i64 x.at_,.bool x.some_].toArray 183 (0,0))::((b9,.cells (tldC A).toArray 186 (0,0))::((b4,.cells [.int .u32 y,.int .u32 rwnd,.slice ga gn gc,.slice ra rn rc].toArray 75 (0,0))::nb))) (DsM.paE (m':={ mu with p:=mu.p.with (fast mu.p.s) }) hmu) h) ?_
   have hv:=hu.path hmu hwu (fast mu.p.s) (fast_ok hpou)
   generalize hve:u.setW i { mu with p:=mu.p.with (fast mu.p.s) }=v at hv ⊢
   rw [show mu.p.s=w1.p from hpsu] at hv
   clear c0 c1 c2 c3 c4 c5 p0 p1 p2
   obtain ⟨mv,hmv,hwv⟩:=hv.at_ (by omega)
   obtain ⟨c0,c1,c2,c3,c4,c5⟩:=DsM.cansL (F:=F) (t:=v) (s:=s1) ((hv.R.trans hRt).trans hR1'.symm) (hv.cells.trans hct)
   rw [hR1'] at c0 c1 c2 c3 c4 c5
   rw [hpa1,hwn1] at c2
   rw [hta1] at c3
   rw [hsa1] at c4
   rw [hma1] at c5
   obtain ⟨p0,p1,p2⟩:=hv.rows hmv (e1.trans hpa1) (e5.trans hsa1) (e7.trans hma1) F
   have hpsv:=congrArg Snd.Way.p hwv
   have hpov:=(hv.ok.way hmv).p
   obtain ⟨q,hq,hput⟩:=hv.putS (by omega) (e5.trans hsa1) true
   refine SPZ ?_; repeat' (first|refine ⟨fun hc=>?_,fun hc=>?_⟩|intro)
   refine WL.e0 (Ef.st rfl rfl rfl (.there (.there (.there (.right hput))))) ?_
   rintro _ _ ⟨rfl,rfl⟩
   clear c0 c1 c2 c3 c4 c5 p0 p1 p2
   obtain ⟨mq,hmq,hwq⟩:=hq.at_ (by omega)
   obtain ⟨c0,c1,c2,c3,c4,c5⟩:=DsM.cansL (F:=F) (t:=q) (s:=s1) ((hq.R.trans hRt).trans hR1'.symm) (hq.cells.trans hct)
   rw [hR1'] at c0 c1 c2 c3 c4 c5
   rw [hpa1,hwn1] at c2
   rw [hta1] at c3
   rw [hsa1] at c4
   rw [hma1] at c5
   obtain ⟨p0,p1,p2⟩:=hq.rows hmq (e1.trans hpa1) (e5.trans hsa1) (e7.trans hma1) F
   have hpsq:=congrArg Snd.Way.p hwq
   have hpoq:=(hq.ok.way hmq).p
   refine SPY ?_; repeat' (first|refine ⟨fun hc=>?_,fun hc=>?_⟩|intro)
   refine W.drawA ?_
   refine SPY ?_; repeat' (first|refine ⟨fun hc=>?_,fun hc=>?_⟩|intro)
   have hqR:q.R=rr:=hq.R.trans hRt
   refine WD.e rfl (Ef.callR (c:=q.H) (by rw [←hqR]; exact rfl) (.skip _ (.skip _ (.skip _ (.skipL nb (.all _))))) (dlast_tr _ q hq.ok)) ?_
   rintro _ _ ⟨rfl,rfl⟩
   refine ⟨.inr (fun _ h=>h),?_⟩
   have hqf:q.f.S=s1.S.f:=by rw [hq.f,hft]; rfl
   rw [hqf]
   obtain ⟨z,hz,hput2⟩:=hq.putM (by omega) (e7.trans hma1) (Spn.u32 (s1.S.f.c+Spn.u32 s1.S.f.L.length)) (Flt.u32_mod _)
   refine SPZ ?_; repeat' (first|refine ⟨fun hc=>?_,fun hc=>?_⟩|intro)
   refine WD.e0 (Ef.st rfl rfl rfl (.there (.there (.there (.right hput2))))) ?_
   rintro _ _ ⟨rfl,rfl⟩
   refine ⟨.inl (by kernel_rfl),?_⟩
   refine SPY ?_; repeat' (first|refine ⟨fun hc=>?_,fun hc=>?_⟩|intro)
   exact Fin.cut hK z (by rw [←hw2,e]; exact hz) envA (fun _ h=>h)
 clear c0 c1 c2 c3 c4 c5 p0 p1 p2
 rintro k hk
 refine Fin.next ?_
 obtain ⟨mk,hmk,hwk⟩:=hk.at_ (by omega)
 obtain ⟨c0,c1,c2,c3,c4,c5⟩:=DsM.cansL (F:=F) (t:=k) (s:=s1) ((hk.R.trans hRt).trans hR1'.symm) (hk.cells.trans hct)
 rw [hR1'] at c0 c1 c2 c3 c4 c5
 rw [hpa1,hwn1] at c2
 rw [hta1] at c3
 rw [hsa1] at c4
 rw [hma1] at c5
 obtain ⟨p0,p1,p2⟩:=hk.rows hmk (e1.trans hpa1) (e5.trans hsa1) (e7.trans hma1) F
 have hpsk:=congrArg Snd.Way.p hwk
 have hpok:=(hk.ok.way hmk).p
 have hkf:k.f=s1.f:=hk.f.trans hft
 rw [←hkf] at c1
 repeat refine W.seq ?_
 refine W.cut (G:=Unit) (fun _=>[(0,ptr rr),(2,.int .i64 now),(4,ptr b4),(7,.slice (some ⟨bf,of_,none⟩) fn fc),(9,ptr b9),(11,.int .i64 i),(12,ptr b12),(187,.bool (mk.set && ((mk.mark == s1.f.c) || Rm.less32 mk.mark s1.f.c)))]) (fun _=>(b12,.cells [.int .i64 x.acked,.bool x.pseudo,.bool x.fast,.int .i64 x.at_,.bool x.some_].toArray 183 (0,0))::((b9,.cells (tldC A).toArray 186 (0,0))::((b4,.cells [.int .u32 y,.int .u32 rwnd,.slice ga gn gc,.slice ra rn rc].toArray 75 (0,0))::(nb++k.H)))) (fun _=>True) (fun K' hK _=>?_) ?_
 · refine W.drawA ?_
   cases hst:mk.set with
   | false=>
     rw [hst] at p1 hK
     refine SPY ?_; repeat' (first|refine ⟨fun hc=>?_,fun hc=>?_⟩|intro)
     exact Fin.cut hK () trivial (by rw [Bool.false_and]; exact envA) (fun _ h=>h)
   | true=>
     rw [hst,Bool.true_and] at hK
     rw [hst] at p1
     refine SPY ?_; repeat' (first|refine ⟨fun hc=>?_,fun hc=>?_⟩|intro)
     refine WD.e rfl (Ef.callR (by exact rfl) (.skip _ (.skip _ (.skip _ (.skipL nb k.flP.sub)))) (rcum_tr _ k.f)) ?_
     rintro _ _ ⟨rfl,rfl⟩
     refine ⟨.inr (fun _ h=>h),?_⟩
     rw [hkf]
     refine SPY ?_; repeat' (first|refine ⟨fun hc=>?_,fun hc=>?_⟩|intro)
     · have he:(mk.mark == s1.f.c)=true:=‹_›
       rw [he,Bool.true_or] at hK
       exact Fin.cut hK () trivial envA (fun _ h=>h)
     · have he:(mk.mark == s1.f.c)=false:=‹_›
       rw [he,Bool.false_or] at hK
       refine WD.e rfl (Ef.callR (by exact rfl) (.skip _ (.skip _ (.skip _ (.skipL nb k.flP.sub)))) (rcum_tr _ k.f)) ?_
       rintro _ _ ⟨rfl,rfl⟩
       refine ⟨.inr (fun _ h=>h),?_⟩
       rw [hkf]
       refine SPY ?_; repeat' (first|refine ⟨fun hc=>?_,fun hc=>?_⟩|intro)
       refine WD.e rfl (Ef.callR (by exact rfl) (.nil _) (rless32_tr _ mk.mark s1.f.c)) ?_
       rintro _ _ ⟨rfl,rfl⟩
       refine ⟨.inr (fun _ h=>h),?_⟩
       refine SPY ?_; repeat' (first|refine ⟨fun hc=>?_,fun hc=>?_⟩|intro)
       exact Fin.cut hK () trivial envA (fun _ h=>h)
 rintro _ _
 refine Fin.next ?_
 repeat refine W.seq ?_
 have hh3:gw i m.W=if (mk.set && ((mk.mark == s1.f.c) || Rm.less32 mk.mark s1.f.c)) then { w2 with set:=false } else w2:=by
  rw [hgwi]
  unfold Snd.hear
  rw [hw1,hw2]
  have hms2:({ m.W with }:Snd.Way) ∈ s.S.ws:=by
   have e:s1.S.ws=s.S.ws:=by rw [hS1]
   rw [←e]
   exact List.mem_of_getElem? hms
  have hnear:=Snd.near_hear2 (hmk1 m.W hms2) (n:=s1.S.f.L.length) hs1.pl.f.g.few x (full i) (Snd.clock now)
  rw [show f1.S.c=s1.S.f.c by rw [←hf1e]; rfl,hw1,hw2] at hnear
  rw [Snd.hear3_alt hs1.pl.f.g.c (by rw [←hwk]; exact (hk.ok.way hmk).mark) hnear,←hwk]
  have e2:(mk.mark == s1.f.c)=decide (mk.W.mark=s1.S.f.c):=by
   rw [Bool.eq_iff_iff,beq_iff_eq,decide_eq_true_eq]
   rfl
  rw [e2]
  rfl
 refine W.cond rfl (fun hc=>?_) (fun hc=>?_)
 · rw [hc,if_pos rfl] at hh3
   obtain ⟨z,hz,hput⟩:=hk.putS (by omega) (e5.trans hsa1) false
   refine SPZ ?_; repeat' (first|refine ⟨fun hc=>?_,fun hc=>?_⟩|intro)
   refine WL.e0 (Ef.st rfl rfl rfl (.there (.there (.there (.right hput))))) ?_
   rintro _ _ ⟨rfl,rfl⟩
   clear c0 c1 c2 c3 c4 c5 p0 p1 p2
   refine SPY ?_; repeat' (first|refine ⟨fun hc=>?_,fun hc=>?_⟩|intro)
   rw [i64_succ (by omega)]
   refine Fin.round ⟨i+1,z⟩ ⟨hi',hz.ok,hz.R.trans hRt,hz.cells.trans hct,hz.f.trans hft,?_⟩ envA (fun _ h=>h.sublist (.cons _ (.refl _))) (by dsimp only; omega)
   rw [hz.S,htS,Snd.pmap_succ _ hms,hh3]
 · rw [hc,if_neg (by decide)] at hh3
   clear c0 c1 c2 c3 c4 c5 p0 p1 p2
   refine SPY ?_; repeat' (first|refine ⟨fun hc=>?_,fun hc=>?_⟩|intro)
   rw [i64_succ (by omega)]
   refine Fin.round ⟨i+1,k⟩ ⟨hi',hk.ok,hk.R.trans hRt,hk.cells.trans hct,hk.f.trans hft,?_⟩ envA (fun _ h=>h.sublist (.cons _ (.refl _))) (by dsimp only; omega)
   rw [hk.S,htS,Snd.pmap_succ _ hms,hh3]
end Go.Proofs.YtlfpemmdehmbfaaGreat
namespace Go.Proofs.YtlfpemmdehmbfaaGreat
open Go Go.Sl Go.Pth
def capH (b3 b2:Nat) (now:Int) (s:SdM) (f:FM):HL:=(b3,.cells [.int .i64 now].toArray 2 (0,0))::(b2,.cells [ptr s.R].toArray 28 (0,0))::s.hd::f.H
def lapse1 (now:Int) (f:Flt.S) (x:Snd.Life):Flt.S:=if Snd.lifeDead (Snd.clock now) x then Flt.abandon f x.id else f
set_option maxHeartbeats 2000000 in
theorem exp1_tr (F:Nat→Option Obj) (b3 b2:Nat) (now:Int) (s:SdM) (f:FM) (hf:f.ok) (hR:f.R=s.f.R) (x:Snd.Life):Tr Tryz.prog 82 [.agg (lifeC x).toArray,ptr b3,ptr b2].toArray F (capH b3 b2 now s f) (fun v H=>v=.bool (Snd.lifeDead (Snd.clock now) x)∧∃ f':FM,f'.ok∧f'.R=f.R∧f'.S=lapse1 now f.S x∧H=capH b3 b2 now s f'):=by
 refine Tr.enter Tryz.func82 rfl Tryz.ntmps82 rfl (fun w0=>?_)
 unfold capH SdM.hd SdM.cells
 rw [←hR]
 refine SPX ?_; repeat' (first|refine ⟨fun hc=>?_,fun hc=>?_⟩|intro)
 rename_i b0
 refine WD.e rfl (Ef.callR (by exact rfl) (.nil _) (clock_tr _ now)) ?_
 rintro _ _ ⟨rfl,rfl⟩
 refine ⟨.inr (fun _ h=>h),?_⟩
 refine SPY ?_; repeat' (first|refine ⟨fun hc=>?_,fun hc=>?_⟩|intro)
 · have hd:Snd.lifeDead (Snd.clock now) x=false:=decide_eq_false (by have:=of_decide_eq_true hc; omega)
   refine Fin.retW (by exact rfl) resA (fun _ h=>h.sublist (.cons _ (List.Sublist.refl _))) ⟨by rw [hd]; rfl,f,hf,rfl,by unfold lapse1; rw [hd]; rfl,rfl⟩
 · have hd:Snd.lifeDead (Snd.clock now) x=true:=decide_eq_true (by have:=of_decide_eq_false hc; omega)
   refine W.drawA ?_
   refine SPY ?_; repeat' (first|refine ⟨fun hc=>?_,fun hc=>?_⟩|intro)
   refine WD.e rfl (Ef.call (c:=f.H) (by exact rfl) (.last (.there (.there (.there (.there .all))))) (abandon_tr _ f hf x.id)) ?_
   rintro _ _ ⟨_,⟨rfl,f',hf',rfl,hfR,hfS⟩,rfl⟩
   refine ⟨.inl (by kernel_rfl),?_⟩
   refine SPY ?_; repeat' (first|refine ⟨fun hc=>?_,fun hc=>?_⟩|intro)
   refine Fin.retW (by exact rfl) resA (H':=capH b3 b2 now s f') (fun _ h=>?_) ⟨by rw [hd]; rfl,f',hf',hfR,by unfold lapse1; rw [hd,hfS]; rfl,by unfold capH SdM.hd SdM.cells; rw [←hR]⟩
   unfold capH SdM.hd SdM.cells
   rw [←hR]
   exact In.of_sub (.pick (.right (.there .here)) (.pick (.right (.there .here)) (.pick (.right (.there .here)) (.last .here)))) h
def lapseN (now:Int) (f:Flt.S) (l:List Snd.Life):Flt.S:=l.foldl (lapse1 now) f
def deadL (now:Int) (x:Snd.Life):Bool:=Snd.lifeDead (Snd.clock now) x
theorem lapseN_alive (now:Int) (f:Flt.S) {l:List Snd.Life} (h:∀ x ∈ l,deadL now x=false):lapseN now f l=f:=by
 induction l with
 | nil=>rfl
 | cons x l ih=>
   show lapseN now (lapse1 now f x) l=f
   have h1:lapse1 now f x=f:=by unfold lapse1; exact if_neg (by have:=h x List.mem_cons_self; unfold deadL at this; rw [this]; decide)
   rw [h1]
   exact ih (fun y hy=>h y (List.mem_cons_of_mem _ hy))
theorem lapseN_eq (now:Int):∀ (l:List Snd.Life) (f:Flt.S),lapseN now f l=(l.filter (deadL now)).foldl (fun f x=>Flt.abandon f x.id) f
 | [],_=>rfl
 | x::l,f=>by
   show lapseN now (lapse1 now f x) l=_
   rw [lapseN_eq now l]
   unfold lapse1 deadL
   rw [List.filter_cons]
   split <;> rfl
theorem lapseN_snoc (now:Int) (f:Flt.S) {l:List Snd.Life} {j:Nat} {x:Snd.Life} (h:l[j]? = some x):lapseN now f (l.take (j+1))=lapse1 now (lapseN now f (l.take j)) x:=by
 rw [List.take_add_one,h]
 unfold lapseN
 rw [List.foldl_append]
 rfl
def idxV (o:Option Nat):Int:=match o with | some k=>k | none=>-1
structure GIx where
 i:Nat
 f:FM
set_option maxHeartbeats 4000000 in
theorem idxL_tr (F:Nat→Option Obj) (b3 b2:Nat) (now:Int) (s:SdM) (f:FM) (hf:f.ok) (hR:f.R=s.f.R) (L:List Snd.Life) (la:Option Addr) (ln lc:Nat) (lb:HL) (hown:OwnS 116 2 (L.flatMap lifeC) (.slice la ln lc) lb) (hn:L.length≤1000000) :
 Tr Tryz.prog 155 [.slice la ln lc,.func (.func 82) ([]:List Value).toArray [ptr b3,ptr b2].toArray].toArray F (lb++capH b3 b2 now s f) (fun v H=>v=.int .i64 (idxV (L.findIdx? (deadL now)))∧∃ f':FM,f'.ok∧f'.R=f.R∧f'.S=(match L.findIdx? (deadL now) with | some k=>lapseN now f.S (L.take (k+1)) | none=>f.S)∧H=lb++capH b3 b2 now s f'):=by
 refine Tr.enter Tryz.func155 rfl Tryz.ntmps155 rfl (fun w0=>?_)
 have hln:L.length=ln:=by have:=OwnS.len hown; rw [flat_len' lifeC 2 lifeC_len] at this; omega
 refine SPX ?_; repeat' (first|refine ⟨fun hc=>?_,fun hc=>?_⟩|intro)
 refine W.loop (G:=GIx) (fun g=>[(0,.slice la ln lc),(1,.func (.func 82) ([]:List Value).toArray [ptr b3,ptr b2].toArray),(7,.int .i64 ln),(8,.int .i64 g.i)]) (fun g=>lb++capH b3 b2 now s g.f) (fun g=>g.i≤ln∧(∀ x ∈ L.take g.i,deadL now x=false)∧g.f.ok∧g.f.R=f.R∧g.f.S=f.S) (fun g=>ln - g.i) ⟨0,f⟩ ⟨Nat.zero_le _,(fun _ h=>by simp at h),hf,rfl,rfl⟩ envA (fun _ h=>h) ?_
 rintro ⟨i,g⟩ ⟨hi,hal,hg,hgR,hgS⟩
 dsimp only at hi hal hg hgR hgS ⊢
 refine SPQ ?_; repeat' (first|refine ⟨fun hc=>?_,fun hc=>?_⟩|intro)
 cases hc:decide ((i:Int) < ln) with
 | false=>
   have hi':i=L.length:=by have:=of_decide_eq_false hc; omega
   subst hi'
   rw [List.take_length] at hal
   have hnone:L.findIdx? (deadL now)=none:=List.findIdx?_eq_none_iff.2 hal
   rw [hnone]
   refine SPY ?_; repeat' (first|refine ⟨fun hc=>?_,fun hc=>?_⟩|intro)
   exact Fin.retW (by exact rfl) resA (fun _ h=>h) ⟨rfl,g,hg,hgR,hgS,rfl⟩
 | true=>
 have hi':i < ln:=by have:=of_decide_eq_true hc; omega
 obtain ⟨x,hx⟩:∃ x,L[i]? = some x:=⟨L[i]'(by omega),List.getElem?_eq_getElem _⟩
 obtain ⟨sb,so,hla,hcan⟩:=(Lst.own (F:=F) hown (fun _ h=>h)).el lifeC_len hx (by omega)
 have hia:0≤(i:Int)∧(i:Int) < ln:=by omega
 have hcan':=hcan.mono (F':=F) (H':=lb++capH b3 b2 now s g) (fun w h=>h.left)
 rw [hla]
 refine SPY ?_; repeat' (first|refine ⟨fun hc=>?_,fun hc=>?_⟩|intro)
 refine WL.s rfl (Rd.ldaC rfl (by exact rfl) hcan') ?_
 refine SPY ?_; repeat' (first|refine ⟨fun hc=>?_,fun hc=>?_⟩|intro)
 refine WL.e rfl (Ef.callV (fv:=[]) (cv:=[ptr b3,ptr b2]) (vals:=[.agg (lifeC x).toArray]) (c:=capH b3 b2 now s g) rfl (by exact rfl) rfl (.last (.right .all)) (exp1_tr _ b3 b2 now s g hg (hgR.trans hR) x)) ?_
 rintro _ _ ⟨_,⟨rfl,f',hf',hfR,hfS,rfl⟩,rfl⟩
 have hsn:L.take (i+1)=L.take i++[x]:=by rw [List.take_add_one,hx]; rfl
 cases hd:Snd.lifeDead (Snd.clock now) x with
 | true=>
   have hsome:L.findIdx? (deadL now)=some i:=by
    rw [List.findIdx?_eq_some_iff_getElem]
    refine ⟨by omega,by rw [(List.getElem?_eq_some_iff.1 hx).2]; exact hd,fun j hj=>?_⟩
    rw [hal L[j] (by rw [List.mem_take_iff_getElem]; exact ⟨j,by omega,rfl⟩)]
    decide
   rw [hsome]
   refine SPY ?_; repeat' (first|refine ⟨fun hc=>?_,fun hc=>?_⟩|intro)
   refine Fin.retW (by exact rfl) resA (H':=lb++capH b3 b2 now s f') (fun _ h=>?_) ⟨rfl,f',hf',hfR.trans hgR,?_,rfl⟩
   · rw [List.append_nil] at h
     exact h.perm List.perm_append_comm
   · dsimp only
     rw [hfS,hgS,lapseN_snoc now f.S hx,lapseN_alive now f.S hal]
 | false=>
   have hsame:f'.S=g.S:=by rw [hfS]; unfold lapse1; rw [hd]; rfl
   refine SPY ?_; repeat' (first|refine ⟨fun hc=>?_,fun hc=>?_⟩|intro)
   rw [i64_succ (by omega),←hla]
   refine Fin.round ⟨i+1,f'⟩ ⟨hi',fun y hy=>?_,hf',hfR.trans hgR,hsame.trans hgS⟩ envA (fun _ h=>?_) (by dsimp only; omega)
   · rw [hsn] at hy
     rcases List.mem_append.1 hy with hy | hy
     · exact hal y hy
     · rw [List.mem_singleton.1 hy]; exact hd
   · rw [List.append_nil] at h
     exact h.perm List.perm_append_comm
structure GDl where
 j:Nat
 X:List Snd.Life
 hb:HL
 f:FM
def aliveL (now:Int) (L:List Snd.Life):List Snd.Life:=L.filter (fun x=>!deadL now x)
set_option maxHeartbeats 4000000 in
theorem delL_tr (F:Nat→Option Obj) (b3 b2:Nat) (now:Int) (s:SdM) (f:FM) (hf:f.ok) (hR:f.R=s.f.R) (L:List Snd.Life) (la:Option Addr) (ln lc:Nat) (lb:HL) (hown:OwnS 116 2 (L.flatMap lifeC) (.slice la ln lc) lb) (hn:L.length≤1000000) :
 Tr Tryz.prog 81 [.slice la ln lc,.func (.func 82) ([]:List Value).toArray [ptr b3,ptr b2].toArray].toArray F (lb++capH b3 b2 now s f) (fun v H=>∃ (hb:HL) (f':FM),v=.slice la (aliveL now L).length lc∧OwnS 116 2 ((aliveL now L).flatMap lifeC) (.slice la (aliveL now L).length lc) hb∧f'.ok∧f'.R=f.R∧f'.S=lapseN now f.S L∧H=hb++capH b3 b2 now s f'):=by
 refine Tr.enter Tryz.func81 rfl Tryz.ntmps81 rfl (fun w0=>?_)
 have hln:L.length=ln:=by have:=OwnS.len hown; rw [flat_len' lifeC 2 lifeC_len] at this; omega
 refine SPY ?_; repeat' (first|refine ⟨fun hc=>?_,fun hc=>?_⟩|intro)
 refine WL.e rfl (Ef.call (c:=lb++capH b3 b2 now s f) (by exact rfl) (.all _) (idxL_tr _ b3 b2 now s f hf hR L la ln lc lb hown hn)) ?_
 rintro _ _ ⟨_,⟨rfl,f1,hf1,hf1R,hf1S,rfl⟩,rfl⟩
 rw [List.append_nil]
 cases hfi:L.findIdx? (deadL now) with
 | none=>
   rw [hfi] at hf1S
   have hal:=List.findIdx?_eq_none_iff.1 hfi
   have hK:aliveL now L=L:=List.filter_eq_self.2 (fun x hx=>by rw [hal x hx]; rfl)
   have hS:lapseN now f.S L=f.S:=lapseN_alive now f.S hal
   rw [hK,hS,hln]
   unfold idxV
   refine SPY ?_; repeat' (first|refine ⟨fun hc=>?_,fun hc=>?_⟩|intro)
   exact Fin.retW (by exact rfl) resA (fun _ h=>h) ⟨lb,f1,rfl,hown,hf1,hf1R,hf1S,rfl⟩
 | some i0=>
 rw [hfi] at hf1S
 dsimp only at hf1S
 obtain ⟨hi0,hp0,hb0⟩:=List.findIdx?_eq_some_iff_getElem.1 hfi
 have hal:∀ x ∈ L.take i0,deadL now x=false:=fun x hx=>by
  obtain ⟨j,hj,rfl⟩:=List.mem_take_iff_getElem.1 hx
  have:=hb0 j (by omega)
  simpa using this
 have hK0:(L.take i0).filter (fun x=>!deadL now x)=L.take i0:=List.filter_eq_self.2 (fun x hx=>by rw [hal x hx]; rfl)
 have hK1:(L.take (i0+1)).filter (fun x=>!deadL now x)=L.take i0:=by
  rw [List.take_add_one,List.getElem?_eq_getElem hi0,List.filter_append,hK0]
  simp [hp0]
 have hlt:(aliveL now L).length < L.length:=by
  unfold aliveL
  rw [List.length_filter_lt_length_iff_exists]
  exact ⟨L[i0],List.getElem_mem _,by rw [hp0]; decide⟩
 obtain ⟨sb,so,rfl⟩:=OwnS.addr hown (by omega)
 have hD0:Dl (deadL now) L L (i0+1):=⟨rfl,by rw [hK1,List.length_take,Nat.min_eq_left (by omega)],rfl⟩
 unfold idxV
 dsimp only
 refine SPY ?_; repeat' (first|refine ⟨fun hc=>?_,fun hc=>?_⟩|intro)
 rw [i64_succ (i:=i0) (by omega)]
 refine W.loop (G:=GDl) (fun g=>[(0,.slice (some ⟨sb,so,none⟩) ln lc),(1,.func (.func 82) ([]:List Value).toArray [ptr b3,ptr b2].toArray),(5,.int .i64 ((L.take g.j).filter (fun x=>!deadL now x)).length),(6,.int .i64 g.j)]) (fun g=>g.hb++capH b3 b2 now s g.f)
  (fun g=>g.j≤ln∧Dl (deadL now) L g.X g.j∧OwnS 116 2 (g.X.flatMap lifeC) (.slice (some ⟨sb,so,none⟩) ln lc) g.hb∧g.f.ok∧g.f.R=f.R∧g.f.S=lapseN now f.S (L.take g.j)) (fun g=>ln - g.j) ⟨i0+1,L,lb,f1⟩ ⟨by dsimp only; omega,hD0,hown,hf1,hf1R,hf1S⟩ (by dsimp only; rw [hK1,List.length_take,Nat.min_eq_left (by omega)]; exact envA) (fun _ h=>h) ?_
 clear hf1 hf1R hf1S hD0
 rintro ⟨j,X,hb,g⟩ ⟨hj,hD,hX,hg,hgR,hgS⟩
 dsimp only at hj hD hX hg hgR hgS ⊢
 obtain ⟨k,hk⟩:∃ k,((L.take j).filter (fun x=>!deadL now x)).length=k:=⟨_,rfl⟩
 have hkj:=hD.kept
 rw [hk] at hkj ⊢
 have hXl:=hD.len
 refine SPQ ?_; repeat' (first|refine ⟨fun hc=>?_,fun hc=>?_⟩|intro)
 cases hc:decide ((j:Int) < ln) with
 | true=>
   have hj':j < ln:=by have:=of_decide_eq_true hc; omega
   obtain ⟨x,hx⟩:∃ x,L[j]? = some x:=⟨L[j]'(by omega),List.getElem?_eq_getElem _⟩
   have hXx:=hD.get hx
   obtain ⟨sb',so',hla',hcan⟩:=(Lst.own (F:=F) hX (fun _ h=>h)).el lifeC_len hXx (by omega)
   cases hla'
   have hia:0≤(j:Int)∧(j:Int) < ln:=by omega
   have hik:0≤(k:Int)∧(k:Int) < ln:=by omega
   have hcan':=hcan.mono (F':=F) (H':=hb++capH b3 b2 now s g) (fun w h=>h.left)
   refine SPY ?_; repeat' (first|refine ⟨fun hc=>?_,fun hc=>?_⟩|intro)
   refine WL.s rfl (Rd.ldaC rfl (by exact rfl) hcan') ?_
   clear hcan hcan'
   refine SPY ?_; repeat' (first|refine ⟨fun hc=>?_,fun hc=>?_⟩|intro)
   rename_i b7
   refine WL.e rfl (Ef.callV (fv:=[]) (cv:=[ptr b3,ptr b2]) (vals:=[.agg (lifeC x).toArray]) (c:=capH b3 b2 now s g) rfl (by exact rfl) rfl (.last (.there (.right .all))) (exp1_tr _ b3 b2 now s g hg (hgR.trans hR) x)) ?_
   rintro _ _ ⟨_,⟨rfl,f',hf',hfR,hfS,rfl⟩,rfl⟩
   have hf'S:f'.S=lapseN now f.S (L.take (j+1)):=by rw [lapseN_snoc now f.S hx,←hgS,hfS]
   refine WL.weak (H':=(b7,.cells (lifeC x).toArray 116 (0,0))::(hb++capH b3 b2 now s f')) (fun _ h=>by rw [List.append_nil] at h; exact h.perm (List.perm_middle.trans ((List.perm_append_comm).cons _))) ?_
   cases hd:Snd.lifeDead (Snd.clock now) x with
   | true=>
     have hsame:(L.take (j+1)).filter (fun x=>!deadL now x)=(L.take j).filter (fun x=>!deadL now x):=by
      rw [List.take_add_one,hx,List.filter_append]
      have:deadL now x=true:=hd
      simp [this]
     refine SPY ?_; repeat' (first|refine ⟨fun hc=>?_,fun hc=>?_⟩|intro)
     rw [i64_succ (i:=j) (by omega)]
     refine Fin.round ⟨j+1,X,hb,f'⟩ ⟨by dsimp only; omega,hD.goes hx hd,hX,hf',hfR.trans hgR,hf'S⟩ (by dsimp only; rw [hsame,hk]; exact envA) (fun _ h=>h.sublist (.cons _ (List.Sublist.refl _))) (by dsimp only; omega)
   | false=>
     obtain ⟨hD',hlen'⟩:=hD.stays hx hd
     rw [hk] at hD' hlen'
     obtain ⟨hb',hX',hput⟩:=hX.setEl lifeC_len (k:=k) (by omega) x
     have hput':PutAt sb (so+(k:Int).toNat * 2) (lifeC x) hb hb':=hput
     refine SPY ?_; repeat' (first|refine ⟨fun hc=>?_,fun hc=>?_⟩|intro)
     refine WL.e0 (Ef.sta rfl rfl rfl rfl (.there (.left hput'))) ?_
     rintro _ _ ⟨rfl,rfl⟩
     refine SPY ?_; repeat' (first|refine ⟨fun hc=>?_,fun hc=>?_⟩|intro)
     rw [i64_succ (i:=j) (by omega),i64_succ (i:=k) (by omega)]
     refine Fin.round ⟨j+1,X.set k x,hb',f'⟩ ⟨by dsimp only; omega,hD',hX',hf',hfR.trans hgR,hf'S⟩ (by dsimp only; rw [hlen']; exact envA) (fun _ h=>h.sublist (.cons _ (List.Sublist.refl _))) (by dsimp only; omega)
 | false=>
   have hj':j=L.length:=by have:=of_decide_eq_false hc; omega
   subst hj'
   rw [List.take_length] at hk hgS
   have hK:aliveL now L=X.take k:=by
    have:=hD.pre
    rw [List.take_length,hk] at this
    exact this.symm
   have hkl:(aliveL now L).length=k:=hk
   have hkn:k < ln:=by omega
   obtain ⟨r,hr⟩:∃ r,ln - k=r+1:=⟨ln - k - 1,by omega⟩
   have hXc:(X.flatMap lifeC).length=L.length * 2:=by rw [flat_len' lifeC 2 lifeC_len,hXl]
   obtain ⟨hb',hX',hput⟩:=hX.put (k * 2) (mkCells [.int .i64 0,.int .i64 0] (r+1)) (by rw [length_mkCells,hXc]; simp only [List.length_cons,List.length_nil]; omega)
   have hX2:=hX'.shrink (k:=k) (by omega)
   rw [show ((X.flatMap lifeC).take (k * 2)++mkCells [.int .i64 0,.int .i64 0] (r+1)++(X.flatMap lifeC).drop (k * 2+(mkCells [.int .i64 0,.int .i64 0] (r+1)).length)).take (k * 2)=(aliveL now L).flatMap lifeC from by
    rw [List.append_assoc,List.take_left' (by rw [List.length_take,hXc]; omega),flat_take lifeC_len,hK]] at hX2
   refine SPY ?_; repeat' (first|refine ⟨fun hc=>?_,fun hc=>?_⟩|intro)
   refine WL.p rfl (by exact Pu.slLo rfl rfl (by omega)) ?_
   rw [show ((k:Int)).toNat=k from rfl,hr,if_neg (by obtain ⟨_,_,_,he,_,h⟩:=OwnS.shape hX; cases he; omega),Option.map_some,add_lit]
   refine WL.e0 (Ef.clr (z:=[.int .i64 0,.int .i64 0]) rfl rfl rfl (.left hput)) ?_
   rintro _ _ ⟨rfl,rfl⟩
   refine SPY ?_; repeat' (first|refine ⟨fun hc=>?_,fun hc=>?_⟩|intro)
   have hlc:ln≤lc:=by obtain ⟨_,_,_,he,_,h⟩:=OwnS.shape hX; cases he; exact h
   refine WL.p rfl (by exact Pu.slHi rfl rfl (by omega)) ?_
   rw [show ((k:Int)).toNat=k from rfl]
   refine SPY ?_; repeat' (first|refine ⟨fun hc=>?_,fun hc=>?_⟩|intro)
   exact Fin.retW (by exact rfl) resA (fun _ h=>h) ⟨hb',g,by rw [hkl]; rfl,by rw [hkl]; exact hX2,hg,hgR,hgS,rfl⟩
end Go.Proofs.YtlfpemmdehmbfaaGreat
