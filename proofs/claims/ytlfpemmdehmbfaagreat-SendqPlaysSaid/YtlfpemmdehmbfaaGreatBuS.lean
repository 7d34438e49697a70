/- Some texts as one. A sender in memory: what is lost goes again, what waits goes: walked. Conditions: it is well formed. The document's sender: what is lost goes again: walked. Conditions: it is well formed. A sender in memory: what waits goes, walked. Conditions: it is well formed. The document's sender: what waits goes: walked. Conditions: it is well formed. What goes out of a sender, in plain Lean: each piece has a TSN within range, and bytes. No conditions: laws only. -/
import Derived.Test.YtlfpemmdehmbfaaGreatBuD
import Derived.Test.YtlfpemmdehmbfaaGreatBuQ
import Derived.Test.YtlfpemmdehmbfaaGreatBuR
namespace Go.Proofs.YtlfpemmdehmbfaaGreat
open Go Go.Sl Go.Pth
theorem In.un3 {F:Nat→Option Obj} {w:World} {b A B C c Hr T:HL} (hp:(c++Hr).Perm T) (h:In F ((b++c)++(A++(B++(C++Hr)))) w):In F (b++(A++(B++(C++T)))) w:=by
 have e:In F (b++(A++(B++(C++(c++Hr))))) w:=by
  rw [List.append_assoc] at h
  exact In.of_sub (.pickL (L:=b) .here (.pickL (L:=A) (.right .here) (.pickL (L:=B) (.right .here) (.pickL (L:=C) (.right .here) (.last .all))))) h
 exact e.perm (List.Perm.append_left _ (List.Perm.append_left _ (List.Perm.append_left _ (List.Perm.append_left _ hp))))
theorem In.un4 {F:Nat→Option Obj} {w:World} {p:Nat × Obj} {A B C D c Hr T:HL} (hp:(c++Hr).Perm T) (h:In F (c++(p::(A++(B++(C++(D++Hr)))))) w):In F (p::(A++(B++(C++(D++T))))) w:=by
 have e:In F ([p]++(A++(B++(C++(D++(c++Hr)))))) w:=In.of_sub (.pick (.right .here) (.pickL (L:=A) (.right .here) (.pickL (L:=B) (.right .here) (.pickL (L:=C) (.right .here) (.pickL (L:=D) (.right .here) (.last .all)))))) h
 exact e.perm (List.Perm.append_left _ (List.Perm.append_left _ (List.Perm.append_left _ (List.Perm.append_left _ (List.Perm.append_left _ hp)))))
structure OuM where
 ds:List DM
 sa:Option Addr
 sn:Nat
 sc:Nat
 hb:HL
def OuM.bb (o:OuM):HL:=o.ds.flatMap (·.bb)
def OuM.L (o:OuM):List Flt.Dt:=o.ds.map (·.d)
structure OuM.ok (o:OuM):Prop where
 row:OwnS 77 7 (o.ds.flatMap DM.cells) (.slice o.sa o.sn o.sc) o.hb
 own:∀ m ∈ o.ds,m.ok
theorem OuM.ok.len {o:OuM} (h:o.ok):o.ds.length=o.sn:=by have:=OwnS.len h.row; rw [flat_len' DM.cells 7 DM.len] at this; omega
structure GAg where
 i:Nat
 x:Snd.Go1
 s:SdM
 o:OuM
def GoQ (n:Nat) (s:SdM) (g:Snd.Go1) (v:Value) (H:HL):Prop:=∃ (s':SdM) (o:OuM),v=.slice o.sa o.sn o.sc∧s'.ok n∧s'.R=s.R∧s'.S=g.s∧o.ok∧o.L=g.out∧(s'.wa=s.wa∧s'.wn=s.wn)∧H=o.hb++(o.bb++s'.H)
theorem dm_one' (m:DM):∀ u ∈ m.cells,u.oneCell'=true:=by
 intro u hu
 simp [DM.cells] at hu
 rcases hu with rfl | rfl | rfl | rfl | rfl | rfl | rfl <;> rfl
set_option maxHeartbeats 8000000 in
theorem sagain_tr (F:Nat→Option Obj) {n:Nat} (s:SdM) (hs:s.ok n) (k:Nat) (hk:k < s.ws.length) (now:Int):Tr Tryz.prog 63 [ptr s.R,.int .i64 k,.int .i64 now].toArray F s.H (GoQ n s (Snd.again s.S k now)):=by
 refine Tr.enter Tryz.func63 rfl Tryz.ntmps63 rfl (fun w0=>?_)
 obtain ⟨c0,c1,c2,c3,c4,c5,c6,c7,c8,c9,c10,c11⟩:=s.cans (F:=F)
 have hm:=hs.pl.mtu
 have em:s.S.mtu=s.mtu:=rfl
 rw [em] at hm
 have hnws:=hs.nws
 have hSlen:s.S.ws.length=s.ws.length:=by simp [SdM.S]
 refine SPY ?_; repeat' (first|refine ⟨fun hc=>?_,fun hc=>?_⟩|intro)
 rw [i64_id (n:=s.mtu - 12) (by omega) (by omega)]
 refine WL.e rfl (Ef.call (c:=s.f.H) (by exact rfl) s.flP.sub (lost_tr _ s.f hs.f)) ?_
 rintro _ _ ⟨_,⟨ta,tn,tc,tb,rfl,htb,rfl⟩,rfl⟩
 refine WL.weak (H':=tb++s.H) (fun _ h=>by rw [List.append_assoc] at h; exact h.perm (List.Perm.append_left _ (s.flE (f':=s.f) rfl))) ?_
 obtain ⟨ts,hts⟩:∃ ts,Flt.lostL s.f.S=ts:=⟨_,rfl⟩
 rw [hts] at htb
 have htl:tn=ts.length:=by have:=OwnS.len htb; simp at this; omega
 have htfew:ts.length≤2048:=by have h1:=lostL_le s.f.S; have h2:=hs.f.few; rw [hts] at h1; simp [FM.S] at h1; omega
 clear c0 c1 c2 c3 c4 c5 c6 c7 c8 c9 c10 c11
 obtain ⟨rr,hrr⟩:∃ rr,s.R=rr:=⟨_,rfl⟩
 have hag:Snd.again s.S k now=(ts.foldl (Snd.again1 k now) (⟨s.S,[],s.mtu - 12⟩,false)).1:=by
  unfold Snd.again
  rw [show s.S.f=s.f.S from rfl,hts]
  rfl
 rw [hrr]
 refine SPY ?_; repeat' (first|refine ⟨fun hc=>?_,fun hc=>?_⟩|intro)
 refine W.loop (G:=GAg) (fun g=>[(0,ptr rr),(1,.int .i64 k),(2,.int .i64 now),(7,.slice g.o.sa g.o.sn g.o.sc),(8,.int .i64 g.x.room),(23,.slice ta tn tc),(24,.int .i64 tn),(25,.int .i64 g.i)])
  (fun g=>tb++(g.o.hb++(g.o.bb++g.s.H))) (fun g=>g.i≤tn∧g.s.ok n∧g.s.R=rr∧(g.s.wa=s.wa∧g.s.wn=s.wn)∧g.s.S=g.x.s∧g.o.ok∧g.o.L=g.x.out∧Snd.AgI n s.S g.x∧g.o.ds.length≤g.i∧(ts.take g.i).foldl (Snd.again1 k now) (⟨s.S,[],s.mtu - 12⟩,false)=(g.x,false)) (fun g=>tn - g.i)
  ⟨0,⟨s.S,[],s.mtu - 12⟩,s,⟨[],none,0,0,[]⟩⟩ ⟨Nat.zero_le _,hs,hrr,⟨rfl,rfl⟩,rfl,⟨.inl ⟨rfl,rfl,rfl⟩,fun _ h=>by cases h⟩,rfl,⟨hs.pl,rfl,rfl,by dsimp only; omega⟩,Nat.zero_le _,rfl⟩ envA (fun _ h=>h) ?_
 rintro ⟨i,x,t,o⟩ ⟨hi,ht,hR,⟨hwa,hwn⟩,hS,ho,hoL,hx,hof,hfold⟩
 dsimp only at hi ht hR hwn hS ho hoL hx hof hfold ⊢
 subst hR
 have htwl:t.ws.length=s.ws.length:=by have h1:=ht.wn; have h2:=hs.wn; omega
 obtain ⟨xs,xo,xr⟩:=x
 dsimp only at hS hoL hx hfold ⊢
 subst hS hoL
 refine SPY ?_; repeat' (first|refine ⟨fun hc=>?_,fun hc=>?_⟩|intro)
 · have hi':i < tn:=by have:=of_decide_eq_true hc; omega
   have htr:ts[i]? = some (ts[i]'(by omega)):=List.getElem?_eq_getElem _
   obtain ⟨tsn,htsn⟩:∃ y,ts[i]'(by omega)=y:=⟨_,rfl⟩
   rw [htsn] at htr
   obtain ⟨gb,go,hta,hcan⟩:=lst_el (Lst.own (F:=F) (H:=tb) htb (fun _ h=>h)) htr
   have hia:0≤(i:Int)∧(i:Int) < tn:=by omega
   rw [hta]
   obtain ⟨d,p,hget⟩:=Snd.lost_get (f:=s.f.S) hs.pl.f.g (t:=tsn) (by rw [hts]; exact List.mem_of_getElem? htr) (f':=t.S.f) hx.c hx.len
   obtain ⟨hp,hdl⟩:=Snd.getD_rng hx.ok.f hget
   obtain ⟨pn,rfl⟩:∃ pn:Nat,p=pn:=⟨p.toNat,by omega⟩
   have hstep:=Snd.again_at (k:=k) (now:=now) (x:=⟨t.S,o.L,xr⟩) hget
   dsimp only at hstep
   have hfold1:(ts.take (i+1)).foldl (Snd.again1 k now) (⟨s.S,[],s.mtu - 12⟩,false)=Snd.again1 k now (⟨t.S,o.L,xr⟩,false) tsn:=by
    rw [List.take_add_one,htr,List.foldl_append,hfold]
    rfl
   rw [hstep,Int.toNat_natCast] at hfold1
   obtain ⟨c0,c1,c2,c3,c4,c5,c6,c7,c8,c9,c10,c11⟩:=t.cans (F:=F)
   refine SPX ?_; repeat' (first|refine ⟨fun hc=>?_,fun hc=>?_⟩|intro)
   refine WL.e rfl (Ef.call (c:=t.f.H) (by exact rfl) (.skipL tb (.skipL o.hb (.skipL o.bb t.flP.sub))) (getD_tr _ t.f ht.f ht.small tsn)) ?_
   rintro _ _ ⟨_,(⟨hno,_⟩ | ⟨m,p',hsome,hmo,rfl,rfl⟩),rfl⟩
   · rw [show t.S.f=t.f.S from rfl,hno] at hget; cases hget
   rw [show t.S.f=t.f.S from rfl,hsome] at hget
   cases hget
   have hbn:m.bn=m.d.bs.length:=by have:=OwnS.len hmo; simp at this; omega
   have hbnI:Snd.need m.bn=Snd.need m.d.bs.length:=by rw [hbn]
   refine WL.weak (fun _ h=>In.un3 (t.flE (f':=t.f) rfl) h) ?_
   dsimp only [tup]
   unfold DM.cells
   clear hcan
   refine SPX ?_; repeat' (first|refine ⟨fun hc=>?_,fun hc=>?_⟩|intro)
   rename_i b11
   refine WL.e rfl (Ef.callR (c:=t.H) (by exact rfl) (.skip _ (.skipL m.bb (.skipL tb (.skipL o.hb (.skipL o.bb (.all _)))))) (snext_tr _ t ht pn (by have:=hp.2; have:=hx.ok.paths; have:=hx.ok.nws; omega))) ?_
   rintro _ _ ⟨rfl,rfl⟩
   refine SPX ?_; repeat' (first|refine ⟨fun hc=>?_,fun hc=>?_⟩|intro)
   · have hne:Snd.nextW t.S pn≠k:=fun e=>by simp [e] at hc
     rw [if_pos hne] at hfold1
     rw [i64_succ (by omega),←hta]
     exact Fin.round ⟨i+1,⟨t.S,o.L,xr⟩,t,o⟩ ⟨hi',ht,rfl,⟨hwa,hwn⟩,rfl,ho,rfl,hx,by dsimp only; omega,hfold1⟩ envA (fun _ h=>h.sublist (.cons _ (List.sublist_append_right _ _))) (by dsimp only; omega)
   have heq:Snd.nextW t.S pn=k:=by
    have h1:(Snd.nextW t.S pn:Int)=(k:Int):=by simpa using hc
    omega
   rw [if_neg (fun e=>e heq)] at hfold1
   refine WL.e rfl (Ef.callR (c:=t.H) (by exact rfl) (.skip _ (.skipL m.bb (.skipL tb (.skipL o.hb (.skipL o.bb (.all _)))))) (may_tr _ t ht k (by omega))) ?_
   rintro _ _ ⟨rfl,rfl⟩
   have hbrk:(!Snd.mayW t.S k || decide (Snd.need m.d.bs.length > xr))=true→Snd.again s.S k now=⟨t.S,o.L,xr⟩:=fun hb=>by
    rw [if_pos hb] at hfold1
    rw [hag,←List.take_append_drop (i+1) ts,List.foldl_append,hfold1,Snd.again_stop _ rfl]
   have hsubB:(o.hb++(o.bb++t.H)).Sublist (m.bb++(tb++(o.hb++(o.bb++t.H)))):=(List.sublist_append_right tb _).trans (List.sublist_append_right m.bb _)
   refine SPX ?_; repeat' (first|refine ⟨fun hc=>?_,fun hc=>?_⟩|intro)
   rotate_left
   · refine WL.e rfl (Ef.callR (by exact rfl) (.nil _) (need_tr _ m.bn (by omega))) ?_
     rintro _ _ ⟨rfl,rfl⟩
     rw [hbnI]
     have hmy:Snd.mayW t.S k=true:=by simpa using ‹(!Snd.mayW t.S k)=false›
     refine SPX ?_; repeat' (first|refine ⟨fun hc=>?_,fun hc=>?_⟩|intro)
     · have hnd:Snd.need m.d.bs.length > xr:=of_decide_eq_true hc
       rw [hbrk (by rw [decide_eq_true hnd,Bool.or_true])]
       exact Fin.retW (by exact rfl) resA (H':=o.hb++(o.bb++t.H)) (fun _ h=>h.sublist (.cons _ hsubB)) ⟨t,o,rfl,ht,hrr.symm,rfl,ho,rfl,⟨hwa,hwn⟩,rfl⟩
     have hnd:¬ Snd.need m.d.bs.length > xr:=of_decide_eq_false hc
     rw [if_neg (by rw [hmy,decide_eq_false hnd]; decide)] at hfold1
     have hx':=hx.go (k:=k) (now:=now) (t:=tsn) (d:=m.d) hnd
     refine WD.e rfl (Ef.callR (by exact rfl) (.nil _) (clock_tr _ now)) ?_
     rintro _ _ ⟨rfl,rfl⟩
     refine ⟨.inr (fun _ h=>h),?_⟩
     refine SPY ?_; repeat' (first|refine ⟨fun hc=>?_,fun hc=>?_⟩|intro)
     refine WD.e rfl (Ef.call (c:=t.f.H) (by exact rfl) (.skip _ (.skipL m.bb (.skipL tb (.skipL o.hb (.skipL o.bb t.flP.sub))))) (again_tr _ t.f ht.f tsn k (Snd.clock now))) ?_
     rintro _ _ ⟨_,⟨rfl,f',hf',rfl,hR',hS'⟩,rfl⟩
     refine ⟨.inl (by kernel_rfl),?_⟩
     refine WD.weak (fun _ h=>In.un4 (t.flE hR') h) ?_
     obtain ⟨t',ht'e⟩:∃ t',({ t with f:=f' }:SdM)=t':=⟨_,rfl⟩
     have hS2:t'.S={ t.S with f:=(Flt.again t.S.f tsn k (Snd.clock now)).1 }:=by rw [←ht'e]; show ({ t.S with f:=f'.S }:Snd.S)=_; rw [hS']; rfl
     have ht':t'.ok n:=by
      rw [←ht'e]
      refine ht.setF hf' ?_
      rw [hS']
      exact hx'.ok
     have hR2:t'.R=t.R:=by rw [←ht'e]
     have hwn2:t'.wn=t.wn:=by rw [←ht'e]
     have hwa2:t'.wa=t.wa:=by rw [←ht'e]
     rw [ht'e]
     rw [←hS2] at hx' hfold1
     clear c0 c1 c2 c3 c4 c5 c6 c7 c8 c9 c10 c11
     refine SPY ?_; repeat' (first|refine ⟨fun hc=>?_,fun hc=>?_⟩|intro)
     refine WL.e rfl (Ef.callR (by exact rfl) (.nil _) (need_tr _ m.bn (by omega))) ?_
     rintro _ _ ⟨rfl,rfl⟩
     rw [hbnI]
     have hnr:=(Snd.need_le (n:=m.d.bs.length)).1
     have hxr:=hx.room
     dsimp only at hxr
     refine SPY ?_; repeat' (first|refine ⟨fun hc=>?_,fun hc=>?_⟩|intro)
     rw [i64_id (n:=xr - Snd.need m.d.bs.length) (by omega) (by omega)]
     have hol:=ho.len
     refine WL.e rfl (Ef.app (m:=1) (news:=m.cells) (hb:=o.hb) (by exact rfl) (by exact rfl) rfl rfl ho.row (.last (.there (.there (.right (.right .here))))) (Src.own (n:=7) (.here rfl)) rfl (dm_one' m) (by rw [flat_len' DM.cells 7 DM.len]; simp [DM.cells]; omega) (by rw [flat_len' DM.cells 7 DM.len]; simp [DM.cells,maxLen]; omega)) ?_
     rintro v' _ ⟨hb',hown',rfl⟩
     obtain ⟨ja,jn,jc,rfl,_,_⟩:=OwnS.shape hown'
     refine SPY ?_; repeat' (first|refine ⟨fun hc=>?_,fun hc=>?_⟩|intro)
     rw [i64_succ (by omega),←hta]
     refine Fin.round ⟨i+1,⟨t'.S,o.L++[m.d],xr - Snd.need m.d.bs.length⟩,t',⟨o.ds++[m],ja,jn,jc,hb'⟩⟩ ⟨hi',ht',hR2,⟨hwa2.trans hwa,hwn2.trans hwn⟩,rfl,⟨by dsimp only; rw [List.flatMap_append]; simpa using hown',fun q hq=>?_⟩,by unfold OuM.L; rw [List.map_append]; rfl,hx',by dsimp only; rw [List.length_append]; simp; omega,hfold1⟩ envA (fun _ h=>?_) (by dsimp only; omega)
     · rcases List.mem_append.1 hq with hq | hq
       · exact ho.own q hq
       · rw [List.mem_singleton.1 hq]; exact hmo
     · have e:OuM.bb ⟨o.ds++[m],ja,jn,jc,hb'⟩=o.bb++m.bb:=by unfold OuM.bb; dsimp only; rw [List.flatMap_append]; simp
       dsimp only
       rw [e,List.append_assoc]
       exact In.of_sub (.pickL (L:=tb) (.right (.there (.there (.right .here)))) (.pickL (L:=hb') .here (.pickL (L:=o.bb) (.there (.there (.right .here))) (.pickL (L:=m.bb) (.there (.there .here)) (.last (L:=t'.H) (.there (.there .all))))))) h
   · have hmy:Snd.mayW t.S k=false:=by simpa using hc
     rw [hbrk (by rw [hmy]; rfl)]
     exact Fin.retW (by exact rfl) resA (H':=o.hb++(o.bb++t.H)) (fun _ h=>h.sublist (.cons _ hsubB)) ⟨t,o,rfl,ht,hrr.symm,rfl,ho,rfl,⟨hwa,hwn⟩,rfl⟩
 · have hi':i=ts.length:=by have:=of_decide_eq_false hc; omega
   subst hi'
   rw [List.take_length] at hfold
   rw [hag,hfold]
   exact Fin.retW (by exact rfl) resA (H':=o.hb++(o.bb++t.H)) (fun _ h=>h.sublist (List.sublist_append_right _ _)) ⟨t,o,rfl,ht,hrr.symm,rfl,ho,rfl,⟨hwa,hwn⟩,rfl⟩
end Go.Proofs.YtlfpemmdehmbfaaGreat
namespace Go.Proofs.YtlfpemmdehmbfaaGreat
open Go Go.Sl Go.Pth
def DGoQ (n:Nat) (s:DsM) (g:Snd.Go1) (v:Value) (H:HL):Prop:=∃ (s':DsM) (o:OuM),v=.slice o.sa o.sn o.sc∧s'.ok n∧s'.R=s.R∧s'.S=g.s∧o.ok∧o.L=g.out∧H=o.hb++(o.bb++s'.H)
structure GDa where
 i:Nat
 x:Snd.Go1
 s:DsM
 o:OuM
structure GDg where
 b:Nat
 m:DM
theorem rlostL_le (s:Flt.S):(Flt.lostL s).length≤s.L.length:=by unfold Flt.lostL; rw [List.length_map]; exact List.length_filter_le _ _
theorem In.un5 {F:Nat→Option Obj} {w:World} {p:Nat × Obj} {b A B C c Hr T:HL} (hp:(c++Hr).Perm T) (h:In F (p::((b++c)++(A++(B++(C++Hr))))) w):In F (p::(b++(A++(B++(C++T))))) w:=by
 have e:In F ([p]++(b++(A++(B++(C++(c++Hr)))))) w:=by
  rw [List.append_assoc] at h
  exact In.of_sub (.pick .here (.pickL (L:=b) .here (.pickL (L:=A) (.right .here) (.pickL (L:=B) (.right .here) (.pickL (L:=C) (.right .here) (.last .all)))))) h
 exact e.perm (List.Perm.append_left _ (List.Perm.append_left _ (List.Perm.append_left _ (List.Perm.append_left _ (List.Perm.append_left _ hp)))))
set_option maxHeartbeats 8000000 in
theorem dagain_tr (F:Nat→Option Obj) {n:Nat} (s:DsM) (hs:s.ok n) (k:Nat) (hk:k < s.ws.length) (now:Int):Tr Tryz.prog 107 [ptr s.R,.int .i64 k,.int .i64 now].toArray F s.H (DGoQ n s (Snd.again s.S k now)):=by
 refine Tr.enter Tryz.func107 rfl Tryz.ntmps107 rfl (fun w0=>?_)
 obtain ⟨c0,c1,c2,c3,c4,c5,c6,c7,c8,c9,c10,c11,c12,c13,c14⟩:=s.cans (F:=F)
 have hm:=hs.pl.mtu
 have em:s.S.mtu=s.mtu:=rfl
 rw [em] at hm
 have hnws:=hs.nws
 have hSlen:s.S.ws.length=s.ws.length:=by simp [DsM.S]
 refine SPY ?_; repeat' (first|refine ⟨fun hc=>?_,fun hc=>?_⟩|intro)
 rw [i64_id (n:=s.mtu - 12) (by omega) (by omega)]
 refine WL.e rfl (Ef.call (c:=s.f.H) (by exact rfl) s.flP.sub (rlost_tr _ s.f hs.f)) ?_
 rintro _ _ ⟨_,⟨ta,tn,tc,tb,rfl,htb,rfl⟩,rfl⟩
 refine WL.weak (H':=tb++s.H) (fun _ h=>by rw [List.append_assoc] at h; exact h.perm (List.Perm.append_left _ (s.flE (f':=s.f) rfl))) ?_
 obtain ⟨ts,hts⟩:∃ ts,Flt.lostL s.f.S=ts:=⟨_,rfl⟩
 rw [hts] at htb
 have htl:tn=ts.length:=by have:=OwnS.len htb; simp at this; omega
 have htfew:ts.length≤2048:=by have h1:=rlostL_le s.f.S; have h2:=hs.f.few; have h3:=fr_len hs.f; have h4:=hs.f.len; rw [hts] at h1; omega
 clear c0 c1 c2 c3 c4 c5 c6 c7 c8 c9 c10 c11 c12 c13 c14
 obtain ⟨rr,hrr⟩:∃ rr,s.R=rr:=⟨_,rfl⟩
 have hag:Snd.again s.S k now=(ts.foldl (Snd.again1 k now) (⟨s.S,[],s.mtu - 12⟩,false)).1:=by
  unfold Snd.again
  rw [show s.S.f=s.f.S from rfl,hts]
  rfl
 rw [hrr]
 refine SPY ?_; repeat' (first|refine ⟨fun hc=>?_,fun hc=>?_⟩|intro)
 refine W.loop (G:=GDa) (fun g=>[(0,ptr rr),(1,.int .i64 k),(2,.int .i64 now),(7,.slice g.o.sa g.o.sn g.o.sc),(8,.int .i64 g.x.room),(9,.slice ta tn tc),(10,.int .i64 g.i)])
  (fun g=>tb++(g.o.hb++(g.o.bb++g.s.H))) (fun g=>g.i≤tn∧g.s.ok n∧g.s.R=rr∧g.s.ws.length=s.ws.length∧g.s.S=g.x.s∧g.o.ok∧g.o.L=g.x.out∧Snd.AgI n s.S g.x∧g.o.ds.length≤g.i∧(ts.take g.i).foldl (Snd.again1 k now) (⟨s.S,[],s.mtu - 12⟩,false)=(g.x,false)) (fun g=>tn - g.i)
  ⟨0,⟨s.S,[],s.mtu - 12⟩,s,⟨[],none,0,0,[]⟩⟩ ⟨Nat.zero_le _,hs,hrr,rfl,rfl,⟨.inl ⟨rfl,rfl,rfl⟩,fun _ h=>by cases h⟩,rfl,⟨hs.pl,rfl,rfl,by dsimp only; omega⟩,Nat.zero_le _,rfl⟩ envA (fun _ h=>h) ?_
 rintro ⟨i,x,t,o⟩ ⟨hi,ht,hR,htwl,hS,ho,hoL,hx,hof,hfold⟩
 dsimp only at hi ht hR htwl hS ho hoL hx hof hfold ⊢
 subst hR
 obtain ⟨xs,xo,xr⟩:=x
 dsimp only at hS hoL hx hfold ⊢
 subst hS hoL
 refine SPQ ?_; repeat' (first|refine ⟨fun hc=>?_,fun hc=>?_⟩|intro)
 cases hc:decide ((i:Int) < tn) with
 | false=>
   have hi':i=ts.length:=by have:=of_decide_eq_false hc; omega
   subst hi'
   rw [List.take_length] at hfold
   rw [hag,hfold]
   refine SPY ?_; repeat' (first|refine ⟨fun hc=>?_,fun hc=>?_⟩|intro)
   exact Fin.retW (by exact rfl) resA (H':=o.hb++(o.bb++t.H)) (fun _ h=>h.sublist (List.sublist_append_right _ _)) ⟨t,o,rfl,ht,hrr.symm,rfl,ho,rfl,rfl⟩
 | true=>
 have hi':i < tn:=by have:=of_decide_eq_true hc; omega
 have htr:ts[i]? = some (ts[i]'(by omega)):=List.getElem?_eq_getElem _
 obtain ⟨tsn,htsn⟩:∃ y,ts[i]'(by omega)=y:=⟨_,rfl⟩
 rw [htsn] at htr
 obtain ⟨gb,go,hta,hcan⟩:=lst_el (Lst.own (F:=F) (H:=tb) htb (fun _ h=>h)) htr
 have hia:0≤(i:Int)∧(i:Int) < tn:=by omega
 rw [hta]
 obtain ⟨d,p,hget⟩:=Snd.lost_get (f:=s.f.S) hs.pl.f.g (t:=tsn) (by rw [hts]; exact List.mem_of_getElem? htr) (f':=t.S.f) hx.c hx.len
 obtain ⟨hp,hdl⟩:=Snd.getD_rng hx.ok.f hget
 obtain ⟨pn,rfl⟩:∃ pn:Nat,p=pn:=⟨p.toNat,by omega⟩
 have hstep:=Snd.again_at (k:=k) (now:=now) (x:=⟨t.S,o.L,xr⟩) hget
 dsimp only at hstep
 have hfold1:(ts.take (i+1)).foldl (Snd.again1 k now) (⟨s.S,[],s.mtu - 12⟩,false)=Snd.again1 k now (⟨t.S,o.L,xr⟩,false) tsn:=by
  rw [List.take_add_one,htr,List.foldl_append,hfold]
  rfl
 rw [hstep,Int.toNat_natCast] at hfold1
 refine SPY ?_; repeat' (first|refine ⟨fun hc=>?_,fun hc=>?_⟩|intro)
 refine W.cut (G:=GDg) (fun g=>[(0,ptr t.R),(1,.int .i64 k),(2,.int .i64 now),(7,.slice o.sa o.sn o.sc),(8,.int .i64 xr),(9,.slice (some ⟨gb,go,none⟩) tn tc),(10,.int .i64 i),(11,ptr g.b),(12,.int .i64 pn)])
  (fun g=>(g.b,.cells g.m.cells.toArray 77 (0,0))::(g.m.bb++(tb++(o.hb++(o.bb++t.H))))) (fun g=>g.m.ok∧g.m.d=d) (fun K' hK _=>?_) ?_
 · have hsub:∀ w,In F (tb++(o.hb++(o.bb++t.H))) w→In F (tb++[t.hd]) w:=fun _ h=>h.sublist ((List.Sublist.refl _).append (t.hdSub.trans ((List.sublist_append_right _ _).trans (List.sublist_append_right _ _))))
   refine W.drawG 13 (tb++[t.hd]) hsub ?_
   have c1:Sl.Can F (tb++[t.hd]) t.R (0+1) [ptr t.f.R]:=(t.hdCan.one (i:=1) rfl).mono (fun _ h=>h.sublist (List.sublist_append_right _ _))
   have hcan2:Sl.Can F (tb++[t.hd]) gb (go+(i:Int).toNat * 1) [.int .u32 tsn]:=hcan.mono (fun _ h=>h.left)
   clear hcan
   have hk1:∀ (q:HL) w,In F (q++(tb++(o.hb++(o.bb++t.flR)))) w→In F (tb++[t.hd]) w:=fun _ _ h=>In.of_sub (.pickL (L:=tb) (.right .here) (.last (L:=[_]) (.right (.right (.right .here))))) h
   repeat' (first
    | refine WF.pA ?_ | refine WF.sA ?_)
   refine WF.e rfl (Ef.call (c:=t.f.H) (by exact rfl) (.skipL tb (.skipL o.hb (.skipL o.bb t.flP.sub))) (rgetD_tr _ t.f ht.f ht.small tsn)) ?_ ?_
   · rintro _ _ ⟨_,(⟨hno,_⟩ | ⟨m,p',hsome,hmo,rfl,rfl⟩),rfl⟩
     · rw [show t.S.f=t.f.S from rfl,hno] at hget; cases hget
     rw [show t.S.f=t.f.S from rfl,hsome] at hget
     cases hget
     refine ⟨.inr (fun _ h=>hk1 _ _ h),?_⟩
     dsimp only [tup]
     repeat' (first
      | refine WF.pA ?_ | refine WF.sA ?_)
     refine WF.nil ?_
     refine WD.aA (fun b11=>?_) (hk:=fun _=>.inr (fun _ h=>hk1 _ _ (h.sublist (.cons _ (.refl _)))))
     refine WD.e0A ?_ (hk:=.inl (by kernel_rfl))
     refine SPZ ?_; repeat' (first|refine ⟨fun hc=>?_,fun hc=>?_⟩|intro)
     exact Fin.cut hK ⟨b11,m⟩ ⟨hmo,rfl⟩ envA (fun _ h=>In.un5 (t.flE (f':=t.f) rfl) h)
   · refine WD.aA (fun b11=>?_) (hk:=fun _=>.inr (fun _ h=>hsub _ (h.sublist (.cons _ (.refl _)))))
     refine WD.e rfl (Ef.call (c:=t.f.H) (by exact rfl) (.skip _ (.skipL tb (.skipL o.hb (.skipL o.bb t.flP.sub)))) (rgetD_tr _ t.f ht.f ht.small tsn)) ?_
     rintro _ _ ⟨_,(⟨hno,_⟩ | ⟨m,p',hsome,hmo,rfl,rfl⟩),rfl⟩
     · rw [show t.S.f=t.f.S from rfl,hno] at hget; cases hget
     rw [show t.S.f=t.f.S from rfl,hsome] at hget
     cases hget
     refine ⟨.inl (by kernel_rfl),?_⟩
     dsimp only [tup]
     refine SPZ ?_; repeat' (first|refine ⟨fun hc=>?_,fun hc=>?_⟩|intro)
     refine WD.e0 (Ef.sta rfl rfl rfl rfl (.right (.here rfl))) ?_
     rintro _ _ ⟨rfl,rfl⟩
     refine ⟨.inl (by kernel_rfl),?_⟩
     refine SPZ ?_; repeat' (first|refine ⟨fun hc=>?_,fun hc=>?_⟩|intro)
     exact Fin.cut hK ⟨b11,m⟩ ⟨hmo,rfl⟩ envA (fun _ h=>In.un5 (t.flE (f':=t.f) rfl) (In.of_sub (.pick (.right .here) (.last .all)) h))
 rintro ⟨b11,m⟩ ⟨hmo,hmd⟩
 dsimp only at hmo hmd ⊢
 subst hmd
 have hbn:m.bn=m.d.bs.length:=by have:=OwnS.len hmo; simp at this; omega
 have hbnI:Snd.need m.bn=Snd.need m.d.bs.length:=by rw [hbn]
 obtain ⟨c0,c1,c2,c3,c4,c5,c6,c7,c8,c9,c10,c11,c12,c13,c14⟩:=t.cans (F:=F)
 unfold DM.cells
 refine Fin.next ?_
 refine SPX ?_; repeat' (first|refine ⟨fun hc=>?_,fun hc=>?_⟩|intro)
 refine WL.e rfl (Ef.callR (c:=t.H) (by exact rfl) (.skip _ (.skipL m.bb (.skipL tb (.skipL o.hb (.skipL o.bb (.all _)))))) (dnext_tr _ t ht pn (by have:=hp.2; have:=hx.ok.paths; have:=hx.ok.nws; dsimp only at *; omega))) ?_
 rintro _ _ ⟨rfl,rfl⟩
 refine SPX ?_; repeat' (first|refine ⟨fun hc=>?_,fun hc=>?_⟩|intro)
 · have hne:Snd.nextW t.S pn≠k:=fun e=>by simp [e] at hc
   rw [if_pos hne] at hfold1
   rw [i64_succ (by omega),←hta]
   exact Fin.round ⟨i+1,⟨t.S,o.L,xr⟩,t,o⟩ ⟨hi',ht,rfl,htwl,rfl,ho,rfl,hx,by dsimp only; omega,hfold1⟩ envA (fun _ h=>h.sublist (.cons _ (List.sublist_append_right _ _))) (by dsimp only; omega)
 have heq:Snd.nextW t.S pn=k:=by
  have h1:(Snd.nextW t.S pn:Int)=(k:Int):=by simpa using ‹((Snd.nextW t.S pn:Int) != (k:Int))=false›
  omega
 rw [if_neg (fun e=>e heq)] at hfold1
 refine WL.e rfl (Ef.callR (c:=t.H) (by exact rfl) (.skip _ (.skipL m.bb (.skipL tb (.skipL o.hb (.skipL o.bb (.all _)))))) (dmay_tr _ t ht k (by omega))) ?_
 rintro _ _ ⟨rfl,rfl⟩
 have hbrk:(!Snd.mayW t.S k || decide (Snd.need m.d.bs.length > xr))=true→Snd.again s.S k now=⟨t.S,o.L,xr⟩:=fun hb=>by
  rw [if_pos hb] at hfold1
  rw [hag,←List.take_append_drop (i+1) ts,List.foldl_append,hfold1,Snd.again_stop _ rfl]
 have hsubB:(o.hb++(o.bb++t.H)).Sublist (m.bb++(tb++(o.hb++(o.bb++t.H)))):=(List.sublist_append_right tb _).trans (List.sublist_append_right m.bb _)
 cases hmy:Snd.mayW t.S k with
 | false=>
   rw [hbrk (by rw [hmy]; rfl)]
   refine SPY ?_; repeat' (first|refine ⟨fun hc=>?_,fun hc=>?_⟩|intro)
   exact Fin.retW (by exact rfl) resA (H':=o.hb++(o.bb++t.H)) (fun _ h=>h.sublist (.cons _ hsubB)) ⟨t,o,rfl,ht,hrr.symm,rfl,ho,rfl,rfl⟩
 | true=>
 refine SPY ?_; repeat' (first|refine ⟨fun hc=>?_,fun hc=>?_⟩|intro)
 refine WL.e rfl (Ef.callR (by exact rfl) (.nil _) (dneed_tr _ m.bn (by omega))) ?_
 rintro _ _ ⟨rfl,rfl⟩
 rw [hbnI]
 refine SPY ?_; repeat' (first|refine ⟨fun hc=>?_,fun hc=>?_⟩|intro)
 · have hnd:Snd.need m.d.bs.length > xr:=of_decide_eq_true ‹_›
   rw [hbrk (by rw [decide_eq_true hnd,Bool.or_true])]
   exact Fin.retW (by exact rfl) resA (H':=o.hb++(o.bb++t.H)) (fun _ h=>h.sublist (.cons _ hsubB)) ⟨t,o,rfl,ht,hrr.symm,rfl,ho,rfl,rfl⟩
 have hnd:¬ Snd.need m.d.bs.length > xr:=of_decide_eq_false ‹decide (Snd.need m.d.bs.length > xr)=false›
 rw [if_neg (by rw [hmy,decide_eq_false hnd]; decide)] at hfold1
 have hx':=hx.go (k:=k) (now:=now) (t:=tsn) (d:=m.d) hnd
 refine W.drawA ?_
 refine SPY ?_; repeat' (first|refine ⟨fun hc=>?_,fun hc=>?_⟩|intro)
 refine WD.e rfl (Ef.callR (by exact rfl) (.nil _) (dclock_tr _ now)) ?_
 rintro _ _ ⟨rfl,rfl⟩
 refine ⟨.inr (fun _ h=>h),?_⟩
 refine SPY ?_; repeat' (first|refine ⟨fun hc=>?_,fun hc=>?_⟩|intro)
 refine WD.e rfl (Ef.call (c:=t.f.H) (by exact rfl) (.skip _ (.skipL m.bb (.skipL tb (.skipL o.hb (.skipL o.bb t.flP.sub))))) (ragain_tr _ t.f ht.f tsn k (Snd.clock now))) ?_
 rintro _ _ ⟨_,⟨rfl,f',hf',rfl,hR',hS'⟩,rfl⟩
 refine ⟨.inl (by kernel_rfl),?_⟩
 refine WD.weak (fun _ h=>In.un4 (t.flE hR') h) ?_
 obtain ⟨t',ht'e⟩:∃ t',({ t with f:=f' }:DsM)=t':=⟨_,rfl⟩
 have hS2:t'.S={ t.S with f:=(Flt.again t.S.f tsn k (Snd.clock now)).1 }:=by rw [←ht'e]; show ({ t.S with f:=f'.S }:Snd.S)=_; rw [hS']; rfl
 have ht':t'.ok n:=by
  rw [←ht'e]
  refine ht.setF hf' ?_
  rw [hS']
  exact hx'.ok
 have hR2:t'.R=t.R:=by rw [←ht'e]
 have hwl2:t'.ws.length=t.ws.length:=by rw [←ht'e]
 rw [ht'e]
 rw [←hS2] at hx' hfold1
 clear c0 c1 c2 c3 c4 c5 c6 c7 c8 c9 c10 c11 c12 c13 c14
 refine SPY ?_; repeat' (first|refine ⟨fun hc=>?_,fun hc=>?_⟩|intro)
 refine WL.e rfl (Ef.callR (by exact rfl) (.nil _) (dneed_tr _ m.bn (by omega))) ?_
 rintro _ _ ⟨rfl,rfl⟩
 rw [hbnI]
 have hnr:=(Snd.need_le (n:=m.d.bs.length)).1
 have hxr:=hx.room
 dsimp only at hxr
 refine SPY ?_; repeat' (first|refine ⟨fun hc=>?_,fun hc=>?_⟩|intro)
 rw [i64_id (n:=xr - Snd.need m.d.bs.length) (by omega) (by omega)]
 have hol:=ho.len
 refine WL.e rfl (Ef.app (m:=1) (news:=m.cells) (hb:=o.hb) (by exact rfl) (by exact rfl) rfl rfl ho.row (.last (.there (.there (.right (.right .here))))) (Src.own (n:=7) (.here rfl)) rfl (dm_one' m) (by rw [flat_len' DM.cells 7 DM.len]; simp [DM.cells]; omega) (by rw [flat_len' DM.cells 7 DM.len]; simp [DM.cells,maxLen]; omega)) ?_
 rintro v' _ ⟨hb',hown',rfl⟩
 obtain ⟨ja,jn,jc,rfl,_,_⟩:=OwnS.shape hown'
 refine SPY ?_; repeat' (first|refine ⟨fun hc=>?_,fun hc=>?_⟩|intro)
 rw [i64_succ (by omega),←hta]
 refine Fin.round ⟨i+1,⟨t'.S,o.L++[m.d],xr - Snd.need m.d.bs.length⟩,t',⟨o.ds++[m],ja,jn,jc,hb'⟩⟩ ⟨hi',ht',hR2,hwl2.trans htwl,rfl,⟨by dsimp only; rw [List.flatMap_append]; simpa using hown',fun q hq=>?_⟩,by unfold OuM.L; rw [List.map_append]; rfl,hx',by dsimp only; rw [List.length_append]; simp; omega,hfold1⟩ envA (fun _ h=>?_) (by dsimp only; omega)
 · rcases List.mem_append.1 hq with hq | hq
   · exact ho.own q hq
   · rw [List.mem_singleton.1 hq]; exact hmo
 · have e:OuM.bb ⟨o.ds++[m],ja,jn,jc,hb'⟩=o.bb++m.bb:=by unfold OuM.bb; dsimp only; rw [List.flatMap_append]; simp
   dsimp only
   rw [e,List.append_assoc]
   exact In.of_sub (.pickL (L:=tb) (.right (.there (.there (.right .here)))) (.pickL (L:=hb') .here (.pickL (L:=o.bb) (.there (.there (.right .here))) (.pickL (L:=m.bb) (.there (.there .here)) (.last (L:=t'.H) (.there (.there .all))))))) h
end Go.Proofs.YtlfpemmdehmbfaaGreat
namespace Go.Proofs.YtlfpemmdehmbfaaGreat
open Go Go.Sl Go.Pth
structure GFr where
 j:Nat
 xr:Int
 s:SdM
 o:OuM
theorem In.un2 {F:Nat→Option Obj} {w:World} {b A B c Hr T:HL} (hp:(c++Hr).Perm T) (h:In F ((b++c)++(A++(B++Hr))) w):In F (b++(A++(B++T))) w:=by
 have e:In F (b++(A++(B++(c++Hr)))) w:=by
  rw [List.append_assoc] at h
  exact In.of_sub (.pickL (L:=b) .here (.pickL (L:=A) (.right .here) (.pickL (L:=B) (.right .here) (.last .all)))) h
 exact e.perm (List.Perm.append_left _ (List.Perm.append_left _ (List.Perm.append_left _ hp)))
theorem In.un3p {F:Nat→Option Obj} {w:World} {p:Nat × Obj} {A B C c Hr T:HL} (hp:(c++Hr).Perm T) (h:In F (c++(p::(A++(B++(C++Hr))))) w):In F (p::(A++(B++(C++T)))) w:=by
 have e:In F ([p]++(A++(B++(C++(c++Hr))))) w:=In.of_sub (.pick (.right .here) (.pickL (L:=A) (.right .here) (.pickL (L:=B) (.right .here) (.pickL (L:=C) (.right .here) (.last .all))))) h
 exact e.perm (List.Perm.append_left _ (List.Perm.append_left _ (List.Perm.append_left _ (List.Perm.append_left _ hp))))
set_option maxHeartbeats 8000000 in
theorem sfresh_tr (F:Nat→Option Obj) {n:Nat} (s:SdM) (hs:s.ok n) (k:Nat) (hk:k < s.ws.length) (now:Int):Tr Tryz.prog 66 [ptr s.R,.int .i64 k,.int .i64 now].toArray F s.H (GoQ n s (Snd.fresh s.S k now)):=by
 refine Tr.enter Tryz.func66 rfl Tryz.ntmps66 rfl (fun w0=>?_)
 obtain ⟨c0,c1,c2,c3,c4,c5,c6,c7,c8,c9,c10,c11⟩:=s.cans (F:=F)
 have hm:=hs.pl.mtu
 have em:s.S.mtu=s.mtu:=rfl
 rw [em] at hm
 have hnws:=hs.nws
 have hSlen:s.S.ws.length=s.ws.length:=by simp [SdM.S]
 refine SPY ?_; repeat' (first|refine ⟨fun hc=>?_,fun hc=>?_⟩|intro)
 rw [i64_id (n:=s.mtu - 12) (by omega) (by omega)]
 clear c0 c1 c2 c3 c4 c5 c6 c7 c8 c9 c10 c11
 obtain ⟨rr,hrr⟩:∃ rr,s.R=rr:=⟨_,rfl⟩
 rw [hrr]
 refine W.loop (G:=GFr) (fun g=>[(0,ptr rr),(1,.int .i64 k),(2,.int .i64 now),(7,.slice g.o.sa g.o.sn g.o.sc),(8,.int .i64 g.xr)])
  (fun g=>g.o.hb++(g.o.bb++g.s.H)) (fun g=>g.s.ok n∧g.s.R=rr∧(g.s.wa=s.wa∧g.s.wn=s.wn)∧g.o.ok∧g.o.ds.length=g.j∧(0≤g.xr∧g.xr+20 * g.j≤1488)∧Snd.fresh s.S k now=Snd.freshN k now (100 - g.j) ⟨g.s.S,g.o.L,g.xr⟩) (fun g=>100 - g.j)
  ⟨0,s.mtu - 12,s,⟨[],none,0,0,[]⟩⟩ ⟨hs,hrr,⟨rfl,rfl⟩,⟨.inl ⟨rfl,rfl,rfl⟩,fun _ h=>by cases h⟩,rfl,by dsimp only; omega,rfl⟩ envA (fun _ h=>h) ?_
 rintro ⟨j,xr,t,o⟩ ⟨ht,hR,⟨hwa,hwn⟩,ho,hoj,hxr,hfr⟩
 dsimp only at ht hR hwn ho hoj hxr hfr ⊢
 subst hR
 have htwl:t.ws.length=s.ws.length:=by have h1:=ht.wn; have h2:=hs.wn; omega
 have hpr:=Snd.piece_rng ht.pl
 have hrm:=ht.pl.room
 have erm:t.S.room=t.room:=rfl
 rw [erm] at hrm
 obtain ⟨c0,c1,c2,c3,c4,c5,c6,c7,c8,c9,c10,c11⟩:=t.cans (F:=F)
 have hsub:Sub t.H (o.hb++(o.bb++t.H)) (o.hb++(o.bb++[])):=.skipL o.hb (.skipL o.bb (.all _))
 obtain ⟨pn,hpn⟩:∃ pn:Nat,Snd.piece t.S=pn:=⟨(Snd.piece t.S).toNat,by omega⟩
 have hstD:Snd.stops t.S k xr=(decide ((pn:Int)=0) || (decide (Snd.need pn > xr) || (!Snd.mayW t.S k || (decide ((pn:Int) > t.room) && decide (0 < Snd.away t.S) || decide (2048≤t.S.f.L.length))))):=by
  unfold Snd.stops
  rw [hpn]
  rfl
 have hL:t.S.f.L.length=t.f.sn:=by rw [←ht.f.len]; simp [SdM.S,FM.S]
 refine SPY ?_; repeat' (first|refine ⟨fun hc=>?_,fun hc=>?_⟩|intro)
 refine WL.e rfl (Ef.callR (c:=t.H) (by exact rfl) hsub (piece_tr _ t ht)) ?_
 rintro _ _ ⟨rfl,rfl⟩
 rw [hpn]
 refine SPQ ?_; repeat' (first|refine ⟨fun hc=>?_,fun hc=>?_⟩|intro)
 cases hb1:((pn:Int) == 0) with
 | true=>
   have hst:Snd.stops t.S k xr=true:=by rw [hstD,decide_eq_true (by simpa using hb1)]; rfl
   refine SPY ?_; repeat' (first|refine ⟨fun hc=>?_,fun hc=>?_⟩|intro)
   rw [hfr,Snd.freshN_stop (g:=⟨t.S,o.L,xr⟩) hst]
   exact Fin.retW (by exact rfl) resA (H':=o.hb++(o.bb++t.H)) (fun _ h=>h) ⟨t,o,rfl,ht,hrr.symm,rfl,ho,rfl,⟨hwa,hwn⟩,rfl⟩
 | false=>
 have hp0:¬ (pn:Int)=0:=by simpa using hb1
 refine SPQ ?_; repeat' (first|refine ⟨fun hc=>?_,fun hc=>?_⟩|intro)
 refine WL.e rfl (Ef.callR (by exact rfl) (.nil _) (need_tr _ pn (by omega))) ?_
 rintro _ _ ⟨rfl,rfl⟩
 refine SPQ ?_; repeat' (first|refine ⟨fun hc=>?_,fun hc=>?_⟩|intro)
 cases hb2:decide (Snd.need pn > xr) with
 | true=>
   have hst:Snd.stops t.S k xr=true:=by rw [hstD,hb2]; simp
   refine SPY ?_; repeat' (first|refine ⟨fun hc=>?_,fun hc=>?_⟩|intro)
   rw [hfr,Snd.freshN_stop (g:=⟨t.S,o.L,xr⟩) hst]
   exact Fin.retW (by exact rfl) resA (H':=o.hb++(o.bb++t.H)) (fun _ h=>h) ⟨t,o,rfl,ht,hrr.symm,rfl,ho,rfl,⟨hwa,hwn⟩,rfl⟩
 | false=>
 have hnd:=of_decide_eq_false hb2
 refine SPQ ?_; repeat' (first|refine ⟨fun hc=>?_,fun hc=>?_⟩|intro)
 refine WL.e rfl (Ef.callR (c:=t.H) (by exact rfl) hsub (may_tr _ t ht k (by omega))) ?_
 rintro _ _ ⟨rfl,rfl⟩
 refine SPQ ?_; repeat' (first|refine ⟨fun hc=>?_,fun hc=>?_⟩|intro)
 refine W.cut (G:=Unit) (fun _=>[(0,ptr t.R),(1,.int .i64 k),(2,.int .i64 now),(7,.slice o.sa o.sn o.sc),(8,.int .i64 xr),(9,.int .i64 pn)]) (fun _=>o.hb++(o.bb++t.H)) (fun _=>Snd.stops t.S k xr=false) (fun K' hK hX=>?_) ?_
 · cases hb3:Snd.mayW t.S k with
   | false=>
     have hst:Snd.stops t.S k xr=true:=by rw [hstD,hb3]; simp
     refine SPY ?_; repeat' (first|refine ⟨fun hc=>?_,fun hc=>?_⟩|intro)
     refine hX _ _ _ (fun h=>by cases h) ?_
     refine SPY ?_; repeat' (first|refine ⟨fun hc=>?_,fun hc=>?_⟩|intro)
     rw [hfr,Snd.freshN_stop (g:=⟨t.S,o.L,xr⟩) hst]
     exact Fin.retW (by exact rfl) resA (H':=o.hb++(o.bb++t.H)) (fun _ h=>h) ⟨t,o,rfl,ht,hrr.symm,rfl,ho,rfl,⟨hwa,hwn⟩,rfl⟩
   | true=>
     refine SPQ ?_; repeat' (first|refine ⟨fun hc=>?_,fun hc=>?_⟩|intro)
     · have hb4:decide ((pn:Int) > t.room)=true:=hc
       refine WL.e rfl (Ef.callR (c:=t.H) (by exact rfl) hsub (saway_tr _ t ht)) ?_
       rintro _ _ ⟨rfl,rfl⟩
       refine SPQ ?_; repeat' (first|refine ⟨fun hc=>?_,fun hc=>?_⟩|intro)
       cases hb5:decide ((Snd.away t.S:Int) > 0) with
       | true=>
         have h5:=of_decide_eq_true hb5
         have hst:Snd.stops t.S k xr=true:=by rw [hstD,hb4,decide_eq_true (show 0 < Snd.away t.S by omega)]; simp
         refine SPY ?_; repeat' (first|refine ⟨fun hc=>?_,fun hc=>?_⟩|intro)
         refine hX _ _ _ (fun h=>by cases h) ?_
         refine SPY ?_; repeat' (first|refine ⟨fun hc=>?_,fun hc=>?_⟩|intro)
         rw [hfr,Snd.freshN_stop (g:=⟨t.S,o.L,xr⟩) hst]
         exact Fin.retW (by exact rfl) resA (H':=o.hb++(o.bb++t.H)) (fun _ h=>h) ⟨t,o,rfl,ht,hrr.symm,rfl,ho,rfl,⟨hwa,hwn⟩,rfl⟩
       | false=>
         have h5:=of_decide_eq_false hb5
         have hst2:(decide ((pn:Int) > t.room) && decide (0 < Snd.away t.S))=false:=by rw [decide_eq_false (show ¬ 0 < Snd.away t.S by omega),Bool.and_false]
         refine SPY ?_; repeat' (first|refine ⟨fun hc=>?_,fun hc=>?_⟩|intro)
         refine WL.e rfl (Ef.callR (c:=t.f.H) (by exact rfl) (.skipL o.hb (.skipL o.bb t.flP.sub)) (count_tr _ t.f)) ?_
         rintro _ _ ⟨rfl,rfl⟩
         refine SPQ ?_; repeat' (first|refine ⟨fun hc=>?_,fun hc=>?_⟩|intro)
         cases hb6:decide ((t.f.sn:Int)≥2048) with
         | true=>
           have h6:=of_decide_eq_true hb6
           have hst:Snd.stops t.S k xr=true:=by rw [hstD,hL,decide_eq_true (show 2048≤t.f.sn by omega)]; simp
           refine SPY ?_; repeat' (first|refine ⟨fun hc=>?_,fun hc=>?_⟩|intro)
           refine hX _ _ _ (fun h=>by cases h) ?_
           refine SPY ?_; repeat' (first|refine ⟨fun hc=>?_,fun hc=>?_⟩|intro)
           rw [hfr,Snd.freshN_stop (g:=⟨t.S,o.L,xr⟩) hst]
           exact Fin.retW (by exact rfl) resA (H':=o.hb++(o.bb++t.H)) (fun _ h=>h) ⟨t,o,rfl,ht,hrr.symm,rfl,ho,rfl,⟨hwa,hwn⟩,rfl⟩
         | false=>
           have h6:=of_decide_eq_false hb6
           have hst:Snd.stops t.S k xr=false:=by rw [hstD,decide_eq_false hp0,hb2,hb3,hst2,hL,decide_eq_false (show ¬ 2048≤t.f.sn by omega)]; rfl
           refine SPY ?_; repeat' (first|refine ⟨fun hc=>?_,fun hc=>?_⟩|intro)
           exact Fin.cut hK () hst envA (fun _ h=>h)
     · have hb4:decide ((pn:Int) > t.room)=false:=hc
       have hst2:(decide ((pn:Int) > t.room) && decide (0 < Snd.away t.S))=false:=by rw [hb4,Bool.false_and]
       refine WL.e rfl (Ef.callR (c:=t.f.H) (by exact rfl) (.skipL o.hb (.skipL o.bb t.flP.sub)) (count_tr _ t.f)) ?_
       rintro _ _ ⟨rfl,rfl⟩
       refine SPQ ?_; repeat' (first|refine ⟨fun hc=>?_,fun hc=>?_⟩|intro)
       cases hb6:decide ((t.f.sn:Int)≥2048) with
       | true=>
         have h6:=of_decide_eq_true hb6
         have hst:Snd.stops t.S k xr=true:=by rw [hstD,hL,decide_eq_true (show 2048≤t.f.sn by omega)]; simp
         refine SPY ?_; repeat' (first|refine ⟨fun hc=>?_,fun hc=>?_⟩|intro)
         refine hX _ _ _ (fun h=>by cases h) ?_
         refine SPY ?_; repeat' (first|refine ⟨fun hc=>?_,fun hc=>?_⟩|intro)
         rw [hfr,Snd.freshN_stop (g:=⟨t.S,o.L,xr⟩) hst]
         exact Fin.retW (by exact rfl) resA (H':=o.hb++(o.bb++t.H)) (fun _ h=>h) ⟨t,o,rfl,ht,hrr.symm,rfl,ho,rfl,⟨hwa,hwn⟩,rfl⟩
       | false=>
         have h6:=of_decide_eq_false hb6
         have hst:Snd.stops t.S k xr=false:=by rw [hstD,decide_eq_false hp0,hb2,hb3,hst2,hL,decide_eq_false (show ¬ 2048≤t.f.sn by omega)]; rfl
         refine SPY ?_; repeat' (first|refine ⟨fun hc=>?_,fun hc=>?_⟩|intro)
         exact Fin.cut hK () hst envA (fun _ h=>h)
 intro _ hst
 obtain ⟨h1,h2,h3,h4,h5⟩:=Snd.stops_false hst
 obtain ⟨d,id,q',hnx,hdl,hdne⟩:=Snd.fresh_next ht.pl h1
 have hSl2:t.S.ws.length=t.ws.length:=by simp [SdM.S]
 have hadd:=Snd.fresh_add ht.pl (k:=k) (by omega) hdne h5
 have hat:=Snd.fresh1_at (k:=k) (now:=now) (g:=⟨t.S,o.L,xr⟩) hnx
 have hok3:=Snd.fresh1_ok (k:=k) (now:=now) (g:=⟨t.S,o.L,xr⟩) ht.pl
 rw [hat] at hok3
 dsimp only at hok3
 have hfr2:Snd.fresh s.S k now=Snd.freshN k now (100 - (j+1)) (Snd.fresh1 k now ⟨t.S,o.L,xr⟩):=by
  rw [hfr,show 100 - j=(100 - (j+1))+1 by omega,Snd.freshN_go hst]
 rw [hat] at hfr2
 dsimp only at hfr2
 rw [hpn] at hnx hok3 hfr2 hdl
 rw [Int.toNat_natCast] at hfr2 hdl
 refine SPY ?_; repeat' (first|refine ⟨fun hc=>?_,fun hc=>?_⟩|intro)
 refine WL.e rfl (Ef.call (c:=t.o.H) (by exact rfl) (.skipL o.hb (.skipL o.bb t.oqP.sub)) (onext_tr _ t.o ht.o pn (by omega))) ?_
 rintro _ _ ⟨_,hNQ,rfl⟩
 unfold NextQ at hNQ
 rw [show Oq.next t.o.S pn=some (d,id,q') from hnx] at hNQ
 obtain ⟨da,dn,dc,db,o',rfl,hdo,ho',hRo,hSo,rfl⟩:=hNQ
 refine WL.weak (fun _ h=>In.un2 (t.oqE hRo) h) ?_
 have hdn:dn=pn:=by have:=OwnS.len hdo; simp at this; omega
 dsimp only [tup]
 unfold dC
 clear c0 c1 c2 c3 c4 c5 c6 c7 c8 c9 c10 c11
 obtain ⟨c0,c1,c2,c3,c4,c5,c6,c7,c8,c9,c10,c11⟩:=SdM.cans (F:=F) { t with o:=o' }
 dsimp only at c0 c1 c2 c3 c4 c5 c6 c7 c8 c9 c10 c11
 refine SPY ?_; repeat' (first|refine ⟨fun hc=>?_,fun hc=>?_⟩|intro)
 rename_i b10
 refine W.drawA ?_
 refine SPY ?_; repeat' (first|refine ⟨fun hc=>?_,fun hc=>?_⟩|intro)
 refine WD.e rfl (Ef.callR (by exact rfl) (.nil _) (clock_tr _ now)) ?_
 rintro _ _ ⟨rfl,rfl⟩
 refine ⟨.inr (fun _ h=>h),?_⟩
 refine SPY ?_; repeat' (first|refine ⟨fun hc=>?_,fun hc=>?_⟩|intro)
 refine WD.e rfl (Ef.callW (c:=t.f.H) (by exact rfl) (.skip _ (.skipL db (.skipL o.hb (.skipL o.bb (SdM.flP { t with o:=o' }).sub)))) (fun F' hF=>add_tr F' t.f ht.f d da dn dc ((Lst.own (F:=F) (H:=db) hdo (fun _ h=>h)).mono (fun w h=>(hF w h).sublist (.cons _ (List.sublist_append_left _ _)))) (by omega) k (Snd.clock now) id)) ?_
 rintro _ _ ⟨_,⟨rfl,f1,hf1,rfl,hR1,hS1⟩,rfl⟩
 refine ⟨.inl (by kernel_rfl),?_⟩
 refine WD.weak (fun _ h=>In.un3p (SdM.flE (s:={ t with o:=o' }) hR1) h) ?_
 rw [show Flt.addE t.f.S d k=0 from hadd,if_pos rfl]
 dsimp only [tup]
 clear c0 c1 c2 c3 c4 c5 c6 c7 c8 c9 c10 c11
 obtain ⟨c0,c1,c2,c3,c4,c5,c6,c7,c8,c9,c10,c11⟩:=SdM.cans (F:=F) { t with o:=o',f:=f1 }
 dsimp only at c0 c1 c2 c3 c4 c5 c6 c7 c8 c9 c10 c11
 refine SPZ ?_; repeat' (first|refine ⟨fun hc=>?_,fun hc=>?_⟩|intro)
 refine WD.e0A ?_ (hk:=.inl (by kernel_rfl))
 refine SPZ ?_; repeat' (first|refine ⟨fun hc=>?_,fun hc=>?_⟩|intro)
 rw [i64_id (n:=t.room - (pn:Int)) (by omega) (by omega)]
 simp only [Go.Pth.go_mx]
 refine WL.e0 (Ef.st rfl rfl rfl (.there (.right (.right (.right (SdM.put (s:={ t with o:=o',f:=f1 }) (s':={ t with o:=o',f:=f1,room:=max 0 (t.room - (pn:Int)) }) rfl rfl (off:=0+3) (vs:=[.int .i64 (max 0 (t.room - (pn:Int)))]) rfl)))))) ?_
 rintro _ _ ⟨rfl,rfl⟩
 obtain ⟨t3,ht3e⟩:∃ t3,({ t with o:=o',f:=f1,room:=max 0 (t.room - (pn:Int)) }:SdM)=t3:=⟨_,rfl⟩
 have hS3:t3.S={ t.S with q:=q',f:=Flt.add t.S.f d k (Snd.clock now) id,room:=mx 0 (t.S.room - pn) }:=by
  rw [←ht3e]
  show ({ t.S with q:=o'.S,f:=f1.S,room:=max 0 (t.room - (pn:Int)) }:Snd.S)=_
  rw [hSo,hS1]
  rfl
 have hok4:t3.ok n:=by
  have hp4:Snd.Ok n t3.S:=by rw [hS3]; exact hok3
  rw [←ht3e] at hp4 ⊢
  exact ⟨ho',hf1,ht.ways,ht.lives,ht.owed,ht.own,hp4⟩
 have hR3:t3.R=t.R:=by rw [←ht3e]
 have hwn3:t3.wn=t.wn:=by rw [←ht3e]
 have hwa3:t3.wa=t.wa:=by rw [←ht3e]
 rw [ht3e]
 rw [←hS3] at hfr2
 clear c0 c1 c2 c3 c4 c5 c6 c7 c8 c9 c10 c11
 refine SPY ?_; repeat' (first|refine ⟨fun hc=>?_,fun hc=>?_⟩|intro)
 refine WL.e rfl (Ef.callR (by exact rfl) (.nil _) (need_tr _ pn (by omega))) ?_
 rintro _ _ ⟨rfl,rfl⟩
 have hnr:=(Snd.need_le (n:=pn)).1
 have hn20:=Snd.need20 (n:=pn) (by omega)
 refine SPY ?_; repeat' (first|refine ⟨fun hc=>?_,fun hc=>?_⟩|intro)
 rw [i64_id (n:=xr - Snd.need pn) (by omega) (by omega)]
 obtain ⟨m,hme⟩:∃ m:DM,(⟨{ d with tsn:=Flt.newT t.S.f },da,dn,dc,db⟩:DM)=m:=⟨_,rfl⟩
 have hmo:m.ok:=by rw [←hme]; exact hdo
 have hmd:m.d={ d with tsn:=Flt.newT t.S.f }:=by rw [←hme]
 have hmb:m.bb=db:=by rw [←hme]
 have hol:=ho.len
 refine WL.e rfl (Ef.app (m:=1) (news:=m.cells) (hb:=o.hb) (by exact rfl) (by exact rfl) rfl rfl ho.row (.last (.there (.there (.right .here)))) (by rw [←hme]; exact Src.own (n:=7) (.here rfl)) rfl (dm_one' m) (by rw [flat_len' DM.cells 7 DM.len]; simp [DM.cells]; omega) (by rw [flat_len' DM.cells 7 DM.len]; simp [DM.cells,maxLen]; omega)) ?_
 rintro v' _ ⟨hb',hown',rfl⟩
 obtain ⟨ja,jn,jc,rfl,_,_⟩:=OwnS.shape hown'
 refine SPY ?_; repeat' (first|refine ⟨fun hc=>?_,fun hc=>?_⟩|intro)
 refine Fin.round ⟨j+1,xr - Snd.need pn,t3,⟨o.ds++[m],ja,jn,jc,hb'⟩⟩ ⟨hok4,hR3,⟨hwa3.trans hwa,hwn3.trans hwn⟩,⟨by dsimp only; rw [List.flatMap_append]; simpa using hown',fun q hq=>?_⟩,by dsimp only; rw [List.length_append,hoj]; rfl,by dsimp only; omega,?_⟩ envA (fun _ h=>?_) (by dsimp only; omega)
 · rcases List.mem_append.1 hq with hq | hq
   · exact ho.own q hq
   · rw [List.mem_singleton.1 hq]; exact hmo
 · have e:OuM.L ⟨o.ds++[m],ja,jn,jc,hb'⟩=o.L++[{ d with tsn:=Flt.newT t.S.f }]:=by unfold OuM.L; dsimp only; rw [List.map_append,←hmd]; rfl
   dsimp only
   rw [e]
   exact hfr2
 · have e:OuM.bb ⟨o.ds++[m],ja,jn,jc,hb'⟩=o.bb++db:=by unfold OuM.bb; dsimp only; rw [List.flatMap_append,←hmb]; simp
   dsimp only
   rw [e,List.append_assoc]
   exact In.of_sub (.pickL (L:=hb') .here (.pickL (L:=o.bb) (.there (.there (.right .here))) (.pickL (L:=db) (.there (.there .here)) (.last (L:=t3.H) (.there (.there .all)))))) h
end Go.Proofs.YtlfpemmdehmbfaaGreat
namespace Go.Proofs.YtlfpemmdehmbfaaGreat
open Go Go.Sl Go.Pth
structure GDr where
 j:Nat
 xr:Int
 s:DsM
 o:OuM
set_option maxRecDepth 40000 in
set_option maxHeartbeats 8000000 in
theorem dfresh_tr (F:Nat→Option Obj) {n:Nat} (s:DsM) (hs:s.ok n) (k:Nat) (hk:k < s.ws.length) (now:Int):Tr Tryz.prog 110 [ptr s.R,.int .i64 k,.int .i64 now].toArray F s.H (DGoQ n s (Snd.fresh s.S k now)):=by
 refine Tr.enter Tryz.func110 rfl Tryz.ntmps110 rfl (fun w0=>?_)
 obtain ⟨c0,c1,c2,c3,c4,c5,c6,c7,c8,c9,c10,c11,c12,c13,c14⟩:=s.cans (F:=F)
 have hm:=hs.pl.mtu
 have em:s.S.mtu=s.mtu:=rfl
 rw [em] at hm
 have hnws:=hs.nws
 have hSlen:s.S.ws.length=s.ws.length:=by simp [DsM.S]
 refine SPY ?_; repeat' (first|refine ⟨fun hc=>?_,fun hc=>?_⟩|intro)
 rw [i64_id (n:=s.mtu - 12) (by omega) (by omega)]
 clear c0 c1 c2 c3 c4 c5 c6 c7 c8 c9 c10 c11 c12 c13 c14
 obtain ⟨rr,hrr⟩:∃ rr,s.R=rr:=⟨_,rfl⟩
 rw [hrr]
 refine W.loop (G:=GDr) (fun g=>[(0,ptr rr),(1,.int .i64 k),(2,.int .i64 now),(7,.slice g.o.sa g.o.sn g.o.sc),(8,.int .i64 g.xr)])
  (fun g=>g.o.hb++(g.o.bb++g.s.H)) (fun g=>g.s.ok n∧g.s.R=rr∧g.s.ws.length=s.ws.length∧g.o.ok∧g.o.ds.length=g.j∧(0≤g.xr∧g.xr+20 * g.j≤1488)∧Snd.fresh s.S k now=Snd.freshN k now (100 - g.j) ⟨g.s.S,g.o.L,g.xr⟩) (fun g=>100 - g.j)
  ⟨0,s.mtu - 12,s,⟨[],none,0,0,[]⟩⟩ ⟨hs,hrr,rfl,⟨.inl ⟨rfl,rfl,rfl⟩,fun _ h=>by cases h⟩,rfl,by dsimp only; omega,rfl⟩ envA (fun _ h=>h) ?_
 rintro ⟨j,xr,t,o⟩ ⟨ht,hR,htwl,ho,hoj,hxr,hfr⟩
 dsimp only at ht hR htwl ho hoj hxr hfr ⊢
 subst hR
 have hpr:=Snd.piece_rng ht.pl
 have hrm:=ht.pl.room
 have erm:t.S.room=t.room:=rfl
 rw [erm] at hrm
 have hmt:=ht.pl.mtu
 have emt:t.S.mtu=t.mtu:=rfl
 rw [emt] at hmt
 obtain ⟨c0,c1,c2,c3,c4,c5,c6,c7,c8,c9,c10,c11,c12,c13,c14⟩:=t.cans (F:=F)
 have hsub:Sub t.H (o.hb++(o.bb++t.H)) (o.hb++(o.bb++[])):=.skipL o.hb (.skipL o.bb (.all _))
 obtain ⟨pn,hpn⟩:∃ pn:Nat,Snd.piece t.S=pn:=⟨(Snd.piece t.S).toNat,by omega⟩
 have hstD:Snd.stops t.S k xr=(decide ((pn:Int)=0) || (decide (Snd.need pn > xr) || (!Snd.mayW t.S k || (decide ((pn:Int) > t.room) && decide (0 < Snd.away t.S) || decide (2048≤t.S.f.L.length))))):=by
  unfold Snd.stops
  rw [hpn]
  rfl
 have hL:t.S.f.L.length=t.f.ln:=fr_len ht.f
 refine SPY ?_; repeat' (first|refine ⟨fun hc=>?_,fun hc=>?_⟩|intro)
 have hpm:min (Oq.size t.q.S:Int) ((t.mtu - 12 - 16) / 4 * 4)=pn:=by rw [←hpn]; unfold Snd.piece; rw [mn_eq]; rfl
 have hEnv:True:=trivial
 refine W.cut (G:=Unit) (fun _=>[(0,ptr t.R),(1,.int .i64 k),(2,.int .i64 now),(7,.slice o.sa o.sn o.sc),(8,.int .i64 xr),(9,.int .i64 pn)]) (fun _=>o.hb++(o.bb++t.H)) (fun _=>True) (fun K' hK _=>?_) ?_
 · refine W.drawA ?_
   refine SPY ?_; repeat' (first|refine ⟨fun hc=>?_,fun hc=>?_⟩|intro)
   refine WD.e rfl (Ef.callR (by exact rfl) (.skipL o.hb (.skipL o.bb t.oqP.sub)) (dosize_tr _ t.q ht.q)) ?_
   rintro _ _ ⟨rfl,rfl⟩
   refine ⟨.inr (fun _ h=>h),?_⟩
   refine SPZ ?_; repeat' (first|refine ⟨fun hc=>?_,fun hc=>?_⟩|intro)
   simp (disch:=omega) only [i64_id,Int.tdiv_eq_ediv_of_nonneg,Go.Pth.go_mn]
   rw [hpm]
   exact Fin.cut hK () trivial envA (fun _ h=>h)
 rintro _ _
 refine Fin.next ?_
 repeat refine W.seq ?_
 refine W.cut (G:=Unit) (fun _=>[(0,ptr t.R),(1,.int .i64 k),(2,.int .i64 now),(7,.slice o.sa o.sn o.sc),(8,.int .i64 xr),(9,.int .i64 pn),(68,.bool (Snd.stops t.S k xr))]) (fun _=>o.hb++(o.bb++t.H)) (fun _=>True) (fun K' hK _=>?_) ?_
 · refine SPQ ?_; repeat' (first|refine ⟨fun hc=>?_,fun hc=>?_⟩|intro)
   · have hb1:((pn:Int) == 0)=true:=hc
     have hst:Snd.stops t.S k xr=true:=by rw [hstD,decide_eq_true (by simpa using hb1)]; rfl
     rw [hst] at hK
     exact Fin.cut hK () trivial envA (fun _ h=>h)
   have hp0:¬ (pn:Int)=0:=by simpa using hc
   refine WL.e rfl (Ef.callR (by exact rfl) (.nil _) (dneed_tr _ pn (by omega))) ?_
   rintro _ _ ⟨rfl,rfl⟩
   refine SPQ ?_; repeat' (first|refine ⟨fun hc=>?_,fun hc=>?_⟩|intro)
   · have hb2:decide (Snd.need pn > xr)=true:=‹_›
     have hst:Snd.stops t.S k xr=true:=by rw [hstD,hb2]; simp
     rw [hst] at hK
     exact Fin.cut hK () trivial envA (fun _ h=>h)
   have hb2:decide (Snd.need pn > xr)=false:=‹_›
   refine WL.e rfl (Ef.callR (c:=t.H) (by exact rfl) hsub (dmay_tr _ t ht k (by omega))) ?_
   rintro _ _ ⟨rfl,rfl⟩
   cases hmy:Snd.mayW t.S k with
   | false=>
     have hst:Snd.stops t.S k xr=true:=by rw [hstD,hmy]; simp
     rw [hst] at hK
     refine SPQ ?_; repeat' (first|refine ⟨fun hc=>?_,fun hc=>?_⟩|intro)
     exact Fin.cut hK () trivial envA (fun _ h=>h)
   | true=>
   refine SPQ ?_; repeat' (first|refine ⟨fun hc=>?_,fun hc=>?_⟩|intro)
   · have hb4:decide ((pn:Int) > t.room)=true:=‹_›
     refine WL.e rfl (Ef.callR (c:=t.H) (by exact rfl) hsub (dall_tr _ t ht)) ?_
     rintro _ _ ⟨rfl,rfl⟩
     refine SPQ ?_; repeat' (first|refine ⟨fun hc=>?_,fun hc=>?_⟩|intro)
     · have h5:=of_decide_eq_true ‹decide ((Snd.away t.S:Int) > 0)=true›
       have hst:Snd.stops t.S k xr=true:=by rw [hstD,hb4,decide_eq_true (show 0 < Snd.away t.S by omega)]; simp
       rw [hst] at hK
       exact Fin.cut hK () trivial envA (fun _ h=>h)
     have h5:=of_decide_eq_false ‹decide ((Snd.away t.S:Int) > 0)=false›
     have hst2:(decide ((pn:Int) > t.room) && decide (0 < Snd.away t.S))=false:=by rw [decide_eq_false (show ¬ 0 < Snd.away t.S by omega),Bool.and_false]
     refine WL.e rfl (Ef.callR (c:=t.f.H) (by exact rfl) (.skipL o.hb (.skipL o.bb t.flP.sub)) (rcount_tr _ t.f)) ?_
     rintro _ _ ⟨rfl,rfl⟩
     have hst:Snd.stops t.S k xr=decide ((t.f.ln:Int)≥2048):=by
      rw [hstD,decide_eq_false hp0,hb2,hmy,hst2,hL]
      simp only [Bool.false_or,Bool.not_true,ge_iff_le]
      rw [Bool.eq_iff_iff,decide_eq_true_eq,decide_eq_true_eq]
      omega
     rw [hst] at hK
     clear hst hL
     refine SPQ ?_; repeat' (first|refine ⟨fun hc=>?_,fun hc=>?_⟩|intro)
     exact Fin.cut hK () trivial envA (fun _ h=>h)
   · have hb4:decide ((pn:Int) > t.room)=false:=‹_›
     have hst2:(decide ((pn:Int) > t.room) && decide (0 < Snd.away t.S))=false:=by rw [hb4,Bool.false_and]
     refine WL.e rfl (Ef.callR (c:=t.f.H) (by exact rfl) (.skipL o.hb (.skipL o.bb t.flP.sub)) (rcount_tr _ t.f)) ?_
     rintro _ _ ⟨rfl,rfl⟩
     have hst:Snd.stops t.S k xr=decide ((t.f.ln:Int)≥2048):=by
      rw [hstD,decide_eq_false hp0,hb2,hmy,hst2,hL]
      simp only [Bool.false_or,Bool.not_true,ge_iff_le]
      rw [Bool.eq_iff_iff,decide_eq_true_eq,decide_eq_true_eq]
      omega
     rw [hst] at hK
     clear hst hL
     refine SPQ ?_; repeat' (first|refine ⟨fun hc=>?_,fun hc=>?_⟩|intro)
     exact Fin.cut hK () trivial envA (fun _ h=>h)
 rintro _ _
 refine Fin.next ?_
 repeat refine W.seq ?_
 cases hst:Snd.stops t.S k xr with
 | true=>
   refine SPY ?_; repeat' (first|refine ⟨fun hc=>?_,fun hc=>?_⟩|intro)
   rw [hfr,Snd.freshN_stop (g:=⟨t.S,o.L,xr⟩) hst]
   exact Fin.retW (by exact rfl) resA (H':=o.hb++(o.bb++t.H)) (fun _ h=>h) ⟨t,o,rfl,ht,hrr.symm,rfl,ho,rfl,rfl⟩
 | false=>
 obtain ⟨h1,h2,h3,h4,h5⟩:=Snd.stops_false hst
 have hnd:=h2
 rw [hpn,Int.toNat_natCast] at hnd
 obtain ⟨d,id,q',hnx,hdl,hdne⟩:=Snd.fresh_next ht.pl h1
 have hSl2:t.S.ws.length=t.ws.length:=by simp [DsM.S]
 have hadd:=Snd.fresh_add ht.pl (k:=k) (by omega) hdne h5
 have hat:=Snd.fresh1_at (k:=k) (now:=now) (g:=⟨t.S,o.L,xr⟩) hnx
 have hok3:=Snd.fresh1_ok (k:=k) (now:=now) (g:=⟨t.S,o.L,xr⟩) ht.pl
 rw [hat] at hok3
 dsimp only at hok3
 have hfr2:Snd.fresh s.S k now=Snd.freshN k now (100 - (j+1)) (Snd.fresh1 k now ⟨t.S,o.L,xr⟩):=by
  rw [hfr,show 100 - j=(100 - (j+1))+1 by omega,Snd.freshN_go hst]
 rw [hat] at hfr2
 dsimp only at hfr2
 rw [hpn] at hnx hok3 hfr2 hdl
 rw [Int.toNat_natCast] at hfr2 hdl
 clear hstD hst hpm
 refine SPY ?_; repeat' (first|refine ⟨fun hc=>?_,fun hc=>?_⟩|intro)
 refine WL.e rfl (Ef.call (c:=t.q.H) (by exact rfl) (.skipL o.hb (.skipL o.bb t.oqP.sub)) (donext_tr _ t.q ht.q pn (by omega))) ?_
 rintro _ _ ⟨_,hNQ,rfl⟩
 unfold DNextQ at hNQ
 rw [show Oq.next t.q.S pn=some (d,id,q') from hnx] at hNQ
 obtain ⟨da,dn,dc,db,o',rfl,hdo,ho',hRo,hSo,rfl⟩:=hNQ
 refine WL.weak (fun _ h=>In.un2 (t.oqE hRo) h) ?_
 have hdn:dn=pn:=by have:=OwnS.len hdo; simp at this; omega
 dsimp only [tup]
 unfold dC
 clear c0 c1 c2 c3 c4 c5 c6 c7 c8 c9 c10 c11 c12 c13 c14
 obtain ⟨c0,c1,c2,c3,c4,c5,c6,c7,c8,c9,c10,c11,c12,c13,c14⟩:=DsM.cans (F:=F) { t with q:=o' }
 dsimp only at c0 c1 c2 c3 c4 c5 c6 c7 c8 c9 c10 c11 c12 c13 c14
 refine SPY ?_; repeat' (first|refine ⟨fun hc=>?_,fun hc=>?_⟩|intro)
 rename_i b10
 refine W.drawA ?_
 refine SPY ?_; repeat' (first|refine ⟨fun hc=>?_,fun hc=>?_⟩|intro)
 refine WD.e rfl (Ef.callR (by exact rfl) (.nil _) (dclock_tr _ now)) ?_
 rintro _ _ ⟨rfl,rfl⟩
 refine ⟨.inr (fun _ h=>h),?_⟩
 refine SPY ?_; repeat' (first|refine ⟨fun hc=>?_,fun hc=>?_⟩|intro)
 refine WD.e rfl (Ef.callW (c:=t.f.H) (by exact rfl) (.skip _ (.skipL db (.skipL o.hb (.skipL o.bb (DsM.flP { t with q:=o' }).sub)))) (fun F' hF=>radd_tr F' t.f ht.f d da dn dc ((Lst.own (F:=F) (H:=db) hdo (fun _ h=>h)).mono (fun w h=>(hF w h).sublist (.cons _ (List.sublist_append_left _ _)))) (by omega) k (Snd.clock now) id)) ?_
 rintro _ _ ⟨_,⟨rfl,f1,hf1,rfl,hR1,hS1⟩,rfl⟩
 refine ⟨.inl (by kernel_rfl),?_⟩
 refine WD.weak (fun _ h=>In.un3p (DsM.flE (s:={ t with q:=o' }) hR1) h) ?_
 rw [show Flt.addE t.f.S d k=0 from hadd,if_pos rfl]
 dsimp only [tup]
 clear c0 c1 c2 c3 c4 c5 c6 c7 c8 c9 c10 c11 c12 c13 c14
 obtain ⟨c0,c1,c2,c3,c4,c5,c6,c7,c8,c9,c10,c11,c12,c13,c14⟩:=DsM.cans (F:=F) { t with q:=o',f:=f1 }
 dsimp only at c0 c1 c2 c3 c4 c5 c6 c7 c8 c9 c10 c11 c12 c13 c14
 refine SPZ ?_; repeat' (first|refine ⟨fun hc=>?_,fun hc=>?_⟩|intro)
 refine WL.e0A ?_
 refine SPZ ?_; repeat' (first|refine ⟨fun hc=>?_,fun hc=>?_⟩|intro)
 rw [i64_id (n:=t.room - (pn:Int)) (by omega) (by omega)]
 simp only [Go.Pth.go_mx]
 refine WL.e0 (Ef.st rfl rfl rfl (.there (.right (.right (.right (DsM.put (s:={ t with q:=o',f:=f1 }) (s':={ t with q:=o',f:=f1,room:=max 0 (t.room - (pn:Int)) }) rfl rfl (off:=0+6) (vs:=[.int .i64 (max 0 (t.room - (pn:Int)))]) rfl)))))) ?_
 rintro _ _ ⟨rfl,rfl⟩
 obtain ⟨t3,ht3e⟩:∃ t3,({ t with q:=o',f:=f1,room:=max 0 (t.room - (pn:Int)) }:DsM)=t3:=⟨_,rfl⟩
 have hS3:t3.S={ t.S with q:=q',f:=Flt.add t.S.f d k (Snd.clock now) id,room:=mx 0 (t.S.room - pn) }:=by
  rw [←ht3e]
  show ({ t.S with q:=o'.S,f:=f1.S,room:=max 0 (t.room - (pn:Int)) }:Snd.S)=_
  rw [hSo,hS1]
  rfl
 have hok4:t3.ok n:=by
  have hp4:Snd.Ok n t3.S:=by rw [hS3]; exact hok3
  rw [←ht3e] at hp4 ⊢
  exact ⟨ho',hf1,ht.ways,ht.tims,ht.sets,ht.marks,ht.lives,ht.owed,ht.own,hp4⟩
 have hR3:t3.R=t.R:=by rw [←ht3e]
 have hwl3:t3.ws.length=t.ws.length:=by rw [←ht3e]
 rw [ht3e]
 rw [←hS3] at hfr2
 clear c0 c1 c2 c3 c4 c5 c6 c7 c8 c9 c10 c11 c12 c13 c14
 refine SPY ?_; repeat' (first|refine ⟨fun hc=>?_,fun hc=>?_⟩|intro)
 refine WL.e rfl (Ef.callR (by exact rfl) (.nil _) (dneed_tr _ pn (by omega))) ?_
 rintro _ _ ⟨rfl,rfl⟩
 have hnr:=(Snd.need_le (n:=pn)).1
 have hn20:=Snd.need20 (n:=pn) (by omega)
 refine SPY ?_; repeat' (first|refine ⟨fun hc=>?_,fun hc=>?_⟩|intro)
 rw [i64_id (n:=xr - Snd.need pn) (by omega) (by omega)]
 obtain ⟨m,hme⟩:∃ m:DM,(⟨{ d with tsn:=Flt.newT t.S.f },da,dn,dc,db⟩:DM)=m:=⟨_,rfl⟩
 have hmo:m.ok:=by rw [←hme]; exact hdo
 have hmd:m.d={ d with tsn:=Flt.newT t.S.f }:=by rw [←hme]
 have hmb:m.bb=db:=by rw [←hme]
 have hol:=ho.len
 refine WL.e rfl (Ef.app (m:=1) (news:=m.cells) (hb:=o.hb) (by exact rfl) (by exact rfl) rfl rfl ho.row (.last (.there (.there (.right .here)))) (by rw [←hme]; exact Src.own (n:=7) (.here rfl)) rfl (dm_one' m) (by rw [flat_len' DM.cells 7 DM.len]; simp [DM.cells]; omega) (by rw [flat_len' DM.cells 7 DM.len]; simp [DM.cells,maxLen]; omega)) ?_
 rintro v' _ ⟨hb',hown',rfl⟩
 obtain ⟨ja,jn,jc,rfl,_,_⟩:=OwnS.shape hown'
 refine SPY ?_; repeat' (first|refine ⟨fun hc=>?_,fun hc=>?_⟩|intro)
 refine Fin.round ⟨j+1,xr - Snd.need pn,t3,⟨o.ds++[m],ja,jn,jc,hb'⟩⟩ ⟨hok4,hR3,hwl3.trans htwl,⟨by dsimp only; rw [List.flatMap_append]; simpa using hown',fun q hq=>?_⟩,by dsimp only; rw [List.length_append,hoj]; rfl,by dsimp only; omega,?_⟩ envA (fun _ h=>?_) (by dsimp only; omega)
 · rcases List.mem_append.1 hq with hq | hq
   · exact ho.own q hq
   · rw [List.mem_singleton.1 hq]; exact hmo
 · have e:OuM.L ⟨o.ds++[m],ja,jn,jc,hb'⟩=o.L++[{ d with tsn:=Flt.newT t.S.f }]:=by unfold OuM.L; dsimp only; rw [List.map_append,←hmd]; rfl
   dsimp only
   rw [e]
   exact hfr2
 · have e:OuM.bb ⟨o.ds++[m],ja,jn,jc,hb'⟩=o.bb++db:=by unfold OuM.bb; dsimp only; rw [List.flatMap_append,←hmb]; simp
   dsimp only
   rw [e,List.append_assoc]
   exact In.of_sub (.pickL (L:=hb') .here (.pickL (L:=o.bb) (.there (.there (.right .here))) (.pickL (L:=db) (.there (.there .here)) (.last (L:=t3.H) (.there (.there .all)))))) h
end Go.Proofs.YtlfpemmdehmbfaaGreat
namespace Go.Snd
open Go Go.Pth
def Pc (d:Flt.Dt):Prop:=(0≤d.tsn∧d.tsn < 4294967296)∧d.bs≠[]∧d.bs.length≤1500
theorem trySome_some {step:S→Nat→Option Go1} {I:S→Prop} (hstep:∀ s k g,I s→step s k=some g→I g.s) {now:Int}:∀ {l:List Nat} {s s':S} {k:Nat} {o:List Flt.Dt},I s→trySome step now l s=(s',some (k,o))→
 ∃ s0 g,I s0∧k ∈ l∧step s0 k=some g∧g.out=o∧o≠[]∧s'=run g.s k now
 | [],_,_,_,_,_,h=>by cases h
 | j::l,s,s',k,o,hI,h=>by
   rw [trySome] at h
   split at h
   · obtain ⟨s0,g,h1,h2,h3⟩:=trySome_some hstep hI h
     exact ⟨s0,g,h1,List.mem_cons_of_mem _ h2,h3⟩
   · rename_i g hg
     split at h
     · obtain ⟨s0,g',h1,h2,h3⟩:=trySome_some hstep (hstep s j g hI hg) h
       exact ⟨s0,g',h1,List.mem_cons_of_mem _ h2,h3⟩
     · rename_i ho
       cases h
       exact ⟨s,g,hI,List.mem_cons_self,hg,rfl,ho,rfl⟩
theorem trySome_inv {step:S→Nat→Option Go1} {I:S→Prop} (hstep:∀ s k g,I s→step s k=some g→I g.s) {now:Int}:∀ {l:List Nat} {s s':S},I s→trySome step now l s=(s',none)→I s'
 | [],_,_,hI,h=>by cases h; exact hI
 | j::l,s,s',hI,h=>by
   rw [trySome] at h
   split at h
   · exact trySome_inv hstep hI h
   · rename_i g hg
     split at h
     · exact trySome_inv hstep (hstep s j g hI hg) h
     · cases h
def needS (o:List Flt.Dt):Int:=(o.map (fun d=>need d.bs.length)).sum
theorem needS_snoc (o:List Flt.Dt) (d:Flt.Dt):needS (o++[d])=needS o+need d.bs.length:=by unfold needS; rw [List.map_append,List.sum_append]; simp
theorem needS_len:∀ {o:List Flt.Dt},(∀ d ∈ o,d.bs≠[])→20 * (o.length:Int)≤needS o
 | [],_=>by simp [needS]
 | d::o,h=>by
   have h1:=needS_len (o:=o) (fun q hq=>h q (List.mem_cons_of_mem _ hq))
   have h2:1≤d.bs.length:=List.length_pos_iff.2 (h d List.mem_cons_self)
   have h3:=need20 h2
   have e:needS (d::o)=need d.bs.length+needS o:=by unfold needS; rw [List.map_cons,List.sum_cons]
   rw [e,List.length_cons]
   omega
structure GoI (n:Nat) (M:Int) (x:Go1):Prop where
 ok:Ok n x.s
 pc:∀ d ∈ x.out,Pc d
 mtu:x.s.mtu=M
 sum:needS x.out+x.room=M - 12
 room:0≤x.room
theorem getD_pc {f:Flt.S} (h:FOk f) {t:Int} {d:Flt.Dt} {p:Int} (hg:Flt.getD f t=some (d,p)):Pc d:=by
 have h2:=(getD_rng h hg).2
 unfold Flt.getD at hg
 split at hg
 · rename_i i _
   cases hr:f.L[i]? with
   | none=>rw [hr] at hg; cases hg
   | some r=>
     rw [hr] at hg
     cases hg
     exact ⟨by show 0≤r.tsn∧r.tsn < _; rw [h.g.tsn i r hr]; exact Flt.u32_mod _,h.g.bs i r hr,h2⟩
 · cases hg
theorem again1_pc {n k:Nat} {M now:Int} {x:Go1 × Bool} (h:GoI n M x.1) (t:Int):GoI n M (again1 k now x t).1:=by
 have hok:=again1_ok (k:=k) (now:=now) h.ok t
 unfold again1 at hok ⊢
 split
 · exact h
 · rename_i hx
   split
   · exact h
   · rename_i d was hg
     split
     · exact h
     · split
       · exact h
       · rename_i h1 h2
         simp only [hx,hg,if_neg h1,if_neg h2] at hok
         simp only [Bool.or_eq_true,decide_eq_true_eq,not_or] at h2
         refine ⟨hok,fun q hq=>?_,h.mtu,?_,?_⟩
         · rcases List.mem_append.1 hq with hq | hq
           · exact h.pc q hq
           · rw [List.mem_singleton.1 hq]; exact getD_pc h.ok.f hg
         · have:=h.sum
           dsimp only
           rw [needS_snoc]
           omega
         · dsimp only; omega
theorem again_pcf {n k:Nat} {M now:Int}:∀ (l:List Int) {x:Go1 × Bool},GoI n M x.1→GoI n M (l.foldl (again1 k now) x).1
 | [],_,h=>h
 | t::l,_,h=>again_pcf l (again1_pc h t)
theorem again_pc {n:Nat} {s:S} (h:Ok n s) (k:Nat) (now:Int):GoI n s.mtu (again s k now):=by
 have:=h.mtu
 exact again_pcf _ ⟨h,fun _ hd=>(by cases hd),rfl,(by show needS []+(s.mtu - 12)=s.mtu - 12; simp [needS]),(by show 0≤s.mtu - 12; omega)⟩
theorem fresh1_pc {n k:Nat} {M now:Int} {g:Go1} (h:GoI n M g) (hs:stops g.s k g.room=false):GoI n M (fresh1 k now g):=by
 have hok:=fresh1_ok (k:=k) (now:=now) h.ok
 have hst:=stops_false hs
 obtain ⟨d,id,q',hn,hl,hb⟩:=fresh_next h.ok hst.1
 have hr:=piece_rng h.ok
 rw [fresh1_at hn] at hok ⊢
 refine ⟨hok,fun q hq=>?_,h.mtu,?_,?_⟩
 · rcases List.mem_append.1 hq with hq | hq
   · exact h.pc q hq
   · rw [List.mem_singleton.1 hq]
     exact ⟨Flt.u32_mod _,hb,by dsimp only; omega⟩
 · have:=h.sum
   dsimp only
   rw [needS_snoc]
   dsimp only
   rw [hl]
   omega
 · have:=hst.2.1
   dsimp only
   omega
theorem freshN_pc {n k:Nat} {M now:Int}:∀ (m:Nat) {g:Go1},GoI n M g→GoI n M (freshN k now m g)
 | 0,_,h=>h
 | m+1,g,h=>by
   rw [freshN]
   split
   · exact h
   · rename_i hs
     exact freshN_pc m (fresh1_pc h (Bool.not_eq_true _ ▸ hs))
theorem fresh_pc {n:Nat} {s:S} (h:Ok n s) (k:Nat) (now:Int):GoI n s.mtu (fresh s k now):=by
 have:=h.mtu
 exact freshN_pc 100 ⟨h,fun _ hd=>(by cases hd),rfl,(by show needS []+(s.mtu - 12)=s.mtu - 12; simp [needS]),(by show 0≤s.mtu - 12; omega)⟩
theorem next_some {n:Nat} {s s':S} (h:Ok n s) {now:Int} {k:Nat} {o:List Flt.Dt} (hn:next s now=(s',some (k,o))) :
 ∃ s0 g,(Ok n s0∧s0.mtu=s.mtu)∧k < s.ws.length∧(g=again s0 k now∨g=fresh s0 k now)∧g.out=o∧o≠[]∧s'=run g.s k now:=by
 have ha:∀ s0 k g,(Ok n s0∧s0.mtu=s.mtu)→(fun s k=>some (again s k now)) s0 k=some g→Ok n g.s∧g.s.mtu=s.mtu:=fun s0 k g h0 hg=>by
  cases hg
  have:=again_pc h0.1 k now
  exact ⟨this.ok,this.mtu.trans h0.2⟩
 unfold next at hn
 split at hn
 · rename_i s1 r h1
   cases hn
   obtain ⟨s0,g,a,b,c,d,e,f⟩:=trySome_some (I:=fun s0=>Ok n s0∧s0.mtu=s.mtu) ha ⟨h,rfl⟩ h1
   cases c
   exact ⟨s0,_,a,List.mem_range.1 b,.inl rfl,d,e,f⟩
 · rename_i s1 h1
   have hs1:=trySome_inv (I:=fun s0=>Ok n s0∧s0.mtu=s.mtu) ha ⟨h,rfl⟩ h1
   obtain ⟨s0,g,a,b,c,d,e,f⟩:=trySome_some (I:=fun s0=>Ok n s0∧s0.mtu=s.mtu) (fun s0 k g hs hg=>by
    split at hg
    · cases hg
      have:=fresh_pc hs.1 k now
      exact ⟨this.ok,this.mtu.trans hs.2⟩
    · cases hg) hs1 hn
   split at c
   · cases c
     exact ⟨s0,_,a,List.mem_range.1 b,.inr rfl,d,e,f⟩
   · cases c
theorem next_pc {n:Nat} {s s':S} (h:Ok n s) {now:Int} {k:Nat} {o:List Flt.Dt} (hn:next s now=(s',some (k,o))):k < s.ws.length∧o≠[]∧(∀ d ∈ o,Pc d)∧needS o≤s.mtu - 12∧o.length≤75:=by
 obtain ⟨s0,g,⟨a,a'⟩,b,c,d,e,_⟩:=next_some h hn
 have hg:GoI n s0.mtu g:=by
  rcases c with rfl | rfl
  · exact again_pc a k now
  · exact fresh_pc a k now
 have h1:=hg.sum
 have h2:=hg.room
 have h3:=needS_len (o:=g.out) (fun q hq=>(hg.pc q hq).2.1)
 have h4:=h.mtu
 rw [d] at h1 h3
 rw [a'] at h1
 exact ⟨b,e,by rw [←d]; exact hg.pc,by omega,by omega⟩
end Go.Snd
