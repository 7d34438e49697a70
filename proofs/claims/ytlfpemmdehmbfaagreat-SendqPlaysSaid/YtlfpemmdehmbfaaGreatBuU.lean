/- Some texts as one. The document's sender: what is to be forwarded, and when something is to be done: walked. Conditions: it is well formed. The document's sender: when something is to be done: walked. Conditions: it is well formed. The document's sender, begun: walked. No conditions. The document's flight of pieces: may, told, walked: they answer as the plain functions do. Conditions: it is well formed; the gaps can be read. The document's flight of pieces: what an acknowledgement writes, cell by cell, in plain Lean. No conditions: laws. -/
import Derived.Test.YtlfpemmdehmbfaaGreatBuD
import Derived.Test.YtlfpemmdehmbfaaGreatBuT
import Derived.Test.YtlfpemmdehmbfaaGreatBuP
import Derived.Test.YtlfpemmdehmbfaaGreatBuO
import Derived.Test.YtlfpemmdehmbfaaGreatBuM
namespace Go.Proofs.YtlfpemmdehmbfaaGreat
open Go Go.Sl Go.Pth
def DDueQ (s:DsM) (o:Option ((Int × List Rm.Sk) × Int)) (v:Value) (H:HL):Prop:=match o with
 | none=>v=tup [.agg [.int .u32 0,.slice none 0 0].toArray,.int .i64 0,.bool false]∧H=s.H
 | some ((y,sk),a)=>∃ (ka:Option Addr) (kn kc:Nat) (kb:HL),v=tup [.agg [.int .u32 y,.slice ka kn kc].toArray,.int .i64 a,.bool true]∧OwnS 239 2 (sk.flatMap skC) (.slice ka kn kc) kb∧H=kb++s.H
set_option maxHeartbeats 4000000 in
theorem ddue_tr (F:Nat→Option Obj) {n:Nat} (s:DsM) (hs:s.ok n):Tr Tryz.prog 52 [ptr s.R].toArray F s.H (DDueQ s (Snd.due s.S)):=by
 refine Tr.enter Tryz.func52 rfl Tryz.ntmps52 rfl (fun w0=>?_)
 obtain ⟨c0,c1,c2,c3,c4,c5,c6,c7,c8,c9,c10,c11,c12,c13,c14⟩:=s.cans (F:=F)
 have hfew:=hs.pl.f.g.few
 have hcr:0≤s.f.c∧s.f.c < 4294967296:=hs.pl.f.g.c
 refine SPX ?_; repeat' (first|refine ⟨fun hc=>?_,fun hc=>?_⟩|intro)
 rename_i b2
 refine WL.e rfl (Ef.call (c:=s.f.H) (by exact rfl) (.skip _ s.flP.sub) (rpoint_tr _ s.f hs.f hs.small hcr)) ?_
 rintro _ _ ⟨_,⟨sa,sn,sc,hb,ds,rfl,hown,hds,hdd,rfl⟩,rfl⟩
 dsimp only [tup]
 refine WL.weak (H':=(b2,.cells [.int .u32 0,.slice none 0 0].toArray 57 (0,0))::(hb++(ds.flatMap DM.bb++s.H))) (fun _ h=>?_) ?_
 · refine h.perm (List.perm_middle.trans ?_)
   rw [List.append_assoc,List.append_assoc]
   exact (((s.flE (f':=s.f) rfl).append_left _).append_left _).cons _
 have hdl:ds.length=sn:=by have:=OwnS.len hown; rw [flat_len' DM.cells 7 DM.len] at this; omega
 have hsn:sn≤3000:=by
  have h1:ds.length=(Flt.ptL s.f.S.L).length:=by rw [←hdd,List.length_map]
  have h2:(Flt.ptL s.f.S.L).length≤s.f.S.L.length:=by unfold Flt.ptL; rw [List.length_map]; exact (List.takeWhile_sublist _).length_le
  have h3:s.S.f.L.length=s.f.S.L.length:=rfl
  omega
 have hrg:∀ m ∈ ds,0≤m.d.tsn∧m.d.tsn < 4294967296:=fun m hm=>Snd.ptL_rng hs.pl.f.g m.d (by
  show m.d ∈ Flt.ptL s.f.S.L
  rw [←hdd]
  exact List.mem_map.2 ⟨m,hm,rfl⟩)
 refine SPX ?_; repeat' (first|refine ⟨fun hc=>?_,fun hc=>?_⟩|intro)
 refine WL.e rfl (Ef.callR (c:=s.f.H) (by exact rfl) (.skip _ (.skipL hb (.skipL (ds.flatMap DM.bb) s.flP.sub))) (rcum_tr _ s.f)) ?_
 rintro _ _ ⟨rfl,rfl⟩
 refine SPX ?_; repeat' (first|refine ⟨fun hc=>?_,fun hc=>?_⟩|intro)
 refine WL.e rfl (Ef.look (by exact rfl) (fun F' hF=>dmake_tr F' s.f.c ds sa sn sc ((Lst.own (F:=F) (H:=hb) hown (fun _ h=>h)).mono (fun w h=>(hF w h).sublist (.cons _ (List.sublist_append_left _ _)))) hsn hrg)) ?_
 rintro _ _ ⟨H1,hq,rfl⟩
 rw [hdd] at hq
 have hdue:Snd.due s.S=match Snd.make s.f.c (Flt.ptL s.f.S.L) with | none=>none | some f=>some (f,if s.told && decide (s.cum=f.1) then s.at_+Snd.valueW s.S s.by_ else 0):=rfl
 rw [hdue]
 cases hmk:Snd.make s.f.c (Flt.ptL s.f.S.L) with
 | none=>
   rw [hmk] at hq
   obtain ⟨rfl,rfl⟩:=hq
   dsimp only [tup]
   refine SPX ?_; repeat' (first|refine ⟨fun hc=>?_,fun hc=>?_⟩|intro)
   refine Fin.retW (by exact rfl) resA (H':=s.H) (fun _ h=>In.of_sub (.last (.there (.there (.right (.right .all))))) h) ⟨rfl,rfl⟩
 | some f=>
   obtain ⟨y,sk⟩:=f
   rw [hmk] at hq
   obtain ⟨ka,kn,kc,rfl,hkown⟩:=hq
   dsimp only [tup]
   cases htold:s.told with
   | false=>
     rw [htold] at c11
     refine SPX ?_; repeat' (first|refine ⟨fun hc=>?_,fun hc=>?_⟩|intro)
     exact Fin.retW (by exact rfl) resA (H':=H1++s.H) (fun _ h=>In.of_sub (.pickL (L:=H1) (.there .here) (.last (.there (.there (.right (.right .all)))))) h) ⟨ka,kn,kc,H1,rfl,hkown,rfl⟩
   | true=>
     rw [htold] at c11
     have hby:=hs.pl.by_
     have hwn:=hs.pn
     have hSl:s.S.ws.length=s.ws.length:=by simp [DsM.S]
     obtain ⟨j,hj⟩:∃ j:Nat,s.by_=(j:Int):=⟨s.by_.toNat,by have:=hby.1; show s.by_=_; have:0≤s.by_:=this; omega⟩
     have hby2:s.by_ < s.ws.length:=by rw [←hSl]; exact hby.2
     obtain ⟨m,hm,hmS,hkn2,_,_,_⟩:=DsM.wayAt hs (k:=j) (by omega)
     obtain ⟨b,off,hpa,hel⟩:=hs.prow
     have hcan:=hel F j m hm
     have hval:=(hs.way hm).value
     have hat:=hs.pl.at_
     have hat2:0≤s.at_∧s.at_≤2305843009213693952:=hat
     have hv:Snd.valueW s.S (j:Int)=m.p.s.r.value:=by unfold Snd.valueW; rw [show ((j:Int)).toNat=j from rfl,hmS]; rfl
     have hval2:1≤m.p.s.r.value∧m.p.s.r.value≤1048576:=hval
     rw [hj] at c14
     rw [hpa] at c2
     rw [hj,hv]
     clear hel
     refine SPY ?_; repeat' (first|refine ⟨fun hc=>?_,fun hc=>?_⟩|intro)
     rename_i b7
     refine W.drawA ?_
     refine SPY ?_; repeat' (first|refine ⟨fun hc=>?_,fun hc=>?_⟩|intro)
     · have hcy:¬ s.cum=y:=by simpa using hc
       refine Fin.retW (by exact rfl) resA (H':=H1++s.H) (fun _ h=>In.of_sub (.pickL (L:=H1) (.there .here) (.last (.there (.there (.right (.right .all)))))) h) ⟨ka,kn,kc,H1,?_,hkown,rfl⟩
       simp [hcy]
     · have hcy:s.cum=y:=by simpa using hc
       refine W.draw ((b7,.cells [.int .u32 y,.slice ka kn kc].toArray 57 (0,0))::(H1++(hb++(ds.flatMap DM.bb++s.H)))) (by kernel_rfl) (by kernel_rfl) (fun _ h=>h.sublist (.cons_cons _ ((List.Sublist.refl H1).append (.cons _ (List.Sublist.refl _))))) ?_
       refine SPY ?_; repeat' (first|refine ⟨fun hc=>?_,fun hc=>?_⟩|intro)
       refine WD.e rfl (Ef.callR (by exact rfl) (.skip _ (.skipL H1 (.skip _ (.skipL hb (.skipL (ds.flatMap DM.bb) (DsM.paP hm).sub))))) (drto_tr _ m.p)) ?_
       rintro _ _ ⟨rfl,rfl⟩
       refine ⟨.inr (fun _ h=>h.sublist (.cons_cons _ ((List.Sublist.refl H1).append (.cons _ (List.Sublist.refl _))))),?_⟩
       refine SPZ ?_; repeat' (first|refine ⟨fun hc=>?_,fun hc=>?_⟩|intro)
       refine WD.e0 (Ef.sta rfl rfl rfl rfl (.there (.right (.here rfl)))) ?_
       rintro _ _ ⟨rfl,rfl⟩
       refine ⟨.inr (fun _ h=>h.sublist (.cons_cons _ ((List.Sublist.refl H1).append (.cons _ (List.Sublist.refl _))))),?_⟩
       refine SPY ?_; repeat' (first|refine ⟨fun hc=>?_,fun hc=>?_⟩|intro)
       rw [i64_id (by omega) (by omega)]
       refine Fin.retW (by exact rfl) resA (H':=H1++s.H) (fun _ h=>In.of_sub (.pickL (L:=H1) (.there .here) (.last (.there (.there (.right (.right .all)))))) h) ⟨ka,kn,kc,H1,?_,hkown,rfl⟩
       rw [hcy]
       simp
def DFwdQ (n:Nat) (s:DsM) (r:Snd.S × Option (Int × List Rm.Sk × Nat)) (v:Value) (H:HL):Prop:=match r with
 | (S',none)=>v=tup [.agg [.int .u32 0,.slice none 0 0].toArray,.int .i64 0,.bool false]∧∃ s':DsM,s'.ok n∧s'.R=s.R∧s'.S=S'∧H=s'.H
 | (S',some (y,sk,b))=>∃ (ka:Option Addr) (kn kc:Nat) (kb:HL) (s':DsM),v=tup [.agg [.int .u32 y,.slice ka kn kc].toArray,.int .i64 b,.bool true]∧OwnS 239 2 (sk.flatMap skC) (.slice ka kn kc) kb∧s'.ok n∧s'.R=s.R∧s'.S=S'∧H=kb++s'.H
set_option maxHeartbeats 4000000 in
theorem dfwd_tr (F:Nat→Option Obj) {n:Nat} (s:DsM) (hs:s.ok n) (now:Int):Tr Tryz.prog 42 [ptr s.R,.int .i64 now].toArray F s.H (DFwdQ n s (Snd.forward s.S now)):=by
 refine Tr.enter Tryz.func42 rfl Tryz.ntmps42 rfl (fun w0=>?_)
 refine SPY ?_; repeat' (first|refine ⟨fun hc=>?_,fun hc=>?_⟩|intro)
 rename_i b4
 refine WL.e rfl (Ef.call (c:=s.H) (by exact rfl) (.skip _ (.all _)) (ddue_tr _ s hs)) ?_
 rintro _ _ ⟨_,hq,rfl⟩
 cases hd:Snd.due s.S with
 | none=>
   have hf:Snd.forward s.S now=(s.S,none):=by unfold Snd.forward; rw [hd]
   rw [hd] at hq
   rw [hf]
   obtain ⟨rfl,rfl⟩:=hq
   dsimp only [tup]
   refine SPY ?_; repeat' (first|refine ⟨fun hc=>?_,fun hc=>?_⟩|intro)
   exact Fin.retW (by exact rfl) resA (H':=s.H) (fun _ h=>In.of_sub (.last (.there .here)) h) ⟨rfl,s,hs,rfl,rfl,rfl⟩
 | some f=>
   obtain ⟨⟨y,sk⟩,a⟩:=f
   rw [hd] at hq
   obtain ⟨ka,kn,kc,kb,rfl,hown,rfl⟩:=hq
   have hf:Snd.forward s.S now=if a > Snd.clock now then (s.S,none) else ({ s.S with told:=true,cum:=y,at_:=Snd.clock now,by_:=(Snd.nextW s.S s.by_.toNat:Nat) },some (y,Snd.cutSk sk (s.mtu - 20),Snd.nextW s.S s.by_.toNat)):=by unfold Snd.forward; rw [hd]; rfl
   have hok:=Snd.forward_ok hs.pl now
   rw [hf] at hok ⊢
   dsimp only [tup]
   refine WL.weak (H':=(b4,.cells [.int .u32 0,.slice none 0 0].toArray 57 (0,0))::(kb++s.H)) (fun _ h=>In.of_sub (.pick (.right .here) (.last .here)) h) ?_
   refine SPY ?_; repeat' (first|refine ⟨fun hc=>?_,fun hc=>?_⟩|intro)
   rename_i b7
   refine WL.e rfl (Ef.callR (by exact rfl) (.nil _) (dclock_tr _ now)) ?_
   rintro _ _ ⟨rfl,rfl⟩
   refine SPY ?_; repeat' (first|refine ⟨fun hc=>?_,fun hc=>?_⟩|intro)
   · have hgt:=of_decide_eq_true hc
     rw [if_pos hgt]
     exact Fin.retW (by exact rfl) resA (H':=s.H) (fun _ h=>In.of_sub (.last (.there (.there (.right .all)))) h) ⟨rfl,s,hs,rfl,rfl,rfl⟩
   have hle:=of_decide_eq_false hc
   rw [if_neg hle] at hok ⊢
   dsimp only at hok
   refine SPZ ?_; repeat' (first|refine ⟨fun hc=>?_,fun hc=>?_⟩|intro)
   refine WL.e0 (Ef.st rfl rfl rfl (.there (.there (.right (DsM.put (s':={ s with told:=true }) rfl rfl (off:=0+11) (vs:=[.bool true]) rfl))))) ?_
   rintro _ _ ⟨rfl,rfl⟩
   refine SPZ ?_; repeat' (first|refine ⟨fun hc=>?_,fun hc=>?_⟩|intro)
   refine WL.e0 (Ef.st rfl rfl rfl (.there (.there (.right (DsM.put (s:={ s with told:=true }) (s':={ s with told:=true,cum:=y }) rfl rfl (off:=0+12) (vs:=[.int .u32 y]) rfl))))) ?_
   rintro _ _ ⟨rfl,rfl⟩
   refine SPZ ?_; repeat' (first|refine ⟨fun hc=>?_,fun hc=>?_⟩|intro)
   refine WL.e rfl (Ef.callR (by exact rfl) (.nil _) (dclock_tr _ now)) ?_
   rintro _ _ ⟨rfl,rfl⟩
   refine SPZ ?_; repeat' (first|refine ⟨fun hc=>?_,fun hc=>?_⟩|intro)
   refine WL.e0 (Ef.st rfl rfl rfl (.there (.there (.right (DsM.put (s:={ s with told:=true,cum:=y }) (s':={ s with told:=true,cum:=y,at_:=Snd.clock now }) rfl rfl (off:=0+13) (vs:=[.int .i64 (Snd.clock now)]) rfl))))) ?_
   rintro _ _ ⟨rfl,rfl⟩
   obtain ⟨u,hu⟩:∃ u:DsM,u={ s with told:=true,cum:=y,at_:=Snd.clock now }:=⟨_,rfl⟩
   have huR:u.R=s.R:=by rw [hu]
   have huB:u.by_=s.by_:=by rw [hu]
   have huM:u.mtu=s.mtu:=by rw [hu]
   have huS:u.S={ s.S with told:=true,cum:=y,at_:=Snd.clock now }:=by rw [hu]; rfl
   have huo:u.ok n:=by
    rw [hu]
    exact ⟨hs.q,hs.f,hs.ways,hs.tims,hs.sets,hs.marks,hs.lives,hs.owed,hs.own,{ hs.pl with cum:=hok.cum,at_:=hok.at_ }⟩
   have hby:=hs.pl.by_
   have hnws:=hs.nws
   have hSl:s.S.ws.length=s.ws.length:=by simp [DsM.S]
   have hby1:0≤s.by_:=hby.1
   have hby2:s.by_ < s.ws.length:=by rw [←hSl]; exact hby.2
   obtain ⟨j,hj⟩:∃ j:Nat,s.by_=(j:Int):=⟨s.by_.toNat,by omega⟩
   rw [←hu]
   have c14:Sl.Can F u.H s.R (0+14) [.int .i64 (j:Int)]:=by rw [←huR,←hj,←huB]; exact (u.cans (F:=F)).2.2.2.2.2.2.2.2.2.2.2.2.2.2
   have hT:=fun F'=>dnext_tr F' u huo j (by omega)
   rw [huR] at hT
   refine SPZ ?_; repeat' (first|refine ⟨fun hc=>?_,fun hc=>?_⟩|intro)
   refine WL.e rfl (Ef.callR (c:=u.H) (by exact rfl) (.skip _ (.skip _ (.last (.right .all)))) (hT _)) ?_
   clear hT c14
   rintro _ _ ⟨rfl,rfl⟩
   have hnx:Snd.nextW u.S j=Snd.nextW s.S s.by_.toNat:=by rw [huS,hj]; rfl
   rw [hnx]
   obtain ⟨q,hq⟩:∃ q,Snd.nextW s.S s.by_.toNat=q:=⟨_,rfl⟩
   rw [hq] at hok ⊢
   refine SPZ ?_; repeat' (first|refine ⟨fun hc=>?_,fun hc=>?_⟩|intro)
   refine WL.e0 (Ef.st rfl rfl rfl (.there (.there (.right (by rw [←huR]; exact DsM.put (s:=u) (s':={ u with by_:=q }) rfl rfl (off:=0+14) (vs:=[.int .i64 q]) rfl))))) ?_
   rintro _ _ ⟨rfl,rfl⟩
   obtain ⟨r,hr⟩:∃ r:DsM,r={ u with by_:=q }:=⟨_,rfl⟩
   have hrR:r.R=s.R:=by rw [hr]; exact huR
   have hrS:r.S={ s.S with told:=true,cum:=y,at_:=Snd.clock now,by_:=q }:=by rw [hr,hu]; rfl
   have hro:r.ok n:=by
    rw [hr]
    exact ⟨huo.q,huo.f,huo.ways,huo.tims,huo.sets,huo.marks,huo.lives,huo.owed,huo.own,by show Snd.Ok n { u.S with by_:=q }; rw [huS]; exact hok⟩
   have hrM:r.mtu=s.mtu:=by rw [hr]; exact huM
   rw [←hr]
   have hmtu:128≤s.mtu∧s.mtu≤1500:=hs.pl.mtu
   have c8:Sl.Can F r.H s.R (0+8) [.int .i64 s.mtu]:=by rw [←hrR,←hrM]; exact (r.cans (F:=F)).2.2.2.2.2.2.2.2.1
   have c14:Sl.Can F r.H s.R (0+14) [.int .i64 (q:Int)]:=by rw [←hrR]; have:=(r.cans (F:=F)).2.2.2.2.2.2.2.2.2.2.2.2.2.2; rw [hr] at this ⊢; exact this
   refine SPZ ?_; repeat' (first|refine ⟨fun hc=>?_,fun hc=>?_⟩|intro)
   refine W.drawA ?_
   refine SPZ ?_; repeat' (first|refine ⟨fun hc=>?_,fun hc=>?_⟩|intro)
   rw [i64_id (n:=s.mtu - 20) (by omega) (by omega)]
   have hskl:=Snd.due_len hd
   have hfew:=hs.pl.f.g.few
   refine WD.e rfl (Ef.look (by exact rfl) (fun F' hF=>dcut_tr F' y sk ka kn kc ((Lst.own (F:=F) (H:=kb) hown (fun _ h=>h)).mono (fun w h=>(hF w h).sublist (.cons _ (.cons _ (List.sublist_append_left _ _))))) (by omega) (s.mtu - 20) (by omega))) ?_
   rintro _ _ ⟨H1,⟨ja,jn,jc,rfl,hown'⟩,rfl⟩
   refine ⟨.inl (by kernel_rfl),?_⟩
   refine SPZ ?_; repeat' (first|refine ⟨fun hc=>?_,fun hc=>?_⟩|intro)
   refine WD.e0 (Ef.st rfl rfl rfl (.right (.here rfl))) ?_
   rintro _ _ ⟨rfl,rfl⟩
   refine ⟨.inl (by kernel_rfl),?_⟩
   refine SPZ ?_; repeat' (first|refine ⟨fun hc=>?_,fun hc=>?_⟩|intro)
   refine W.draw ((b7,.cells [.int .u32 y,.slice ja jn jc].toArray 57 (0,0))::(kb++r.H)) (by kernel_rfl) (by kernel_rfl) (fun _ h=>In.of_sub (.pick (.right .here) (.last (.right (.there .all)))) h) ?_
   refine SPZ ?_; repeat' (first|refine ⟨fun hc=>?_,fun hc=>?_⟩|intro)
   refine WD.e0 (Ef.sta rfl rfl rfl rfl (.right (.there (.here rfl)))) ?_
   rintro _ _ ⟨rfl,rfl⟩
   refine ⟨.inr (fun _ h=>In.of_sub (.pick (.right .here) (.last (.right (.there .all)))) h),?_⟩
   refine SPZ ?_; repeat' (first|refine ⟨fun hc=>?_,fun hc=>?_⟩|intro)
   refine Fin.retW (by exact rfl) resA (H':=H1++r.H) (fun _ h=>In.of_sub (.pickL (L:=H1) .here (.last (.there (.there (.right .all))))) h) ⟨ja,jn,jc,H1,r,rfl,hown',hro,hrR,hrS,rfl⟩
end Go.Proofs.YtlfpemmdehmbfaaGreat
namespace Go.Proofs.YtlfpemmdehmbfaaGreat
open Go Go.Sl Go.Pth
set_option maxHeartbeats 4000000 in
theorem dswhen_tr (F:Nat→Option Obj) {n:Nat} (s:DsM) (hs:s.ok n) (hln:n≤1000000):Tr Tryz.prog 17 [ptr s.R].toArray F s.H (fun v H=>v=tup [.int .i64 (Snd.when s.S),.bool true]∧H=s.H):=by
 refine Tr.enter Tryz.func17 rfl Tryz.ntmps17 rfl (fun w0=>?_)
 obtain ⟨c0,c1,c2,c3,c4,c5,c6,c7,c8,c9,c10,c11,c12,c13,c14⟩:=s.cans (F:=F)
 obtain ⟨b,off,hpa,hel⟩:=hs.prow
 obtain ⟨tb,toff,hta,htel⟩:=hs.trow
 have hwn:=hs.pn
 have hnws:=hs.nws
 have hSl:s.S.ws.length=s.ws.length:=by simp [DsM.S]
 obtain ⟨m0,hm0,hmS0,hkn0,_,_,_⟩:=DsM.wayAt hs (k:=0) (by omega)
 have hcan0:=hel F 0 m0 hm0
 rw [hpa] at c2
 rw [hta] at c3
 refine SPZ ?_; repeat' (first|refine ⟨fun hc=>?_,fun hc=>?_⟩|intro)
 refine WL.e rfl (Ef.callR (by exact rfl) (DsM.paP hm0).sub (dwhen_tr _ m0.p)) ?_
 rintro _ _ ⟨rfl,rfl⟩
 clear hcan0
 refine SPZ ?_; repeat' (first|refine ⟨fun hc=>?_,fun hc=>?_⟩|intro)
 refine W.loop (G:=GWn) (fun g=>[(0,ptr s.R),(4,.int .i64 ((s.S.ws.take g.i).foldl Snd.whenW m0.p.s.next)),(5,.int .i64 g.i)]) (fun _=>s.H) (fun g=>g.i≤s.pn) (fun g=>s.pn - g.i) ⟨0⟩ (Nat.zero_le _) envA (fun _ h=>h) ?_
 rintro ⟨i⟩ hi
 dsimp only at hi ⊢
 refine SPQ ?_; repeat' (first|refine ⟨fun hc=>?_,fun hc=>?_⟩|intro)
 cases hc:decide ((i:Int) < s.pn) with
 | true=>
   have hi':i < s.pn:=by have:=of_decide_eq_true hc; omega
   obtain ⟨m,hm,hmS,hkn,hkt,_,_⟩:=DsM.wayAt hs (k:=i) (by omega)
   have hcan:=hel F i m hm
   have hcat:=htel F i m hm
   have htim:=(hs.way hm).timer
   have htim2:-1≤m.timer:=htim.1
   have hsn:s.S.ws.take (i+1)=s.S.ws.take i++[m.W]:=by rw [List.take_add_one,hmS]; rfl
   clear hel htel
   obtain ⟨t,ht⟩:∃ t,(s.S.ws.take i).foldl Snd.whenW m0.p.s.next=t:=⟨_,rfl⟩
   have hfs:(s.S.ws.take (i+1)).foldl Snd.whenW m0.p.s.next=Snd.whenW t m.W:=by rw [hsn,List.foldl_append,ht]; rfl
   rw [ht]
   refine SPY ?_; repeat' (first|refine ⟨fun hc=>?_,fun hc=>?_⟩|intro)
   refine WL.e rfl (Ef.callR (by exact rfl) (DsM.paP hm).sub (dwhen_tr _ m.p)) ?_
   rintro _ _ ⟨rfl,rfl⟩
   refine SPY ?_; repeat' (first|refine ⟨fun hc=>?_,fun hc=>?_⟩|intro)
   · have htm:¬ m.timer=-1:=by have:=of_decide_eq_true hc; omega
     have e:(if m.timer < (if m.p.s.next < t then m.p.s.next else t) then m.timer else (if m.p.s.next < t then m.p.s.next else t))=Snd.whenW t m.W:=by
      unfold Snd.whenW
      show _=if m.timer=-1 then min t m.p.s.next else min (min t m.p.s.next) m.timer
      rw [if_neg htm,go_mn,go_mn]
     rw [e,←hfs,i64_succ (by omega)]
     exact Fin.round ⟨i+1⟩ hi' envA (fun _ h=>h) (by dsimp only; omega)
   · have htm:m.timer=-1:=by have:=of_decide_eq_false hc; omega
     have e:(if m.p.s.next < t then m.p.s.next else t)=Snd.whenW t m.W:=by
      unfold Snd.whenW
      show _=if m.timer=-1 then min t m.p.s.next else min (min t m.p.s.next) m.timer
      rw [if_pos htm,go_mn]
     rw [e,←hfs,i64_succ (by omega)]
     exact Fin.round ⟨i+1⟩ hi' envA (fun _ h=>h) (by dsimp only; omega)
 | false=>
 have hi':i=s.S.ws.length:=by have:=of_decide_eq_false hc; omega
 subst hi'
 rw [List.take_length]
 obtain ⟨t1,ht1⟩:∃ t1,s.S.ws.foldl Snd.whenW m0.p.s.next=t1:=⟨_,rfl⟩
 rw [ht1]
 clear hel htel
 have hll:=OwnS.len hs.lives
 rw [flat_len' lifeC 2 lifeC_len] at hll
 have hlf:s.lives.length≤n:=hs.pl.lfew
 refine SPZ ?_; repeat' (first|refine ⟨fun hc=>?_,fun hc=>?_⟩|intro)
 refine W.loop (G:=GWn) (fun g=>[(0,ptr s.R),(4,.int .i64 ((s.lives.take g.i).foldl (fun t x=>mn t x.til) t1)),(6,.int .i64 g.i)]) (fun _=>s.H) (fun g=>g.i≤s.ln) (fun g=>s.ln - g.i) ⟨0⟩ (Nat.zero_le _) envA (fun _ h=>h) ?_
 rintro ⟨i⟩ hi
 dsimp only at hi ⊢
 refine SPQ ?_; repeat' (first|refine ⟨fun hc=>?_,fun hc=>?_⟩|intro)
 cases hc:decide ((i:Int) < s.ln) with
 | true=>
   have hi':i < s.ln:=by have:=of_decide_eq_true hc; omega
   obtain ⟨x,hx⟩:∃ x,s.lives[i]? = some x:=⟨s.lives[i]'(by omega),List.getElem?_eq_getElem _⟩
   obtain ⟨lb,lo,hla,hcan⟩:=(Lst.own (F:=F) hs.lives (fun _ h=>h)).el lifeC_len hx (by omega)
   have hia:0≤(i:Int)∧(i:Int) < s.ln:=by omega
   have hcan':=(hcan.one (i:=1) rfl).mono (F':=F) (H':=s.H) (fun w h=>In.of_sub s.lvP.sub h)
   have hfs:(s.lives.take (i+1)).foldl (fun t x=>mn t x.til) t1=min ((s.lives.take i).foldl (fun t x=>mn t x.til) t1) x.til:=by rw [List.take_add_one,hx,List.foldl_append]; rfl
   rw [hla] at c9
   refine SPY ?_; repeat' (first|refine ⟨fun hc=>?_,fun hc=>?_⟩|intro)
   rw [go_mn,←hfs,i64_succ (by omega)]
   exact Fin.round ⟨i+1⟩ hi' envA (fun _ h=>h) (by dsimp only; omega)
 | false=>
 have hi':i=s.lives.length:=by have:=of_decide_eq_false hc; omega
 subst hi'
 rw [List.take_length]
 obtain ⟨t2,ht2⟩:∃ t2,s.lives.foldl (fun t x=>mn t x.til) t1=t2:=⟨_,rfl⟩
 rw [ht2]
 have hwhen:Snd.when s.S=match Snd.due s.S with | some (_,a)=>mn t2 a | none=>t2:=by
  rw [←ht2,←ht1]
  unfold Snd.when
  dsimp only
  rw [show s.S.lives=s.lives from rfl]
  cases hws:s.S.ws with
  | nil=>rw [hws] at hmS0; cases hmS0
  | cons w r=>rw [hws] at hmS0; cases hmS0; rfl
 refine SPZ ?_; repeat' (first|refine ⟨fun hc=>?_,fun hc=>?_⟩|intro)
 refine WL.e rfl (Ef.call (c:=s.H) (by exact rfl) (.all _) (ddue_tr _ s hs)) ?_
 rintro _ _ ⟨_,hq,rfl⟩
 rw [List.append_nil]
 cases hd:Snd.due s.S with
 | none=>
   rw [hd] at hq hwhen
   obtain ⟨rfl,rfl⟩:=hq
   dsimp only [tup] at hwhen ⊢
   refine SPY ?_; repeat' (first|refine ⟨fun hc=>?_,fun hc=>?_⟩|intro)
   exact Fin.retW (by exact rfl) resA (H':=s.H) (fun _ h=>h.sublist (.cons _ (List.Sublist.refl _))) ⟨by rw [hwhen]; rfl,rfl⟩
 | some f=>
   obtain ⟨⟨y,sk⟩,a⟩:=f
   rw [hd] at hq hwhen
   obtain ⟨ka,kn,kc,kb,rfl,hown,rfl⟩:=hq
   dsimp only [tup] at hwhen ⊢
   refine SPY ?_; repeat' (first|refine ⟨fun hc=>?_,fun hc=>?_⟩|intro)
   rw [go_mn]
   exact Fin.retW (by exact rfl) resA (H':=s.H) (fun _ h=>In.of_sub (.last (.there (.right .all))) h) ⟨by rw [hwhen]; rfl,rfl⟩
end Go.Proofs.YtlfpemmdehmbfaaGreat
namespace Go.Proofs.YtlfpemmdehmbfaaGreat
open Go Go.Sl Go.Pth
structure GNw where
 i:Nat
 ws:List DwM
 pa:Option Addr
 pn:Nat
 pc:Nat
 pb:HL
 ta:Option Addr
 tn:Nat
 tc:Nat
 tb:HL
 sa:Option Addr
 sn:Nat
 sc:Nat
 sb:HL
 ma:Option Addr
 mn:Nat
 mc:Nat
 mb:HL
def dnCells (q:DqM) (bf:Nat) (c:Cfg) (rwnd:Int) (g:GNw):List Value:=[ptr q.R,ptr bf,.slice g.pa g.pn g.pc,.slice g.ta g.tn g.tc,.slice g.sa g.sn g.sc,.slice g.ma g.mn g.mc,.int .i64 (Snd.roomR rwnd),.int .i64 (Snd.roomR rwnd),.int .i64 c.mtu,.slice none 0 0,.slice none 0 0,.bool false,.int .u32 0,.int .i64 0,.int .i64 (c.paths - 1)]
def dnH (q:DqM) (bf:Nat) (c:Cfg) (first:Int) (g:GNw):HL:=q.H++((FR.empty bf c.paths first).H++(g.tb++(g.sb++(g.mb++(g.pb++g.ws.flatMap (fun m=>m.p.H))))))
def dnM (bs:Nat) (q:DqM) (bf:Nat) (c:Cfg) (first rwnd:Int) (g:GNw):DsM:=⟨bs,q,FR.empty bf c.paths first,g.ws,g.pa,g.pn,g.pc,g.pb,g.ta,g.tn,g.tc,g.tb,g.sa,g.sn,g.sc,g.sb,g.ma,g.mn,g.mc,g.mb,Snd.roomR rwnd,Snd.roomR rwnd,c.mtu,[],none,0,0,[],[],none,0,0,[],false,0,0,c.paths - 1⟩
set_option maxHeartbeats 4000000 in
theorem dsnew_tr (F:Nat→Option Obj) (c:Cfg) (first rwnd now:Int) (hr:0≤rwnd):Tr Tryz.prog 7 [.agg c.cells.toArray,.int .u32 first,.int .u32 rwnd,.int .i64 now].toArray F [] (fun v H=>
 (c.sndMay now=false∧v=tup [.pointer none,.int .i64 1]∧H=[])∨(c.sndMay now=true∧∃ s:DsM,s.ok 0∧v=tup [ptr s.R,.int .i64 0]∧H=s.H∧s.S=c.sndNew first rwnd now)):=by
 refine Tr.enter Tryz.func7 rfl Tryz.ntmps7 rfl (fun w0=>?_)
 unfold Cfg.cells
 refine SPU ?_; repeat' (first|refine ⟨fun hc=>?_,fun hc=>?_⟩|intro)
 rename_i b4
 refine WL.e rfl (Ef.call (by exact rfl) (.nil _) (frnew_tr _ c.paths first)) ?_
 rintro _ _ ⟨_,(⟨hno,rfl,rfl⟩ | ⟨h1,bf,rfl,rfl⟩),rfl⟩
 · dsimp only [tup]
   refine SPU ?_; repeat' (first|refine ⟨fun hc=>?_,fun hc=>?_⟩|intro)
   exact Fin.retW (by exact rfl) resA (H':=[]) (fun _ h=>h.sublist (List.nil_sublist _)) (.inl ⟨by unfold Cfg.sndMay; rw [decide_eq_false hno]; rfl,rfl,rfl⟩)
 dsimp only [tup]
 refine SPU ?_; repeat' (first|refine ⟨fun hc=>?_,fun hc=>?_⟩|intro)
 refine WL.e rfl (Ef.call (by exact rfl) (.nil _) (donew_tr _ c.streams c.sroom)) ?_
 rintro _ _ ⟨_,(⟨hno,rfl,rfl⟩ | ⟨h2,o,ho,rfl,rfl,hoS⟩),rfl⟩
 · dsimp only [tup]
   refine SPU ?_; repeat' (first|refine ⟨fun hc=>?_,fun hc=>?_⟩|intro)
   exact Fin.retW (by exact rfl) resA (H':=[]) (fun _ h=>h.sublist (List.nil_sublist _)) (.inl ⟨by unfold Cfg.sndMay; rw [show Oq.may c.streams c.sroom=false from hno,Bool.false_and,Bool.and_false],rfl,rfl⟩)
 dsimp only [tup]
 refine SPU ?_; repeat' (first|refine ⟨fun hc=>?_,fun hc=>?_⟩|intro)
 rename_i bs
 have hrm:(if 1048576 < rwnd then (1048576:Int) else rwnd)=Snd.roomR rwnd:=by rw [Go.Pth.go_mn]; rfl
 rw [hrm]
 have hrr:0≤Snd.roomR rwnd∧Snd.roomR rwnd≤1048576:=by unfold Snd.roomR; rw [mn_eq]; omega
 rw [i64_id (n:=Snd.roomR rwnd) (by omega) (by omega),i64_id (n:=c.paths - 1) (by omega) (by omega)]
 refine W.loop (G:=GNw) (fun g=>[(3,.int .i64 now),(4,ptr b4),(14,ptr bs),(15,.int .i64 g.i)])
  (fun g=>(b4,.cells c.cells.toArray 23 (0,0))::((bs,.cells (dnCells o bf c rwnd g).toArray 51 (0,0))::dnH o bf c first g))
  (fun g=>(g.i:Int)≤c.paths∧g.ws.length=g.i∧OwnS 99 1 (g.ws.map (fun m=>ptr m.p.P)) (.slice g.pa g.pn g.pc) g.pb∧OwnS 2 1 (g.ws.map (fun m=>Value.int .i64 m.timer)) (.slice g.ta g.tn g.tc) g.tb∧OwnS 4 1 (g.ws.map (fun m=>Value.bool m.set)) (.slice g.sa g.sn g.sc) g.sb∧OwnS 24 1 (g.ws.map (fun m=>Value.int .u32 m.mark)) (.slice g.ma g.mn g.mc) g.mb∧∀ m ∈ g.ws,c.pathMay now=true∧m.W=Snd.way0 (c.pathNew now)) (fun g=>c.paths.toNat - g.i)
  ⟨0,[],none,0,0,[],none,0,0,[],none,0,0,[],none,0,0,[]⟩ ⟨by dsimp only; omega,rfl,.inl ⟨rfl,rfl,rfl⟩,.inl ⟨rfl,rfl,rfl⟩,.inl ⟨rfl,rfl,rfl⟩,.inl ⟨rfl,rfl,rfl⟩,fun m hm=>by cases hm⟩ envA (fun _ h=>?_) ?_
 · unfold Cfg.cells dnCells dnH
   exact In.of_sub (.pick (.there (.right (.right .here))) (.pick .here (.pickL (L:=o.H) .here (.last (L:=(FR.empty bf c.paths first).H) .here)))) h
 rintro ⟨i,ws,pa,pn,pc,pb,ta,tn,tc,tb,sa,sn,sc,sb,ma,mn,mc,mb⟩ ⟨hi,hwl,hownP,hownT,hownS,hownM,hws⟩
 dsimp only at hi hwl hownP hownT hownS hownM hws ⊢
 unfold Cfg.cells dnCells dnH
 dsimp only
 refine SPU ?_; repeat' (first|refine ⟨fun hc=>?_,fun hc=>?_⟩|intro)
 · have hi':(i:Int) < c.paths:=of_decide_eq_true hc
   have hlen:ws.length < 4:=by omega
   refine WL.e rfl (Ef.call (by exact rfl) (.nil _) (dpnew_tr _ c now)) ?_
   rintro _ _ ⟨_,(⟨hno,rfl,rfl⟩ | ⟨h3,m,rfl,rfl,hmS⟩),rfl⟩
   · dsimp only [tup]
     refine SPU ?_; repeat' (first|refine ⟨fun hc=>?_,fun hc=>?_⟩|intro)
     exact Fin.retW (by exact rfl) resA (H':=[]) (fun _ h=>h.sublist (List.nil_sublist _)) (.inl ⟨by unfold Cfg.sndMay; rw [hno,Bool.and_false,Bool.and_false],rfl,rfl⟩)
   dsimp only [tup]
   obtain ⟨mH,hmH⟩:∃ mH,m.H=mH:=⟨_,rfl⟩
   rw [hmH]
   refine SPU ?_; repeat' (first|refine ⟨fun hc=>?_,fun hc=>?_⟩|intro)
   refine WL.e rfl (Ef.app (m:=1) (news:=[ptr m.P]) (hb:=pb) (by exact rfl) (by exact rfl) rfl rfl hownP (.last (.there (.right (.there (.there (.right (.right (.right (.right (.right .here)))))))))) (Src.own (n:=1) (.here rfl)) rfl (by simp [Value.oneCell']) (by simp; omega) (by simp [maxLen]; omega)) ?_
   rintro v' _ ⟨pb',hownP',rfl⟩
   obtain ⟨ja,jn,jc,rfl,_,_⟩:=OwnS.shape hownP'
   refine SPU ?_; repeat' (first|refine ⟨fun hc=>?_,fun hc=>?_⟩|intro)
   refine WL.e rfl (Ef.app (m:=1) (news:=[.int .i64 (-1)]) (hb:=tb) (by exact rfl) (by exact rfl) rfl rfl hownT (.last (.there (.right (.there (.right (.there (.there (.right (.right .here))))))))) (Src.own (n:=1) (.here rfl)) rfl (by simp [Value.oneCell']) (by simp; omega) (by simp [maxLen]; omega)) ?_
   rintro v' _ ⟨tb',hownT',rfl⟩
   obtain ⟨ka,kn,kc,rfl,_,_⟩:=OwnS.shape hownT'
   refine SPU ?_; repeat' (first|refine ⟨fun hc=>?_,fun hc=>?_⟩|intro)
   refine WL.e rfl (Ef.app (m:=1) (news:=[.bool false]) (hb:=sb) (by exact rfl) (by exact rfl) rfl rfl hownS (.last (.there (.right (.there (.right (.there (.right (.there (.there (.right (.right .here))))))))))) (Src.own (n:=1) (.here rfl)) rfl (by simp [Value.oneCell']) (by simp; omega) (by simp [maxLen]; omega)) ?_
   rintro v' _ ⟨sb',hownS',rfl⟩
   obtain ⟨la,ln,lc,rfl,_,_⟩:=OwnS.shape hownS'
   refine SPU ?_; repeat' (first|refine ⟨fun hc=>?_,fun hc=>?_⟩|intro)
   refine WL.e rfl (Ef.app (m:=1) (news:=[.int .u32 0]) (hb:=mb) (by exact rfl) (by exact rfl) rfl rfl hownM (.last (.there (.right (.there (.right (.there (.right (.there (.right (.there (.there (.right (.right .here))))))))))))) (Src.own (n:=1) (.here rfl)) rfl (by simp [Value.oneCell']) (by simp; omega) (by simp [maxLen]; omega)) ?_
   rintro v' _ ⟨mb',hownM',rfl⟩
   obtain ⟨qa,qn,qc,rfl,_,_⟩:=OwnS.shape hownM'
   refine SPU ?_; repeat' (first|refine ⟨fun hc=>?_,fun hc=>?_⟩|intro)
   rw [i64_succ (by omega)]
   refine Fin.round ⟨i+1,ws++[⟨m,-1,false,0⟩],ja,jn,jc,pb',ka,kn,kc,tb',la,ln,lc,sb',qa,qn,qc,mb'⟩ ⟨by dsimp only; omega,by simp [hwl],by dsimp only; rw [List.map_append]; exact hownP',by dsimp only; rw [List.map_append]; exact hownT',by dsimp only; rw [List.map_append]; exact hownS',by dsimp only; rw [List.map_append]; exact hownM',fun q hq=>?_⟩ envA (fun _ h=>?_) (by dsimp only; omega)
   · rcases List.mem_append.1 hq with hq | hq
     · exact hws q hq
     · rw [List.mem_singleton.1 hq]
       refine ⟨h3,?_⟩
       unfold DwM.W Snd.way0
       dsimp only
       rw [hmS]
   · dsimp only
     rw [List.flatMap_append,List.flatMap_cons,List.flatMap_nil,List.append_nil]
     dsimp only
     rw [hmH]
     exact In.of_sub (.pick (.right (.there (.right (.there (.right (.there (.right (.there (.right .here))))))))) (.pick (.right (.there (.right (.there (.right (.there (.right (.there (.right .here))))))))) (.pickL (L:=o.H) (.right (.there (.right (.there (.right (.there (.right (.there (.right .here))))))))) (.pickL (L:=(FR.empty bf c.paths first).H) (.right (.there (.right (.there (.right (.there (.right (.there (.right .here))))))))) (.pickL (L:=tb') (.right (.there (.right (.there .here)))) (.pickL (L:=sb') (.right (.there .here)) (.pickL (L:=mb') .here (.pickL (L:=pb') (.there (.there (.there .here))) (.pickL (L:=ws.flatMap (fun m=>m.p.H)) (.there (.there (.there (.there (.right .all))))) (.last (L:=mH) (.there (.there (.there (.there .here)))))))))))))) h
 · have hi':(i:Int)=c.paths:=by have:=of_decide_eq_false hc; omega
   have h3:c.pathMay now=true:=by
    obtain ⟨m,hm⟩:∃ m,m ∈ ws:=List.exists_mem_of_length_pos (by omega)
    exact (hws m hm).1
   have hwW:ws.map DwM.W=List.replicate c.paths.toNat (Snd.way0 (c.pathNew now)):=by
    rw [List.eq_replicate_iff]
    refine ⟨by simp; omega,fun w hw=>?_⟩
    obtain ⟨m,hm,rfl⟩:=List.mem_map.1 hw
    exact (hws m hm).2
   obtain ⟨r,hre⟩:∃ r,dnM bs o bf c first rwnd ⟨i,ws,pa,pn,pc,pb,ta,tn,tc,tb,sa,sn,sc,sb,ma,mn,mc,mb⟩=r:=⟨_,rfl⟩
   have hS:r.S=c.sndNew first rwnd now:=by
    rw [←hre]
    unfold dnM DsM.S Cfg.sndNew Snd.newS
    dsimp only
    rw [hoS,hwW]
    rfl
   have h3':=h3
   unfold Cfg.pathMay may at h3'
   rw [Bool.and_eq_true,Bool.and_eq_true] at h3'
   have hmtu:=of_decide_eq_true h3'.2.1
   have hp:Snd.Ok 0 r.S:=by
    rw [hS]
    exact Snd.newS_ok h1 h2 ⟨hmtu.1,hmtu.2.1⟩ (Pth.new_ok h3) hr
   have hrok:r.ok 0:=by
    rw [←hre] at hp ⊢
    exact ⟨ho,FR.empty_ok bf c.paths first,hownP,hownT,hownS,hownM,.inl ⟨rfl,rfl,rfl⟩,.inl ⟨rfl,rfl,rfl⟩,fun m hm=>by (cases hm),hp⟩
   have hrR:bs=r.R:=by rw [←hre]; rfl
   refine Fin.retW (by exact rfl) resA (H':=r.H) (fun _ h=>?_) (.inr ⟨by unfold Cfg.sndMay; rw [decide_eq_true h1,h2,h3]; rfl,r,hrok,by rw [←hrR]; rfl,rfl,hS⟩)
   rw [←hre]
   unfold DsM.H DsM.T DsM.X DsM.WH DsM.hd DsM.cells dnM
   dsimp only
   exact In.of_sub (.pick (.there .here) (.pickL (L:=o.H) (.there .here) (.pickL (L:=(FR.empty bf c.paths first).H) (.there .here) (.pickL (L:=tb) (.there .here) (.pickL (L:=sb) (.there .here) (.pickL (L:=mb) (.there .here) (.pickL (L:=pb) (.there .here) (.pickL (L:=ws.flatMap (fun m=>m.p.H)) (.there .all) (.nil _))))))))) h
end Go.Proofs.YtlfpemmdehmbfaaGreat
namespace Go.Proofs.YtlfpemmdehmbfaaGreat
open Go Go.Sl Go.Flt
structure MaG where
 k:Nat
 la:Nat
set_option maxHeartbeats 4000000 in
theorem rmay_tr (F:Nat→Option Obj) (f:FR) (hf:f.ok) (y room:Int) (gs:List (Nat × Nat)) (ga:Option Addr) (gn gc:Nat) (hl:Lst F [] 2 (gs.flatMap gC) ga gn gc) (hg:∀ g ∈ gs,g.1 < 65536∧g.2 < 65536) (hgl:gs.length≤1000) (ra:Option Addr) (rn rc:Nat) :
 Tr Tryz.prog 161 [.pointer (some ⟨f.R,0,none⟩),.agg [.int .u32 y,.int .u32 room,.slice ga gn gc,.slice ra rn rc].toArray].toArray F f.H (fun v H=>v=.bool (!decide (f.ln < Spn.far f.c y) && okG f.ln (Spn.far f.c y) 0 gs)∧H=f.H):=by
 refine Tr.enter Tryz.func161 rfl Tryz.ntmps161 rfl (fun w0=>?_)
 have hlen:=hf.len
 have hfew:=hf.few
 have hgn:gs.length=gn:=lst_len gC_len (by decide) hl
 have hfi:=Spn.far_int f.c y
 have hfl:=Spn.far_lt f.c y
 obtain ⟨base,hbase⟩:∃ base,Spn.far f.c y=base:=⟨_,rfl⟩
 rw [hbase] at hfi hfl ⊢
 rw [show Spn.u32 (y - f.c)=IntKind.u32.wrap (y - f.c) from rfl] at hfi
 unfold FR.H FR.hd
 refine SPN ?_; repeat' (first|refine ⟨fun hc=>?_,fun hc=>?_⟩|intro)
 rename_i b3
 refine W.draw ((b3,.cells [.int .u32 y,.int .u32 room,.slice ga gn gc,.slice ra rn rc].toArray 75 (0,0))::f.H) (by kernel_rfl) (by kernel_rfl) (fun _ h=>h) ?_
 unfold FR.H FR.hd
 refine SPN ?_; repeat' (first|refine ⟨fun hc=>?_,fun hc=>?_⟩|intro)
 · have hq:=of_decide_eq_true hc
   rw [←hfi,u32_id (n:=(f.ln:Int)) (by omega)] at hq
   have hm:(!decide (f.ln < base) && okG f.ln base 0 gs)=false:=by rw [decide_eq_true (show f.ln < base by omega)]; rfl
   exact Fin.retW (by exact rfl) resA (H':=f.H) (fun _ h=>h.sublist (.cons _ (.refl _))) ⟨by rw [hm]; rfl,rfl⟩
 have hq:=of_decide_eq_false hc
 rw [←hfi,u32_id (n:=(f.ln:Int)) (by omega)] at hq
 have hbn:base≤f.ln:=by omega
 rw [←hfi]
 refine W.loop (G:=MaG) (fun g=>[(0,.pointer (some ⟨f.R,0,none⟩)),(3,.pointer (some ⟨b3,0,none⟩)),(5,.int .u32 base),(6,.int .i64 g.la),(7,.int .i64 g.k)]) (fun g=>(b3,.cells [.int .u32 y,.int .u32 room,.slice ga gn gc,.slice ra rn rc].toArray 75 (0,0))::f.H)
  (fun g=>g.k≤gn∧g.la < 65536∧(g.k=0→g.la=0)∧okG f.ln base 0 gs=okG f.ln base g.la (gs.drop g.k)) (fun g=>gn - g.k) ⟨0,0⟩ ⟨Nat.zero_le _,by decide,fun _=>rfl,rfl⟩ envA (fun _ h=>h) ?_
 rintro ⟨k,la⟩ ⟨hk,hla,hl0,hok⟩
 dsimp only at hk hla hl0 hok ⊢
 have r0:Sl.Can F ((b3,.cells [.int .u32 y,.int .u32 room,.slice ga gn gc,.slice ra rn rc].toArray 75 (0,0))::f.H) f.R (0+0) [.slice f.la f.ln f.lc]:=((fr_can f).one (i:=0) rfl).mono (fun _ h=>h.sublist (.cons _ (.refl _)))
 refine SPN ?_; repeat' (first|refine ⟨fun hc=>?_,fun hc=>?_⟩|intro)
 rotate_right
 · have hkn:k=gn:=by have:=of_decide_eq_false (p:=(k:Int) < (gn:Int)) (by assumption); omega
   have hf2:okG f.ln base 0 gs=true:=by rw [hok,List.drop_of_length_le (by omega)]; rfl
   have hm:(!decide (f.ln < base) && okG f.ln base 0 gs)=true:=by rw [hf2,decide_eq_false (by omega)]; rfl
   exact Fin.retW (by exact rfl) resA (H':=f.H) (fun _ h=>h.sublist (.cons _ (.refl _))) ⟨by rw [hm]; rfl,rfl⟩
 have hk':k < gn:=by have:=of_decide_eq_true (p:=(k:Int) < (gn:Int)) (by assumption); omega
 obtain ⟨g,hgk⟩:∃ g,gs[k]? = some g:=⟨gs[k]'(by omega),by simp⟩
 have hgr:=hg g (List.mem_of_getElem? hgk)
 obtain ⟨gb,go,rfl,hcan⟩:=hl.el gC_len hgk (by omega)
 have hia:0≤(k:Int)∧(k:Int) < gn:=by omega
 have hdrop:gs.drop k=g::gs.drop (k+1):=by rw [List.drop_eq_getElem_cons (by omega)]; congr 1; exact (List.getElem?_eq_some_iff.1 hgk).2
 have hw1:IntKind.i64.wrap ((g.1:Nat):Int)=(g.1:Int):=i64_id (by omega) (by omega)
 have hw2:IntKind.i64.wrap ((g.2:Nat):Int)=(g.2:Int):=i64_id (by omega) (by omega)
 have hw3:IntKind.i64.wrap ((la:Int)+2)=(la:Int)+2:=i64_id (by omega) (by omega)
 have hw4:IntKind.i64.wrap ((base:Int)+g.2)=(base:Int)+g.2:=i64_id (by omega) (by omega)
 have hw5:IntKind.i64.wrap (base:Int)=(base:Int):=i64_id (by omega) (by omega)
 have hc0:Sl.Can F ((b3,.cells [.int .u32 y,.int .u32 room,.slice (some ⟨gb,go,none⟩) gn gc,.slice ra rn rc].toArray 75 (0,0))::f.H) gb (go+(k:Int).toNat * 2+0) [.int .u16 g.1]:=(hcan.one (i:=0) rfl).mono (fun _ h=>h.sublist (List.nil_sublist _))
 have hc1:Sl.Can F ((b3,.cells [.int .u32 y,.int .u32 room,.slice (some ⟨gb,go,none⟩) gn gc,.slice ra rn rc].toArray 75 (0,0))::f.H) gb (go+(k:Int).toNat * 2+1) [.int .u16 g.2]:=(hcan.one (i:=1) rfl).mono (fun _ h=>h.sublist (List.nil_sublist _))
 refine SPN ?_; repeat' (first|refine ⟨fun hc=>?_,fun hc=>?_⟩|intro)
 · have q:=of_decide_eq_true hc
   rw [hw1] at q
   have hf2:okG f.ln base 0 gs=false:=by rw [hok,hdrop,okG,decide_eq_true (show g.1 < la+2 by omega)]; rfl
   have hm:(!decide (f.ln < base) && okG f.ln base 0 gs)=false:=by rw [hf2,Bool.and_false]
   exact Fin.retW (by exact rfl) resA (H':=f.H) (fun _ h=>h.sublist (.cons _ (.refl _))) ⟨by rw [hm]; rfl,rfl⟩
 · rename_i c1 c2
   have q:=of_decide_eq_true c2
   rw [hw1,hw3] at q
   have hf2:okG f.ln base 0 gs=false:=by rw [hok,hdrop,okG,decide_eq_true (show g.1 < la+2 by omega)]; rfl
   have hm:(!decide (f.ln < base) && okG f.ln base 0 gs)=false:=by rw [hf2,Bool.and_false]
   exact Fin.retW (by exact rfl) resA (H':=f.H) (fun _ h=>h.sublist (.cons _ (.refl _))) ⟨by rw [hm]; rfl,rfl⟩
 · have q:=of_decide_eq_true hc
   rw [hw1,hw2] at q
   have hf2:okG f.ln base 0 gs=false:=by rw [hok,hdrop,okG,decide_eq_true (show g.2 < g.1 by omega)]; simp
   have hm:(!decide (f.ln < base) && okG f.ln base 0 gs)=false:=by rw [hf2,Bool.and_false]
   exact Fin.retW (by exact rfl) resA (H':=f.H) (fun _ h=>h.sublist (.cons _ (.refl _))) ⟨by rw [hm]; rfl,rfl⟩
 · have q:=of_decide_eq_true hc
   rw [hw2,hw5,hw4] at q
   have hf2:okG f.ln base 0 gs=false:=by rw [hok,hdrop,okG,decide_eq_true (show f.ln < base+g.2 by omega)]; simp
   have hm:(!decide (f.ln < base) && okG f.ln base 0 gs)=false:=by rw [hf2,Bool.and_false]
   exact Fin.retW (by exact rfl) resA (H':=f.H) (fun _ h=>h.sublist (.cons _ (.refl _))) ⟨by rw [hm]; rfl,rfl⟩
 · rename_i c1 c2 c3 c4
   have q1:=of_decide_eq_false c1
   have q2:=of_decide_eq_true c2
   have q3:=of_decide_eq_false c3
   rw [hw1] at q1
   rw [hw1,hw3] at q2
   have:=hl0 (by omega)
   omega
 · have q:=of_decide_eq_true hc
   rw [hw1,hw2] at q
   have hf2:okG f.ln base 0 gs=false:=by rw [hok,hdrop,okG,decide_eq_true (show g.2 < g.1 by omega)]; simp
   have hm:(!decide (f.ln < base) && okG f.ln base 0 gs)=false:=by rw [hf2,Bool.and_false]
   exact Fin.retW (by exact rfl) resA (H':=f.H) (fun _ h=>h.sublist (.cons _ (.refl _))) ⟨by rw [hm]; rfl,rfl⟩
 · have q:=of_decide_eq_true hc
   rw [hw2,hw5,hw4] at q
   have hf2:okG f.ln base 0 gs=false:=by rw [hok,hdrop,okG,decide_eq_true (show f.ln < base+g.2 by omega)]; simp
   have hm:(!decide (f.ln < base) && okG f.ln base 0 gs)=false:=by rw [hf2,Bool.and_false]
   exact Fin.retW (by exact rfl) resA (H':=f.H) (fun _ h=>h.sublist (.cons _ (.refl _))) ⟨by rw [hm]; rfl,rfl⟩
 · rename_i c1 c2 c3
   have q1:=of_decide_eq_false c2
   have q2:=of_decide_eq_false c3
   have q3:=of_decide_eq_false hc
   rw [hw1,hw3] at q1
   rw [hw1,hw2] at q2
   rw [hw2,hw5,hw4] at q3
   have hf2:okG f.ln base 0 gs=okG f.ln base g.2 (gs.drop (k+1)):=by
    rw [hok,hdrop,okG,decide_eq_false (show ¬ g.1 < la+2 by omega),decide_eq_false (show ¬ g.2 < g.1 by omega),decide_eq_false (show ¬ f.ln < base+g.2 by omega)]
    rfl
   rw [hw2,i64_succ (by omega)]
   exact Fin.round ⟨k+1,g.2⟩ ⟨hk',hgr.2,fun h=>by dsimp only at h; omega,hf2⟩ envA (fun _ h=>h) (by dsimp only; omega)
set_option maxHeartbeats 4000000 in
theorem rtold_tr (F:Nat→Option Obj) (f:FR) (hf:f.ok) (y room:Int) (gs:List (Nat × Nat)) (ga:Option Addr) (gn gc:Nat) (hl:Lst F [] 2 (gs.flatMap gC) ga gn gc) (hg:∀ g ∈ gs,g.1 < 65536∧g.2 < 65536) (hgl:gs.length≤1000) (ra:Option Addr) (rn rc:Nat) (i:Nat) (hi:i < f.ln) :
 Tr Tryz.prog 162 [.pointer (some ⟨f.R,0,none⟩),.agg [.int .u32 y,.int .u32 room,.slice ga gn gc,.slice ra rn rc].toArray,.int .i64 i].toArray F f.H (fun v H=>v=.bool (toldB (Spn.far f.c y) gs i)∧H=f.H):=by
 refine Tr.enter Tryz.func162 rfl Tryz.ntmps162 rfl (fun w0=>?_)
 have hlen:=hf.len
 have hfew:=hf.few
 have hgn:gs.length=gn:=lst_len gC_len (by decide) hl
 have hfi:=Spn.far_int f.c y
 have hfl:=Spn.far_lt f.c y
 obtain ⟨base,hbase⟩:∃ base,Spn.far f.c y=base:=⟨_,rfl⟩
 rw [hbase] at hfi hfl ⊢
 rw [show Spn.u32 (y - f.c)=IntKind.u32.wrap (y - f.c) from rfl] at hfi
 have hw5:IntKind.i64.wrap (base:Int)=(base:Int):=i64_id (by omega) (by omega)
 have hwi:IntKind.i64.wrap ((i:Int)+1)=(i:Int)+1:=i64_id (by omega) (by omega)
 unfold FR.H FR.hd
 refine SPN ?_; repeat' (first|refine ⟨fun hc=>?_,fun hc=>?_⟩|intro)
 rename_i b4
 refine W.draw ((b4,.cells [.int .u32 y,.int .u32 room,.slice ga gn gc,.slice ra rn rc].toArray 75 (0,0))::f.H) (by kernel_rfl) (by kernel_rfl) (fun _ h=>h) ?_
 unfold FR.H FR.hd
 refine SPN ?_; repeat' (first|refine ⟨fun hc=>?_,fun hc=>?_⟩|intro)
 · have hq:=of_decide_eq_true hc
   rw [←hfi,hw5] at hq
   have hy:toldB base gs i=true:=by unfold toldB; rw [decide_eq_true (show i < base by omega)]; rfl
   exact Fin.retW (by exact rfl) resA (H':=f.H) (fun _ h=>h.sublist (.cons _ (.refl _))) ⟨by rw [hy]; rfl,rfl⟩
 have hq:=of_decide_eq_false hc
 rw [←hfi,hw5] at hq
 rw [←hfi,hw5]
 refine W.loop (G:=Nat) (fun k=>[(0,.pointer (some ⟨f.R,0,none⟩)),(2,.int .i64 i),(4,.pointer (some ⟨b4,0,none⟩)),(7,.int .i64 base),(8,.int .i64 k)]) (fun _=>(b4,.cells [.int .u32 y,.int .u32 room,.slice ga gn gc,.slice ra rn rc].toArray 75 (0,0))::f.H)
  (fun k=>k≤gn∧inG base gs i=inG base (gs.drop k) i) (fun k=>gn - k) 0 ⟨Nat.zero_le _,rfl⟩ envA (fun _ h=>h) ?_
 rintro k ⟨hk,hin⟩
 have hb0:toldB base gs i=inG base gs i:=by unfold toldB; rw [decide_eq_false (by omega),Bool.false_or]
 refine SPN ?_; repeat' (first|refine ⟨fun hc=>?_,fun hc=>?_⟩|intro)
 rotate_right
 · have hkn:k=gn:=by have:=of_decide_eq_false (p:=(k:Int) < (gn:Int)) (by assumption); omega
   have hy:toldB base gs i=false:=by rw [hb0,hin,List.drop_of_length_le (by omega)]; rfl
   exact Fin.retW (by exact rfl) resA (H':=f.H) (fun _ h=>h.sublist (.cons _ (.refl _))) ⟨by rw [hy]; rfl,rfl⟩
 have hk':k < gn:=by have:=of_decide_eq_true (p:=(k:Int) < (gn:Int)) (by assumption); omega
 obtain ⟨g,hgk⟩:∃ g,gs[k]? = some g:=⟨gs[k]'(by omega),by simp⟩
 have hgr:=hg g (List.mem_of_getElem? hgk)
 obtain ⟨gb,go,rfl,hcan⟩:=hl.el gC_len hgk (by omega)
 have hia:0≤(k:Int)∧(k:Int) < gn:=by omega
 have hdrop:gs.drop k=g::gs.drop (k+1):=by rw [List.drop_eq_getElem_cons (by omega)]; congr 1; exact (List.getElem?_eq_some_iff.1 hgk).2
 have hw1:IntKind.i64.wrap ((g.1:Nat):Int)=(g.1:Int):=i64_id (by omega) (by omega)
 have hw2:IntKind.i64.wrap ((g.2:Nat):Int)=(g.2:Int):=i64_id (by omega) (by omega)
 have hw3:IntKind.i64.wrap ((base:Int)+g.1)=(base:Int)+g.1:=i64_id (by omega) (by omega)
 have hw4:IntKind.i64.wrap ((base:Int)+g.2)=(base:Int)+g.2:=i64_id (by omega) (by omega)
 have hc0:Sl.Can F ((b4,.cells [.int .u32 y,.int .u32 room,.slice (some ⟨gb,go,none⟩) gn gc,.slice ra rn rc].toArray 75 (0,0))::f.H) gb (go+(k:Int).toNat * 2+0) [.int .u16 g.1]:=(hcan.one (i:=0) rfl).mono (fun _ h=>h.sublist (List.nil_sublist _))
 have hc1:Sl.Can F ((b4,.cells [.int .u32 y,.int .u32 room,.slice (some ⟨gb,go,none⟩) gn gc,.slice ra rn rc].toArray 75 (0,0))::f.H) gb (go+(k:Int).toNat * 2+1) [.int .u16 g.2]:=(hcan.one (i:=1) rfl).mono (fun _ h=>h.sublist (List.nil_sublist _))
 have hstep:inG base (gs.drop k) i=((decide (base+g.1≤i+1) && decide (i+1≤base+g.2)) || inG base (gs.drop (k+1)) i):=by rw [hdrop]; unfold inG; rw [List.any_cons]
 refine SPN ?_; repeat' (first|refine ⟨fun hc=>?_,fun hc=>?_⟩|intro)
 · rename_i c1
   have q1:=of_decide_eq_true c1
   have q2:=of_decide_eq_true hc
   rw [hwi,hw1,hw3] at q1
   rw [hwi,hw2,hw4] at q2
   have hy:toldB base gs i=true:=by rw [hb0,hin,hstep,decide_eq_true (show base+g.1≤i+1 by omega),decide_eq_true (show i+1≤base+g.2 by omega)]; rfl
   exact Fin.retW (by exact rfl) resA (H':=f.H) (fun _ h=>h.sublist (.cons _ (.refl _))) ⟨by rw [hy]; rfl,rfl⟩
 · have q2:=of_decide_eq_false hc
   rw [hwi,hw2,hw4] at q2
   rw [i64_succ (by omega)]
   exact Fin.round (k+1) ⟨hk',by rw [hin,hstep,decide_eq_false (show ¬ i+1≤base+g.2 by omega),Bool.and_false,Bool.false_or]⟩ envA (fun _ h=>h) (by omega)
 · have q1:=of_decide_eq_false hc
   rw [hwi,hw1,hw3] at q1
   rw [i64_succ (by omega)]
   exact Fin.round (k+1) ⟨hk',by rw [hin,hstep,decide_eq_false (show ¬ base+g.1≤i+1 by omega),Bool.false_and,Bool.false_or]⟩ envA (fun _ h=>h) (by omega)
end Go.Proofs.YtlfpemmdehmbfaaGreat
namespace Go.Proofs.YtlfpemmdehmbfaaGreat
open Go Go.Sl Go.Flt
def pth (p:Int):Prop:=p=0∨p=1∨p=2∨p=3
def qP (p:Int) (r:Rc):Bool:=low1 r && decide (r.path=p)
def fsP (L:List Rc) (n:Nat) (p:Int):Option Nat:=((L.drop n).findIdx? (qP p)).map (·+n)
theorem fsP_step {L:List Rc} {n:Nat} {r:Rc} (h:L[n]? = some r) (p:Int):fsP L n p=if qP p r then some n else fsP L (n+1) p:=by
 have hi:=(List.getElem?_eq_some_iff.1 h).1
 have he:=(List.getElem?_eq_some_iff.1 h).2
 unfold fsP
 rw [List.drop_eq_getElem_cons hi,he,List.findIdx?_cons]
 cases qP p r with
 | true=>simp
 | false=>
   simp only [Bool.false_eq_true,if_false,Option.map_map]
   congr 1
   funext a
   simp only [Function.comp]
   omega
theorem fsP_end {L:List Rc} {n:Nat} (h:L.length≤n) (p:Int):fsP L n p=none:=by
 unfold fsP
 rw [List.drop_eq_nil_of_le h]
 rfl
theorem fsP_zero (L:List Rc) (p:Int):fsP L 0 p=lowP L p:=by
 unfold fsP lowP
 rw [List.drop_zero]
 show Option.map (fun a=>a+0) (List.findIdx? (fun r=>low1 r && decide (r.path=p)) L)=_
 cases List.findIdx? (fun r=>low1 r && decide (r.path=p)) L <;> rfl
def oI:Option Nat→Int
 | none=>-1
 | some i=>i
def fsC (L:List Rc) (n:Nat):List Value:=[.int .i64 (oI (fsP L n 0)),.int .i64 (oI (fsP L n 1)),.int .i64 (oI (fsP L n 2)),.int .i64 (oI (fsP L n 3))]
theorem fsC_end {L:List Rc} {n:Nat} (h:L.length≤n):fsC L n=[.int .i64 (-1),.int .i64 (-1),.int .i64 (-1),.int .i64 (-1)]:=by
 unfold fsC
 simp only [fsP_end h]
 rfl
theorem fsC_no {L:List Rc} {n:Nat} {r:Rc} (h:L[n]? = some r) (h1:low1 r=false):fsC L n=fsC L (n+1):=by
 unfold fsC
 simp [fsP_step h,qP,h1]
theorem fsC_put {L:List Rc} {n:Nat} {r:Rc} (h:L[n]? = some r) (h1:low1 r=true) (hp:pth r.path):spliceK (fsC L (n+1)) (0+r.path.toNat * 1) [.int .i64 n] some=some (fsC L n):=by
 unfold fsC
 simp only [fsP_step h,qP,h1,Bool.true_and]
 rcases hp with hp | hp | hp | hp <;> rw [hp] <;> simp [spliceK,oI]
theorem fsC_get {L:List Rc} {p:Int} (hp:pth p):(fsC L 0)[p.toNat]? = some (.int .i64 (oI ((lowQ L).get p))):=by
 unfold fsC
 simp only [fsP_zero]
 rcases hp with rfl | rfl | rfl | rfl <;> rfl
theorem hiC_put {q:Q4 Int} {p v:Int} (hp:pth p):spliceK (hiC q) (0+p.toNat * 1) [.int .i64 v] some=some (hiC (q.set p v)):=by rcases hp with rfl | rfl | rfl | rfl <;> rfl
theorem hiC_get {q:Q4 Int} {p:Int} (hp:pth p):(hiC q)[p.toNat]? = some (.int .i64 (q.get p)):=by rcases hp with rfl | rfl | rfl | rfl <;> rfl
def Flt.Tld.gt (t:Tld) (p:Int):PT:=if p=0 then t.p0 else if p=1 then t.p1 else if p=2 then t.p2 else t.p3
def sAck (a:Int) (q:PT):PT:={ q with acked:=a }
def sPse (q:PT):PT:={ q with pseudo:=true }
def sAt (a:Int) (q:PT):PT:={ q with at_:=a }
def sSome (q:PT):PT:={ q with some_:=true }
theorem tl_get {t:Tld} {p:Int} (hp:pth p):(tldC t)[2+p.toNat * 5]? = some (.int .i64 (Flt.Tld.gt t p).acked):=by rcases hp with rfl | rfl | rfl | rfl <;> rfl
theorem tl_ack {t:Tld} {p a:Int} (hp:pth p):spliceK (tldC t) (0+2+p.toNat * 5+0) [.int .i64 a] some=some (tldC (t.upd p (sAck a))):=by rcases hp with rfl | rfl | rfl | rfl <;> rfl
theorem tl_pse {t:Tld} {p:Int} (hp:pth p):spliceK (tldC t) (0+2+p.toNat * 5+1) [.bool true] some=some (tldC (t.upd p sPse)):=by rcases hp with rfl | rfl | rfl | rfl <;> rfl
theorem tl_fast {t:Tld} {p:Int} (hp:pth p):spliceK (tldC t) (0+2+p.toNat * 5+2) [.bool true] some=some (tldC (t.upd p fastP)):=by rcases hp with rfl | rfl | rfl | rfl <;> rfl
theorem tl_at {t:Tld} {p a:Int} (hp:pth p):spliceK (tldC t) (0+2+p.toNat * 5+3) [.int .i64 a] some=some (tldC (t.upd p (sAt a))):=by rcases hp with rfl | rfl | rfl | rfl <;> rfl
theorem tl_some {t:Tld} {p:Int} (hp:pth p):spliceK (tldC t) (0+2+p.toNat * 5+4) [.bool true] some=some (tldC (t.upd p sSome)):=by rcases hp with rfl | rfl | rfl | rfl <;> rfl
def tk1 (r:Rc) (t:Tld):Tld:=if r.gone then t else t.upd r.path (sAck (IntKind.i64.wrap ((Flt.Tld.gt t r.path).acked+r.bs.length)))
def tk2 (r:Rc) (t:Tld):Tld:=if r.again then t else (t.upd r.path (sAt r.at_)).upd r.path sSome
def tk3 (r:Rc) (low:Bool) (t:Tld):Tld:=if low then t.upd r.path sPse else t
theorem tk_all {r:Rc} (hp:pth r.path) (low:Bool) (t:Tld):tk3 r low (tk2 r (tk1 r t))=t.upd r.path (takeP r low):=by
 unfold tk1 tk2 tk3
 have e:∀ q:PT,takeP r low q=⟨if r.gone then q.acked else IntKind.i64.wrap (q.acked+r.bs.length),q.pseudo || low,q.fast,if r.again then q.at_ else r.at_,if r.again then q.some_ else true⟩:=fun q=>rfl
 rcases hp with h | h | h | h <;> rw [h] <;> cases hg:r.gone <;> cases ha:r.again <;> cases low <;> simp [Tld.upd,Flt.Tld.gt,sAck,sAt,sSome,sPse,e,hg,ha]
structure Lk (f g:FR):Prop where
 R:g.R=f.R
 la:g.la=f.la
 ln:g.ln=f.ln
 lc:g.lc=f.lc
 c:g.c=f.c
 paths:g.paths=f.paths
theorem Lk.refl (f:FR):Lk f f:=⟨rfl,rfl,rfl,rfl,rfl,rfl⟩
theorem fr_set {f g:FR} (hk:Lk f g) (hg:g.ok) {i:Nat} {m:RrM} (h:g.rs[i]? = some m) {b o:Nat} (hla:f.la=some ⟨b,o,none⟩) {k:Nat} {v:Value} {r':Rc} (hb:r'.bs=m.r.bs) (hs:spliceK m.cells k [v] some=some ({ m with r:=r' }:RrM).cells) :
 ∃ g':FR,Lk f g'∧g'.ok∧PutAt b (o+(i:Int).toNat * 15+k) [v] g.H g'.H∧g'.rs=g.rs.set i { m with r:=r' }∧g'.S.L=g.S.L.set i r'∧g'.rs[i]? = some { m with r:=r' }:=by
 obtain ⟨g',h1,h2,h3,h4,h5,h6,h7,h8,h9⟩:=fr_put hg h (hk.la.trans hla) hb hs
 refine ⟨g',⟨h3.trans hk.R,h4.trans hk.la,h5.trans hk.ln,h6.trans hk.lc,h7.trans hk.c,h8.trans hk.paths⟩,h1,h2,h9,?_,?_⟩
 · show g'.rs.map (·.r)=_
   rw [h9,List.map_set]
   rfl
 · rw [h9,List.getElem?_set_self (List.getElem?_eq_some_iff.1 h).1]
theorem fr_row {F:Nat→Option Obj} {f g:FR} (hk:Lk f g) (hg:g.ok) {i:Nat} {m:RrM} (h:g.rs[i]? = some m) {b o:Nat} (hla:f.la=some ⟨b,o,none⟩):Sl.Can F g.H f.R (0+0) [.slice (some ⟨b,o,none⟩) f.ln f.lc]∧Sl.Can F g.H b (o+(i:Int).toNat * 15) m.cells:=by
 obtain ⟨b2,o2,h1,h2⟩:=fr_el (F:=F) hg h
 rw [hk.la,hla] at h1
 cases h1
 refine ⟨?_,h2⟩
 have:=(fr_can (F:=F) g).one (i:=0) rfl
 rw [hk.R,hk.la,hk.ln,hk.lc,hla] at this
 exact this
theorem oI_eq (o:Option Nat) (i:Nat):(oI o == (i:Int))=decide (o=some i):=by
 cases o with
 | none=>simp [oI]
 | some j=>
   show ((j:Int) == (i:Int))=_
   by_cases h:j=i
   · subst h; simp
   · rw [beq_eq_false_iff_ne.2 (by omega),decide_eq_false (by simpa using h)]
theorem cT_can {F:Nat→Option Obj} (b:Nat) (t:Tld) {T:TypeId} {fr:Nat × Nat} {p:Int} (hp:pth p):Sl.Can F [(b,.cells (tldC t).toArray T fr)] b (0+2+p.toNat * 5+0) [.int .i64 (Flt.Tld.gt t p).acked]:=by
 have:=(Can.cut (F:=F) (n:=22) (.here rfl):Sl.Can F [(b,.cells (tldC t).toArray T fr)] b 0 (tldC t)).one (tl_get hp)
 rw [show 0+2+p.toNat * 5+0=0+(2+p.toNat * 5) by omega]
 exact this
theorem fsC_can {F:Nat→Option Obj} (b:Nat) (L:List Rc) {T:TypeId} {fr:Nat × Nat} {p:Int} (hp:pth p):Sl.Can F [(b,.cells (fsC L 0).toArray T fr)] b (0+p.toNat * 1) [.int .i64 (oI ((lowQ L).get p))]:=by
 have:=(Can.cut (F:=F) (n:=4) (.here rfl):Sl.Can F [(b,.cells (fsC L 0).toArray T fr)] b 0 (fsC L 0)).one (fsC_get hp)
 rw [show 0+p.toNat * 1=0+p.toNat by omega]
 exact this
theorem hiC_can {F:Nat→Option Obj} (b:Nat) (q:Q4 Int) {T:TypeId} {fr:Nat × Nat} {p:Int} (hp:pth p):Sl.Can F [(b,.cells (hiC q).toArray T fr)] b (0+p.toNat * 1) [.int .i64 (q.get p)]:=by
 have:=(Can.cut (F:=F) (n:=4) (.here rfl):Sl.Can F [(b,.cells (hiC q).toArray T fr)] b 0 (hiC q)).one (hiC_get hp)
 rw [show 0+p.toNat * 1=0+p.toNat by omega]
 exact this
theorem fr_head (g:FR) (a:Option Addr) (n c:Nat):PutAt g.R (0+0) [.slice a n c] g.H ({ g with la:=a,ln:=n,lc:=c }:FR).H:=by
 unfold FR.H FR.hd
 exact .here rfl
theorem fr_hc (g:FR) (y:Int):PutAt g.R (0+1) [.int .u32 y] g.H ({ g with c:=y }:FR).H:=by
 unfold FR.H FR.hd
 exact .here rfl
theorem fr_tail {F:Nat→Option Obj} {g:FR} (hg:g.ok) {n:Nat} (hn:n≤g.ln):Src F g.H (.slice (if g.lc=(n:Int).toNat then g.la else g.la.map (·.add ((n:Int).toNat * 15))) (g.ln - (n:Int).toNat) (g.lc - (n:Int).toNat)) (g.ln - n) ((g.rs.drop n).flatMap RrM.cells):=by
 have e1:(n:Int).toNat=n:=by omega
 simp only [e1]
 have hl:Lst F g.H 15 (g.rs.flatMap RrM.cells) g.la g.ln g.lc:=(Lst.own (F:=F) (H:=g.lb) hg.own (fun _ h=>h)).mono (fun _ h=>by unfold FR.H at h; exact h.sublist (.cons _ (List.sublist_append_left _ _)))
 have hlen:=hg.len
 rcases Nat.lt_or_ge n g.ln with h | h
 · obtain ⟨b,off,hla,hcan⟩:=hl.can (by omega)
   have hcap:=hl.cap
   rw [if_neg (by omega),hla,Option.map_some,add_lit]
   refine .inr ⟨_,_,rfl,fun w hw j u hu=>?_⟩
   rw [add_lit,Nat.add_assoc]
   refine hcan w hw (n * 15+j) u ?_
   have e:g.rs.flatMap RrM.cells=(g.rs.take n).flatMap RrM.cells++(g.rs.drop n).flatMap RrM.cells:=by rw [←List.flatMap_append,List.take_append_drop]
   have e2:((g.rs.take n).flatMap RrM.cells).length=n * 15:=by rw [flat_len' RrM.cells 15 (fun _=>rfl),List.length_take,Nat.min_eq_left (by omega)]
   rw [e,List.getElem?_append_right (by omega),e2,Nat.add_sub_cancel_left]
   exact hu
 · rw [List.drop_of_length_le (by omega),List.flatMap_nil]
   cases hla:g.la with
   | none=>exact .inl ⟨_,by rw [Option.map_none,ite_self,show g.ln - n=0 by omega],by omega,rfl⟩
   | some a=>exact .inr ⟨if g.lc=n then a else a.add (n * 15),_,by rw [Option.map_some]; congr 1; split <;> rfl,fun _ _ j u hu=>by simp at hu⟩
theorem fr_keep {F:Nat→Option Obj} (g:FR) (n:Nat) (sa:Option Addr) (sn sc:Nat) (lb' X:HL) (y:Int):∀ w,In F (lb'++(X++({ g with la:=sa,ln:=sn,lc:=sc,c:=y }:FR).H)) w→In F ({ g with la:=sa,ln:=sn,lc:=sc,c:=y,lb:=lb',rs:=g.rs.drop n }:FR).H w:=fun w h=>by
 have hsub:((g.rs.drop n).flatMap (·.bb)).Sublist (g.rs.flatMap (·.bb)):=by
  conv=>rhs; rw [←List.take_append_drop n g.rs,List.flatMap_append]
  exact List.sublist_append_right _ _
 unfold FR.H FR.hd at h ⊢
 dsimp only at h ⊢
 have h1:In F (lb'++((g.R,.cells [.slice sa sn sc,.int .u32 y,.int .i64 g.paths].toArray 104 (0,0))::(g.rs.drop n).flatMap (·.bb))) w:=h.sublist (.append (.refl _) (.trans (.cons_cons _ (.trans hsub (List.sublist_append_right _ _))) (List.sublist_append_right _ _)))
 exact In.of_sub (.pick (.right .here) (.pickL (L:=lb') .here (.last (L:=(g.rs.drop n).flatMap (·.bb)) .all))) h1
end Go.Proofs.YtlfpemmdehmbfaaGreat
