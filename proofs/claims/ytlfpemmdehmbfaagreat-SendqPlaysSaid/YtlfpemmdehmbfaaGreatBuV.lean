/- Some texts as one. The document's flight of pieces: Sack, walked: it answers as the plain function does. Conditions: it is well formed; the gaps can be read; the bytes are few. The document's sender: acknowledgements: walked. Conditions: it is well formed. -/
import Derived.Test.YtlfpemmdehmbfaaGreatBuD
import Derived.Test.YtlfpemmdehmbfaaGreatBuU
import Derived.Test.YtlfpemmdehmbfaaGreatBuR
import Derived.Test.YtlfpemmdehmbfaaGreatBuQ
namespace Go.Proofs.YtlfpemmdehmbfaaGreat
open Go Go.Sl Go.Flt
def RsR (f:FR) (o:Option (Flt.S × Tld)) (v:Value) (H:HL):Prop:=match o with
 | none=>v=tup [.agg (tldC Tld.zero).toArray,.int .i64 1]∧H=f.H
 | some (s',t)=>v=tup [.agg (tldC t).toArray,.int .i64 0]∧∃ f':FR,f'.ok∧H=f'.H∧f'.R=f.R∧f'.S=s'
structure RaG where
 i:Nat
 g:FR
 t:Tld
 hi:Q4 Int
attribute [local irreducible] FR.H in
set_option maxHeartbeats 16000000 in
theorem rsack_tr (F:Nat→Option Obj) (f:FR) (hf:f.ok) (hs:f.small) (hpo:pathOk f.S.L) (y room:Int) (_:0≤y∧y < 4294967296) (gs:List (Nat × Nat)) (ga:Option Addr) (gn gc:Nat) (hl:Lst F [] 2 (gs.flatMap gC) ga gn gc) (hg:∀ g ∈ gs,g.1 < 65536∧g.2 < 65536) (hgl:gs.length≤1000) (ra:Option Addr) (rn rc:Nat) :
 Tr Tryz.prog 92 [.pointer (some ⟨f.R,0,none⟩),.agg [.int .u32 y,.int .u32 room,.slice ga gn gc,.slice ra rn rc].toArray].toArray F f.H (fun v H=>RsR f (Flt.rsack f.S y gs) v H):=by
 refine Tr.enter Tryz.func92 rfl Tryz.ntmps92 rfl (fun w0=>?_)
 have hlen:=hf.len
 have hfew:=hf.few
 have hL:=fr_len hf
 obtain ⟨base,hbase⟩:∃ base,Spn.far f.c y=base:=⟨_,rfl⟩
 have hfi:=Spn.far_int f.c y
 have hfl:=Spn.far_lt f.c y
 rw [hbase] at hfi hfl
 refine SPM ?_; repeat' (first|refine ⟨fun hc=>?_,fun hc=>?_⟩|intro)
 rename_i b3 b4 b6
 refine WL.e rfl (Ef.callF (c:=f.H) (by exact rfl) (.last (.there (.there (.there .all)))) (fun hd=>rmay_tr _ f hf y room gs ga gn gc (hl.mono (fun _ h=>addF_in hd h)) hg hgl ra rn rc)) ?_
 rintro _ _ ⟨_,⟨rfl,rfl⟩,rfl⟩
 rw [hbase]
 cases hm:(!decide (f.ln < base) && okG f.ln base 0 gs) with
 | false=>
   have hrs:Flt.rsack f.S y gs=none:=by
    unfold Flt.rsack
    rw [show Spn.far f.S.c y=base from hbase,hL,if_pos]
    cases h1:decide (f.ln < base) <;> cases h2:okG f.ln base 0 gs <;> simp_all
   rw [hrs]
   refine SPM ?_; repeat' (first|refine ⟨fun hc=>?_,fun hc=>?_⟩|intro)
   exact Fin.retW (by exact rfl) resA (H':=f.H) (fun _ h=>(show In _ (f.H++_) _ from h).left) ⟨rfl,rfl⟩
 | true=>
   have hbn:base≤f.ln:=by simp at hm; omega
   have hok:okG f.ln base 0 gs=true:=by simp at hm; exact hm.2
   have r0:Sl.Can F f.H f.R (0+0) [.slice f.la f.ln f.lc]:=(fr_can f).one (i:=0) rfl
   refine SPM ?_; repeat' (first|refine ⟨fun hc=>?_,fun hc=>?_⟩|intro)
   refine WL.e rfl (Ef.bsN (vals:=[(0,.int .i64 (-1)),(1,.int .i64 (-1)),(2,.int .i64 (-1)),(3,.int .i64 (-1))]) (r:=[.int .i64 (-1),.int .i64 (-1),.int .i64 (-1),.int .i64 (-1)]) (by rfl) rfl rfl rfl (by exact rfl) (by exact rfl)) ?_
   rintro _ _ ⟨b7,rfl,rfl⟩
   refine SPM ?_; repeat' (first|refine ⟨fun hc=>?_,fun hc=>?_⟩|intro)
   rw [i64_id (n:=(f.ln:Int) - 1) (by omega) (by omega)]
   refine W.loop (G:=Nat) (fun n=>[(0,.pointer (some ⟨f.R,0,none⟩)),(3,.pointer (some ⟨b3,0,none⟩)),(4,.pointer (some ⟨b4,0,none⟩)),(6,.pointer (some ⟨b6,0,none⟩)),(7,.slice (some ⟨b7,0,none⟩) 4 4),(8,.int .i64 ((n:Int) - 1))])
    (fun n=>(b7,.cells (fsC f.S.L n).toArray 3 (0,0))::(b6,.cells (tldC Tld.zero).toArray 186 (0,0))::(b4,.cells (tldC Tld.zero).toArray 186 (0,0))::(b3,.cells [.int .u32 y,.int .u32 room,.slice ga gn gc,.slice ra rn rc].toArray 75 (0,0))::f.H)
    (fun n=>n≤f.ln) (fun n=>n) f.ln (Nat.le_refl _) envA (fun _ h=>by
     rw [fsC_end (by omega)]
     exact In.of_sub (.pick .here (.pick (.right .here) (.pick (.right .here) (.pick (.right .here) (.last (L:=f.H) .here))))) h) ?_
   intro n hn
   refine SPM ?_; repeat' (first|refine ⟨fun hc=>?_,fun hc=>?_⟩|intro)
   ·
    have hn1:1≤n:=by have:=of_decide_eq_true hc; omega
    obtain ⟨j,rfl⟩:∃ j,n=j+1:=⟨n - 1,by omega⟩
    rw [show ((j+1:Nat):Int) - 1=(j:Int) by omega]
    obtain ⟨m,hm⟩:∃ m,f.rs[j]? = some m:=⟨f.rs[j]'(by omega),by simp⟩
    have hmr:=fr_r hm
    have hpath:=hpo m.r (List.mem_of_getElem? hmr)
    obtain ⟨lb,lo,hla,hcan⟩:=fr_el (F:=F) hf hm
    have hia:0≤(j:Int)∧(j:Int) < f.ln:=by omega
    have c7:Sl.Can F f.H lb (lo+(j:Int).toNat * 15+7) [.int .i64 m.r.path]:=hcan.one (i:=7) rfl
    have c11:Sl.Can F f.H lb (lo+(j:Int).toNat * 15+11) [.bool m.r.acked]:=hcan.one (i:=11) rfl
    have c13:Sl.Can F f.H lb (lo+(j:Int).toNat * 15+13) [.bool m.r.gone]:=hcan.one (i:=13) rfl
    have hp4:0≤m.r.path∧m.r.path < ((4:Nat):Int):=by rcases hpath with h | h | h | h <;> rw [h] <;> decide
    have hj1:IntKind.i64.wrap ((j:Int) - 1)=(j:Int) - 1:=i64_id (by omega) (by omega)
    rw [hla] at r0 ⊢
    refine SPM ?_; repeat' (first|refine ⟨fun hc=>?_,fun hc=>?_⟩|intro)
    · have hlow:low1 m.r=true:=by unfold low1; simp_all
      refine WL.e0A ?_ (Ef.st rfl rfl rfl (.here (fsC_put hmr hlow hpath)))
      refine SPM ?_; repeat' (first|refine ⟨fun hc=>?_,fun hc=>?_⟩|intro)
      rw [hj1]
      exact Fin.round j (by omega) envA (fun _ h=>h) (by omega)
    · have hlow:low1 m.r=false:=by unfold low1; simp_all
      rw [←fsC_no hmr hlow,hj1]
      exact Fin.round j (by omega) envA (fun _ h=>h) (by omega)
    · have hlow:low1 m.r=false:=by unfold low1; simp_all
      rw [←fsC_no hmr hlow,hj1]
      exact Fin.round j (by omega) envA (fun _ h=>h) (by omega)
   have hn0:n=0:=by have:=of_decide_eq_false hc; omega
   subst hn0
   refine WL.e rfl (Ef.bsN (vals:=[(0,.int .i64 (-1)),(1,.int .i64 (-1)),(2,.int .i64 (-1)),(3,.int .i64 (-1))]) (r:=[.int .i64 (-1),.int .i64 (-1),.int .i64 (-1),.int .i64 (-1)]) (by rfl) rfl rfl rfl (by exact rfl) (by exact rfl)) ?_
   rintro _ _ ⟨b9,rfl,rfl⟩
   refine SPM ?_; repeat' (first|refine ⟨fun hc=>?_,fun hc=>?_⟩|intro)
   refine W.loop (G:=RaG) (fun q=>[(0,.pointer (some ⟨f.R,0,none⟩)),(3,.pointer (some ⟨b3,0,none⟩)),(4,.pointer (some ⟨b4,0,none⟩)),(6,.pointer (some ⟨b6,0,none⟩)),(7,.slice (some ⟨b7,0,none⟩) 4 4),(9,.slice (some ⟨b9,0,none⟩) 4 4),(10,.int .i64 q.i)])
    (fun q=>(b9,.cells (hiC q.hi).toArray 3 (0,0))::(b7,.cells (fsC f.S.L 0).toArray 3 (0,0))::(b6,.cells (tldC q.t).toArray 186 (0,0))::(b4,.cells (tldC Tld.zero).toArray 186 (0,0))::(b3,.cells [.int .u32 y,.int .u32 room,.slice ga gn gc,.slice ra rn rc].toArray 75 (0,0))::q.g.H)
    (fun q=>q.i≤f.ln∧Lk f q.g∧q.g.ok∧pathOk q.g.S.L∧(⟨q.g.S.L,q.t,q.hi⟩:AK)=rackN (lowQ f.S.L) base gs ⟨f.S.L,Tld.zero,⟨-1,-1,-1,-1⟩⟩ q.i) (fun q=>f.ln - q.i) ⟨0,f,Tld.zero,⟨-1,-1,-1,-1⟩⟩ ⟨Nat.zero_le _,Lk.refl f,hf,hpo,rfl⟩ envA (fun _ h=>h) ?_
   rintro ⟨i,g,t,hi⟩ ⟨hi0,hk,hgk,hgp,hak⟩
   dsimp only at hi0 hk hgk hgp hak ⊢
   have q0:Sl.Can F g.H f.R (0+0) [.slice f.la f.ln f.lc]:=by have:=(fr_can (F:=F) g).one (i:=0) rfl; rw [hk.R,hk.la,hk.ln,hk.lc] at this; exact this
   refine SPM ?_; repeat' (first|refine ⟨fun hc=>?_,fun hc=>?_⟩|intro)
   ·
    have hi1:i < f.ln:=by have:=of_decide_eq_true hc; omega
    have hgl':g.rs.length=f.ln:=hgk.len.trans hk.ln
    obtain ⟨m,hm⟩:∃ m,g.rs[i]? = some m:=⟨g.rs[i]'(by omega),by simp⟩
    have hmr:=fr_r hm
    have hpath:pth m.r.path:=hgp m.r (List.mem_of_getElem? hmr)
    have hp4:0≤m.r.path∧m.r.path < ((4:Nat):Int):=by rcases hpath with h | h | h | h <;> rw [h] <;> decide
    have hbn':=fr_bn hgk hm
    obtain ⟨lb,lo,hla,-⟩:=fr_el (F:=F) hgk hm
    rw [hk.la] at hla
    obtain ⟨s0,s1⟩:=fr_row (F:=F) hk hgk hm hla
    clear q0
    have hia:0≤(i:Int)∧(i:Int) < f.ln:=by omega
    have c7:Sl.Can F g.H lb (lo+(i:Int).toNat * 15+7) [.int .i64 m.r.path]:=s1.one (i:=7) rfl
    have c11:Sl.Can F g.H lb (lo+(i:Int).toNat * 15+11) [.bool m.r.acked]:=s1.one (i:=11) rfl
    have htold:∀ F',Lst F' [] 2 (gs.flatMap gC) ga gn gc→Tr Tryz.prog 162 [.pointer (some ⟨f.R,0,none⟩),.agg [.int .u32 y,.int .u32 room,.slice ga gn gc,.slice ra rn rc].toArray,.int .i64 i].toArray F' g.H (fun v H=>v=.bool (toldB base gs i)∧H=g.H):=fun F' hl'=>by
     have:=rtold_tr F' g hgk y room gs ga gn gc hl' hg hgl ra rn rc i (by rw [hk.ln]; exact hi1)
     rw [hk.R,hk.c,hbase] at this
     exact this
    have hstep:=rackN_succ (lowQ f.S.L) base gs ⟨f.S.L,Tld.zero,⟨-1,-1,-1,-1⟩⟩ i
    rw [←hak] at hstep
    have hno:(m.r.acked=true∨toldB base gs i=false)→rackN (lowQ f.S.L) base gs ⟨f.S.L,Tld.zero,⟨-1,-1,-1,-1⟩⟩ (i+1)=⟨g.S.L,t,hi⟩:=fun h=>by
     rw [hstep]
     unfold rack
     split
     · rcases h with h | h
       · unfold ack1
         dsimp only
         rw [hmr]
         dsimp only
         rw [h,if_pos rfl]
       · simp_all
     · rfl
    have hiw:IntKind.i64.wrap ((i:Int)+1)=((i+1:Nat):Int):=i64_succ (by omega)
    rw [hla]
    refine SPM ?_; repeat' (first|refine ⟨fun hc=>?_,fun hc=>?_⟩|intro)
    · rw [hiw]
      exact Fin.round ⟨i+1,g,t,hi⟩ ⟨hi1,hk,hgk,hgp,(hno (.inl hc)).symm⟩ envA (fun _ h=>h) (by dsimp only; omega)
    refine WL.e rfl (Ef.callF (c:=g.H) (by exact rfl) (.last (.there (.there (.there (.there (.there .all)))))) (fun hd=>htold _ (hl.mono (fun _ h=>addF_in hd h)))) ?_
    rintro _ _ ⟨_,⟨rfl,rfl⟩,rfl⟩
    cases htb:toldB base gs i with
    | false=>
      refine SPM ?_; repeat' (first|refine ⟨fun hc=>?_,fun hc=>?_⟩|intro)
      rw [hiw]
      exact Fin.round ⟨i+1,g,t,hi⟩ ⟨hi1,hk,hgk,hgp,(hno (.inr htb)).symm⟩ envA (fun _ h=>In.of_sub (.pick (.right .here) (.pick (.right .here) (.pick (.right .here) (.pick (.right .here) (.pick (.right .here) (.last (L:=g.H) .here)))))) h) (by dsimp only; omega)
    | true=>
      have hack:m.r.acked=false:=hc
      obtain ⟨g1,k1,o1,p1,e1,l1,m1⟩:=fr_set hk hgk hm hla (k:=11) (v:=.bool true) (r':=setAck m.r) rfl rfl
      refine SPM ?_; repeat' (first|refine ⟨fun hc=>?_,fun hc=>?_⟩|intro)
      refine WL.e0A ?_ (Ef.st rfl rfl rfl (.left p1))
      clear s0 c7 c11 s1
      obtain ⟨t0,t1⟩:=fr_row (F:=F) k1 o1 m1 hla
      have d6:Sl.Can F g1.H lb (lo+(i:Int).toNat * 15+0+6) [.slice m.ba m.bn m.bc]:=t1.one (i:=6) rfl
      have d8:Sl.Can F g1.H lb (lo+(i:Int).toNat * 15+8) [.int .i64 m.r.at_]:=t1.one (i:=8) rfl
      have d13:Sl.Can F g1.H lb (lo+(i:Int).toNat * 15+13) [.bool m.r.gone]:=t1.one (i:=13) rfl
      have d14:Sl.Can F g1.H lb (lo+(i:Int).toNat * 15+14) [.bool m.r.again]:=t1.one (i:=14) rfl
      refine SPM ?_; repeat' (first|refine ⟨fun hc=>?_,fun hc=>?_⟩|intro)
      refine WL.e0A ?_ (Ef.st rfl rfl rfl (.right (.here (hiC_put hpath))))
      refine S1 ?_
      refine Fin.next ?_
      refine W.seq ?_
      refine W.cut (G:=Unit) (fun _=>[(0,.pointer (some ⟨f.R,0,none⟩)),(3,.pointer (some ⟨b3,0,none⟩)),(4,.pointer (some ⟨b4,0,none⟩)),(6,.pointer (some ⟨b6,0,none⟩)),(7,.slice (some ⟨b7,0,none⟩) 4 4),(9,.slice (some ⟨b9,0,none⟩) 4 4),(10,.int .i64 i),(11,.int .i64 m.r.path)])
       (fun _=>g1.H++[(b9,.cells (hiC (hi.set m.r.path i)).toArray 3 (0,0)),(b7,.cells (fsC f.S.L 0).toArray 3 (0,0)),(b6,.cells (tldC (tk1 m.r t)).toArray 186 (0,0)),(b4,.cells (tldC Tld.zero).toArray 186 (0,0)),(b3,.cells [.int .u32 y,.int .u32 room,.slice ga gn gc,.slice ra rn rc].toArray 75 (0,0))]) (fun _=>True) (fun K' hK _=>?_) ?_
      · have cT:Sl.Can F [(b6,.cells (tldC t).toArray 186 (0,0))] b6 (0+2+m.r.path.toNat * 5+0) [.int .i64 (Flt.Tld.gt t m.r.path).acked]:=cT_can b6 t hpath
        refine SPM ?_; repeat' (first|refine ⟨fun hc=>?_,fun hc=>?_⟩|intro)
        · refine W.drawA ?_
          refine SPM ?_; repeat' (first|refine ⟨fun hc=>?_,fun hc=>?_⟩|intro)
          refine WD.p rfl (Pu.iaA rfl rfl hp4) ?_
          refine SPM ?_; repeat' (first|refine ⟨fun hc=>?_,fun hc=>?_⟩|intro)
          refine WD.p rfl (Pu.iaA rfl rfl hp4) ?_
          refine SPM ?_; repeat' (first|refine ⟨fun hc=>?_,fun hc=>?_⟩|intro)
          refine WD.e0A ?_ (Ef.st rfl rfl rfl (.right (.there (.there (.here (tl_ack hpath))))))
          refine SPM ?_; repeat' (first|refine ⟨fun hc=>?_,fun hc=>?_⟩|intro)
          have e:tk1 m.r t=t.upd m.r.path (sAck (IntKind.i64.wrap ((Flt.Tld.gt t m.r.path).acked+m.bn))):=by unfold tk1; rw [if_neg (by simpa using hc),hbn']
          exact Fin.cut hK () trivial envA (fun _ h=>by rw [e]; exact h)
        · have e:tk1 m.r t=t:=by unfold tk1; rw [if_pos (by simpa using hc)]
          exact Fin.cut hK () trivial envA (fun _ h=>by rw [e]; exact h)
      rintro _ _
      refine Fin.next ?_
      refine W.seq ?_
      refine W.cut (G:=Unit) (fun _=>[(0,.pointer (some ⟨f.R,0,none⟩)),(3,.pointer (some ⟨b3,0,none⟩)),(4,.pointer (some ⟨b4,0,none⟩)),(6,.pointer (some ⟨b6,0,none⟩)),(7,.slice (some ⟨b7,0,none⟩) 4 4),(9,.slice (some ⟨b9,0,none⟩) 4 4),(10,.int .i64 i),(11,.int .i64 m.r.path)])
       (fun _=>g1.H++[(b9,.cells (hiC (hi.set m.r.path i)).toArray 3 (0,0)),(b7,.cells (fsC f.S.L 0).toArray 3 (0,0)),(b6,.cells (tldC (tk2 m.r (tk1 m.r t))).toArray 186 (0,0)),(b4,.cells (tldC Tld.zero).toArray 186 (0,0)),(b3,.cells [.int .u32 y,.int .u32 room,.slice ga gn gc,.slice ra rn rc].toArray 75 (0,0))]) (fun _=>True) (fun K' hK _=>?_) ?_
      · refine SPM ?_; repeat' (first|refine ⟨fun hc=>?_,fun hc=>?_⟩|intro)
        · refine WL.p rfl (Pu.iaA rfl rfl hp4) ?_
          refine SPM ?_; repeat' (first|refine ⟨fun hc=>?_,fun hc=>?_⟩|intro)
          refine WL.e0A ?_ (Ef.st rfl rfl rfl (.right (.there (.there (.here (tl_at hpath))))))
          refine SPM ?_; repeat' (first|refine ⟨fun hc=>?_,fun hc=>?_⟩|intro)
          refine WL.p rfl (Pu.iaA rfl rfl hp4) ?_
          refine SPM ?_; repeat' (first|refine ⟨fun hc=>?_,fun hc=>?_⟩|intro)
          refine WL.e0A ?_ (Ef.st rfl rfl rfl (.right (.there (.there (.here (tl_some hpath))))))
          refine SPM ?_; repeat' (first|refine ⟨fun hc=>?_,fun hc=>?_⟩|intro)
          have e:tk2 m.r (tk1 m.r t)=((tk1 m.r t).upd m.r.path (sAt m.r.at_)).upd m.r.path sSome:=by unfold tk2; rw [if_neg (by simpa using hc)]
          exact Fin.cut hK () trivial envA (fun _ h=>by rw [e]; exact h)
        · have e:tk2 m.r (tk1 m.r t)=tk1 m.r t:=by conv=>lhs; unfold tk2; rw [if_pos (show m.r.again=true by simpa using hc)]
          exact Fin.cut hK () trivial envA (fun _ h=>by rw [e]; exact h)
      rintro _ _
      have cF:Sl.Can F [(b7,.cells (fsC f.S.L 0).toArray 3 (0,0))] b7 (0+m.r.path.toNat * 1) [.int .i64 (oI ((lowQ f.S.L).get m.r.path))]:=fsC_can b7 f.S.L hpath
      have hnew:rackN (lowQ f.S.L) base gs ⟨f.S.L,Tld.zero,⟨-1,-1,-1,-1⟩⟩ (i+1)=⟨g1.S.L,tk3 m.r (decide ((lowQ f.S.L).get m.r.path=some i)) (tk2 m.r (tk1 m.r t)),hi.set m.r.path i⟩:=by
       rw [hstep,tk_all hpath,l1]
       unfold rack
       rw [if_pos htb]
       unfold ack1
       dsimp only
       rw [hmr]
       dsimp only
       rw [hack,if_neg (by decide)]
      have hgp1:pathOk g1.S.L:=by rw [l1]; exact pathOk_set hgp hmr rfl
      rw [←oI_eq] at hnew
      refine SPM ?_; repeat' (first|refine ⟨fun hc=>?_,fun hc=>?_⟩|intro)
      · refine WL.p rfl (Pu.iaA rfl rfl hp4) ?_
        refine SPM ?_; repeat' (first|refine ⟨fun hc=>?_,fun hc=>?_⟩|intro)
        refine WL.e0A ?_ (Ef.st rfl rfl rfl (.right (.there (.there (.here (tl_pse hpath))))))
        refine SPM ?_; repeat' (first|refine ⟨fun hc=>?_,fun hc=>?_⟩|intro)
        rw [hc] at hnew
        rw [hiw]
        exact Fin.round ⟨i+1,g1,_,hi.set m.r.path i⟩ ⟨hi1,k1,o1,hgp1,hnew.symm⟩ envA (fun _ h=>In.of_sub (.pick (.right .here) (.pick (.right .here) (.pick (.right .here) (.pick (.right .here) (.pick (.right .here) (.last (L:=g1.H) .here)))))) h) (by dsimp only; omega)
      · rw [hc] at hnew
        rw [hiw]
        exact Fin.round ⟨i+1,g1,_,hi.set m.r.path i⟩ ⟨hi1,k1,o1,hgp1,hnew.symm⟩ envA (fun _ h=>In.of_sub (.pick (.right .here) (.pick (.right .here) (.pick (.right .here) (.pick (.right .here) (.pick (.right .here) (.last (L:=g1.H) .here)))))) h) (by dsimp only; omega)
   have hie:i=f.ln:=by have:=of_decide_eq_false hc; omega
   subst hie
   obtain ⟨L1,hL1⟩:∃ L1,g.S.L=L1:=⟨_,rfl⟩
   rw [hL1] at hak
   have hlenL:∀ g':FR,Lk f g'→g'.ok→g'.S.L.length=f.ln:=fun g' h1 h2=>(fr_len h2).trans h1.ln
   have hL1n:L1.length=f.ln:=by rw [←hL1]; exact hlenL g hk hgk
   refine W.loop (G:=RaG) (fun q=>[(0,.pointer (some ⟨f.R,0,none⟩)),(3,.pointer (some ⟨b3,0,none⟩)),(4,.pointer (some ⟨b4,0,none⟩)),(6,.pointer (some ⟨b6,0,none⟩)),(9,.slice (some ⟨b9,0,none⟩) 4 4),(12,.int .i64 q.i)])
    (fun q=>(b9,.cells (hiC hi).toArray 3 (0,0))::(b6,.cells (tldC q.t).toArray 186 (0,0))::(b4,.cells (tldC Tld.zero).toArray 186 (0,0))::(b3,.cells [.int .u32 y,.int .u32 room,.slice ga gn gc,.slice ra rn rc].toArray 75 (0,0))::q.g.H)
    (fun q=>q.i≤f.ln∧Lk f q.g∧q.g.ok∧pathOk q.g.S.L∧(q.g.S.L,q.t)=(List.range q.i).foldl (miss1 hi) (L1,t)) (fun q=>f.ln - q.i) ⟨0,g,t,hi⟩ ⟨Nat.zero_le _,hk,hgk,hgp,by dsimp only; rw [hL1]; rfl⟩ envA (fun _ h=>h.sublist (.cons_cons _ (.cons _ (.refl _)))) ?_
   clear q0 hgp hgk hk hc
   obtain ⟨t',ht'⟩:∃ t',t=t':=⟨_,rfl⟩
   rw [ht'] at hak ⊢
   clear ht' hL1 t g
   rintro ⟨i,g,t,_⟩ ⟨hi0,hk,hgk,hgp,hfo⟩
   dsimp only at hi0 hk hgk hgp hfo ⊢
   have q0:Sl.Can F g.H f.R (0+0) [.slice f.la f.ln f.lc]:=by have:=(fr_can (F:=F) g).one (i:=0) rfl; rw [hk.R,hk.la,hk.ln,hk.lc] at this; exact this
   refine SPM ?_; repeat' (first|refine ⟨fun hc=>?_,fun hc=>?_⟩|intro)
   ·
    have hi1:i < f.ln:=by have:=of_decide_eq_true hc; omega
    have hgl':g.rs.length=f.ln:=hgk.len.trans hk.ln
    obtain ⟨m,hm⟩:∃ m,g.rs[i]? = some m:=⟨g.rs[i]'(by omega),by simp⟩
    have hmr:=fr_r hm
    have hpath:pth m.r.path:=hgp m.r (List.mem_of_getElem? hmr)
    have hp4:0≤m.r.path∧m.r.path < ((4:Nat):Int):=by rcases hpath with h | h | h | h <;> rw [h] <;> decide
    obtain ⟨lb,lo,hla,-⟩:=fr_el (F:=F) hgk hm
    rw [hk.la] at hla
    obtain ⟨s0,s1⟩:=fr_row (F:=F) hk hgk hm hla
    clear q0
    have hia:0≤(i:Int)∧(i:Int) < f.ln:=by omega
    have hiw:IntKind.i64.wrap ((i:Int)+1)=((i+1:Nat):Int):=i64_succ (by omega)
    have hstep:(List.range (i+1)).foldl (miss1 hi) (L1,t')=if missB hi i m.r then (g.S.L.set i (missR m.r),if 3≤i64 (m.r.miss+1) then t.upd m.r.path fastP else t) else (g.S.L,t):=by
     rw [miss_snoc,←hfo]
     unfold miss1
     dsimp only
     rw [hmr]
    have hno:missB hi i m.r=false→(g.S.L,t)=(List.range (i+1)).foldl (miss1 hi) (L1,t'):=fun h=>by rw [hstep,h]; rfl
    have c7:Sl.Can F g.H lb (lo+(i:Int).toNat * 15+7) [.int .i64 m.r.path]:=s1.one (i:=7) rfl
    have c10:Sl.Can F g.H lb (lo+(i:Int).toNat * 15+10) [.int .i64 m.r.miss]:=s1.one (i:=10) rfl
    have c14:Sl.Can F g.H lb (lo+(i:Int).toNat * 15+14) [.bool m.r.again]:=s1.one (i:=14) rfl
    have cH:Sl.Can F [(b9,.cells (hiC hi).toArray 3 (0,0))] b9 (0+m.r.path.toNat * 1) [.int .i64 (hi.get m.r.path)]:=hiC_can b9 hi hpath
    rw [hla]
    refine SPM ?_; repeat' (first|refine ⟨fun hc=>?_,fun hc=>?_⟩|intro)
    refine WL.s rfl (Rd.ldaC rfl (by exact rfl) (s1.mono (fun _ h=>h.sublist findA))) ?_
    refine SPM ?_; repeat' (first|refine ⟨fun hc=>?_,fun hc=>?_⟩|intro)
    refine WL.e rfl (Ef.callR (c:=[]) (by exact rfl) (.nil _) (raway_tr _ m)) ?_
    rintro _ _ ⟨rfl,rfl⟩
    refine SPM ?_; repeat' (first|refine ⟨fun hc=>?_,fun hc=>?_⟩|intro)
    · have hb:missB hi i m.r=false:=by unfold missB; simp_all
      rw [hiw]
      exact Fin.round ⟨i+1,g,t,hi⟩ ⟨hi1,hk,hgk,hgp,hno hb⟩ envA (fun _ h=>h) (by dsimp only; omega)
    · have hb:missB hi i m.r=false:=by unfold missB; rw [show m.r.again=true from hc]; simp
      rw [hiw]
      exact Fin.round ⟨i+1,g,t,hi⟩ ⟨hi1,hk,hgk,hgp,hno hb⟩ envA (fun _ h=>h) (by dsimp only; omega)
    · have hb:missB hi i m.r=false:=by unfold missB; rw [decide_eq_false (by have:=of_decide_eq_true hc; omega)]; simp
      rw [hiw]
      exact Fin.round ⟨i+1,g,t,hi⟩ ⟨hi1,hk,hgk,hgp,hno hb⟩ envA (fun _ h=>h) (by dsimp only; omega)
    have hb:missB hi i m.r=true:=by
     rename_i u1 u2
     have u3:=of_decide_eq_false hc
     unfold missB
     rw [show away m.r=true by simpa using u1,show m.r.again=false from u2,decide_eq_true (by omega)]
     rfl
    rw [hb,if_pos rfl] at hstep
    obtain ⟨g1,k1,o1,p1,e1,l1,m1⟩:=fr_set hk hgk hm hla (k:=10) (v:=.int .i64 (IntKind.i64.wrap (m.r.miss+1))) (r':={ m.r with miss:=IntKind.i64.wrap (m.r.miss+1) }) rfl rfl
    refine WL.e0A ?_ (Ef.st rfl rfl rfl (.there (.there (.there (.there p1)))))
    clear s0 s1 c7 c10 c14
    obtain ⟨t0,t1⟩:=fr_row (F:=F) k1 o1 m1 hla
    have d10:Sl.Can F g1.H lb (lo+(i:Int).toNat * 15+10) [.int .i64 (IntKind.i64.wrap (m.r.miss+1))]:=t1.one (i:=10) rfl
    have hgp1:pathOk g1.S.L:=by rw [l1]; exact pathOk_set hgp hmr rfl
    refine SPM ?_; repeat' (first|refine ⟨fun hc=>?_,fun hc=>?_⟩|intro)
    · have hge:3≤IntKind.i64.wrap (m.r.miss+1):=of_decide_eq_true hc
      rw [if_pos hge,show missR m.r={ m.r with miss:=IntKind.i64.wrap (m.r.miss+1),lost:=true } from if_pos hge] at hstep
      obtain ⟨g2,k2,o2,p2,e2,l2,m2⟩:=fr_set k1 o1 m1 hla (k:=12) (v:=.bool true) (r':={ m.r with miss:=IntKind.i64.wrap (m.r.miss+1),lost:=true }) rfl rfl
      refine WL.e0A ?_ (Ef.st rfl rfl rfl (.there (.there (.there (.there p2)))))
      clear t0 t1 d10
      refine SPM ?_; repeat' (first|refine ⟨fun hc=>?_,fun hc=>?_⟩|intro)
      refine WL.p rfl (Pu.iaA rfl rfl hp4) ?_
      refine SPM ?_; repeat' (first|refine ⟨fun hc=>?_,fun hc=>?_⟩|intro)
      refine WL.e0A ?_ (Ef.st rfl rfl rfl (.there (.here (tl_fast hpath))))
      refine SPM ?_; repeat' (first|refine ⟨fun hc=>?_,fun hc=>?_⟩|intro)
      rw [hiw]
      exact Fin.round ⟨i+1,g2,t.upd m.r.path fastP,hi⟩ ⟨hi1,k2,o2,by rw [l2,l1,List.set_set]; exact pathOk_set hgp hmr rfl,by rw [hstep,l2,l1,List.set_set]⟩ envA (fun _ h=>h) (by dsimp only; omega)
    · have hge:¬ 3≤IntKind.i64.wrap (m.r.miss+1):=of_decide_eq_false hc
      rw [if_neg hge,show missR m.r={ m.r with miss:=IntKind.i64.wrap (m.r.miss+1) } from if_neg hge] at hstep
      rw [hiw]
      exact Fin.round ⟨i+1,g1,t,hi⟩ ⟨hi1,k1,o1,hgp1,by rw [hstep,l1]⟩ envA (fun _ h=>h) (by dsimp only; omega)
   have hie:i=f.ln:=by have:=of_decide_eq_false hc; omega
   subst hie
   have hx:(g.S.L,t)=missAll hi (L1,t'):=by unfold missAll; dsimp only; rw [hL1n]; exact hfo
   have hak2:=hak
   rw [←hL,rack_all (by rw [hL]; exact hok) (by rw [hL]; exact hbn)] at hak2
   have hbs:g.S.L.map (·.bs)=f.S.L.map (·.bs):=by
    have h1:g.S.L=(missAll hi (L1,t')).1:=congrArg Prod.fst hx
    rw [h1,missAll_bs]
    have h2:=congrArg AK.L hak2
    dsimp only at h2 ⊢
    rw [h2,ackAll_bs]
   have hft:t.freed=0:=by
    have h1:t=(missAll hi (L1,t')).2:=congrArg Prod.snd hx
    rw [h1]
    unfold missAll
    rw [missF_freed]
    have h2:=congrArg AK.t hak2
    dsimp only at h2 ⊢
    rw [h2,ackAll_freed]
    rfl
   have hsm:g.small:=by
    show sumB _ g.S.L≤_
    rw [sumB_bs (M:=f.S.L) hbs]
    exact hs
   have hgl':g.rs.length=f.ln:=hgk.len.trans hk.ln
   have hrs:Flt.rsack f.S y gs=some (⟨g.S.L.drop base,y,f.paths⟩,{ t with freed:=(sumB (fun _=>true) (g.S.L.take base):Nat),whole:=wholeB base gs g.S.L f.ln }):=by
    unfold Flt.rsack
    rw [show Spn.far f.S.c y=base from hbase,hL,if_neg (by rw [decide_eq_false (by omega),hok]; decide),←hak]
    dsimp only
    rw [←hx]
    rfl
   rw [hrs]
   clear hak hak2 hfo hx hrs q0 hc
   have q0:Sl.Can F g.H f.R (0+0) [.slice f.la f.ln f.lc]:=by have:=(fr_can (F:=F) g).one (i:=0) rfl; rw [hk.R,hk.la,hk.ln,hk.lc] at this; exact this
   have q1:Sl.Can F g.H f.R (0+1) [.int .u32 f.c]:=by have:=(fr_can (F:=F) g).one (i:=1) rfl; rw [hk.R,hk.c] at this; exact this
   refine W.drawA ?_
   refine SPM ?_; repeat' (first|refine ⟨fun hc=>?_,fun hc=>?_⟩|intro)
   rw [show IntKind.i64.wrap (IntKind.u32.wrap (y - f.c))=(base:Int) by rw [show IntKind.u32.wrap (y - f.c)=(base:Int) from hfi.symm]; exact i64_id (by omega) (by omega)]
   refine W.loop (G:=Nat) (fun n=>[(0,.pointer (some ⟨f.R,0,none⟩)),(3,.pointer (some ⟨b3,0,none⟩)),(4,.pointer (some ⟨b4,0,none⟩)),(6,.pointer (some ⟨b6,0,none⟩)),(14,.int .i64 base),(15,.int .i64 n)])
    (fun n=>(b6,.cells (tldC { t with whole:=wholeB base gs g.S.L n }).toArray 186 (0,0))::(b4,.cells (tldC Tld.zero).toArray 186 (0,0))::(b3,.cells [.int .u32 y,.int .u32 room,.slice ga gn gc,.slice ra rn rc].toArray 75 (0,0))::g.H)
    (fun n=>n≤f.ln) (fun n=>f.ln - n) 0 (Nat.zero_le _) envA (fun _ h=>h.sublist (.cons _ (.refl _))) ?_
   intro n hn0'
   refine SPM ?_; repeat' (first|refine ⟨fun hc=>?_,fun hc=>?_⟩|intro)
   ·
    have hi1:n < f.ln:=by have:=of_decide_eq_true (p:=(n:Int) < (f.ln:Int)) (by assumption); omega
    have hb0:base=0:=by have:=eq_of_beq hc; omega
    obtain ⟨m,hm⟩:∃ m,g.rs[n]? = some m:=⟨g.rs[n]'(by omega),by simp⟩
    have hmr:=fr_r hm
    obtain ⟨lb,lo,hla,-⟩:=fr_el (F:=F) hgk hm
    rw [hk.la] at hla
    obtain ⟨s0,s1⟩:=fr_row (F:=F) hk hgk hm hla
    clear q0
    have hia:0≤(n:Int)∧(n:Int) < f.ln:=by omega
    have c11:Sl.Can F g.H lb (lo+(n:Int).toNat * 15+11) [.bool m.r.acked]:=s1.one (i:=11) rfl
    have hiw:IntKind.i64.wrap ((n:Int)+1)=((n+1:Nat):Int):=i64_succ (by omega)
    have hws:=wholeB_succ base gs g.S.L n
    rw [hmr] at hws
    dsimp only at hws
    rw [decide_eq_true hb0,Bool.true_and] at hws
    have htold:∀ F',Lst F' [] 2 (gs.flatMap gC) ga gn gc→Tr Tryz.prog 162 [.pointer (some ⟨f.R,0,none⟩),.agg [.int .u32 y,.int .u32 room,.slice ga gn gc,.slice ra rn rc].toArray,.int .i64 n].toArray F' g.H (fun v H=>v=.bool (toldB base gs n)∧H=g.H):=fun F' hl'=>by
     have:=rtold_tr F' g hgk y room gs ga gn gc hl' hg hgl ra rn rc n (by rw [hk.ln]; exact hi1)
     rw [hk.R,hk.c,hbase] at this
     exact this
    rw [hla]
    refine SPM ?_; repeat' (first|refine ⟨fun hc=>?_,fun hc=>?_⟩|intro)
    · have hack:m.r.acked=true:=hc
      refine WL.e rfl (Ef.callF (c:=g.H) (by exact rfl) (.last (.there (.there (.there .all)))) (fun hd=>htold _ (hl.mono (fun _ h=>addF_in hd h)))) ?_
      rintro _ _ ⟨_,⟨rfl,rfl⟩,rfl⟩
      rw [hack,Bool.true_and] at hws
      cases htb:toldB base gs n with
      | false=>
        rw [htb] at hws
        refine SPM ?_; repeat' (first|refine ⟨fun hc=>?_,fun hc=>?_⟩|intro)
        rw [hiw]
        refine Fin.round (n+1) hi1 envA (fun _ h=>?_) (by omega)
        dsimp only
        rw [hws,Bool.not_false,Bool.not_true,Bool.and_false]
        exact In.of_sub (.pick (.right .here) (.pick (.right .here) (.pick (.right .here) (.last (L:=g.H) .here)))) h
      | true=>
        rw [htb] at hws
        refine SPM ?_; repeat' (first|refine ⟨fun hc=>?_,fun hc=>?_⟩|intro)
        rw [hiw]
        refine Fin.round (n+1) hi1 envA (fun _ h=>?_) (by omega)
        dsimp only
        rw [hws,Bool.not_true,Bool.not_false,Bool.and_true]
        exact In.of_sub (.pick (.right .here) (.pick (.right .here) (.pick (.right .here) (.last (L:=g.H) .here)))) h
    · rw [show m.r.acked=false from hc,Bool.false_and,Bool.not_false,Bool.and_true] at hws
      rw [hiw]
      refine Fin.round (n+1) hi1 envA (fun _ h=>?_) (by omega)
      dsimp only
      rw [hws]
      exact h
   · have hi1:n < f.ln:=by have:=of_decide_eq_true (p:=(n:Int) < (f.ln:Int)) (by assumption); omega
     have hb0:base≠0:=by rintro rfl; simp at hc
     have hiw:IntKind.i64.wrap ((n:Int)+1)=((n+1:Nat):Int):=i64_succ (by omega)
     have hws:wholeB base gs g.S.L (n+1)=wholeB base gs g.S.L n:=by
      rw [wholeB_succ,decide_eq_false hb0]
      cases g.S.L[n]? <;> simp
     rw [hiw]
     refine Fin.round (n+1) hi1 envA (fun _ h=>?_) (by omega)
     dsimp only
     rw [hws]
     exact h
   have hne:n=f.ln:=by have:=of_decide_eq_false hc; omega
   subst hne
   obtain ⟨wv,hwv⟩:∃ wv,wholeB base gs g.S.L f.ln=wv:=⟨_,rfl⟩
   rw [hwv]
   refine W.loop (G:=Nat) (fun n=>[(0,.pointer (some ⟨f.R,0,none⟩)),(3,.pointer (some ⟨b3,0,none⟩)),(4,.pointer (some ⟨b4,0,none⟩)),(6,.pointer (some ⟨b6,0,none⟩)),(14,.int .i64 base),(16,.int .i64 n)])
    (fun n=>(b6,.cells (tldC { t with whole:=wv,freed:=(sumB (fun _=>true) (g.S.L.take n):Nat) }).toArray 186 (0,0))::(b4,.cells (tldC Tld.zero).toArray 186 (0,0))::(b3,.cells [.int .u32 y,.int .u32 room,.slice ga gn gc,.slice ra rn rc].toArray 75 (0,0))::g.H)
    (fun n=>n≤base) (fun n=>base - n) 0 (Nat.zero_le _) envA (fun _ h=>by
     have e:(({ t with whole:=wv,freed:=((sumB (fun _=>true) (g.S.L.take 0):Nat):Int) }):Tld)={ t with whole:=wv }:=by rw [show ((sumB (fun _=>true) (g.S.L.take 0):Nat):Int)=t.freed from hft.symm]
     dsimp only
     rw [e]
     exact h) ?_
   intro n hnb
   refine SPM ?_; repeat' (first|refine ⟨fun hc=>?_,fun hc=>?_⟩|intro)
   · have hi1:n < base:=by have:=of_decide_eq_true hc; omega
     obtain ⟨m,hm⟩:∃ m,g.rs[n]? = some m:=⟨g.rs[n]'(by omega),by simp⟩
     have hmr:=fr_r hm
     have hbn':=fr_bn hgk hm
     obtain ⟨lb,lo,hla,-⟩:=fr_el (F:=F) hgk hm
     rw [hk.la] at hla
     obtain ⟨s0,s1⟩:=fr_row (F:=F) hk hgk hm hla
     clear q0
     have hia:0≤(n:Int)∧(n:Int) < f.ln:=by omega
     have c6:Sl.Can F g.H lb (lo+(n:Int).toNat * 15+0+6) [.slice m.ba m.bn m.bc]:=s1.one (i:=6) rfl
     have hiw:IntKind.i64.wrap ((n:Int)+1)=((n+1:Nat):Int):=i64_succ (by omega)
     have hs1:=sumB_snoc (fun _=>true) hmr
     rw [if_pos rfl,hbn'] at hs1
     have hs2:=fr_sum hsm (fun _=>true) (n+1)
     rw [hs1] at hs2
     refine W.drawA ?_
     refine SPM ?_; repeat' (first|refine ⟨fun hc=>?_,fun hc=>?_⟩|intro)
     rw [hiw]
     refine Fin.round (n+1) hi1 envA (fun _ h=>?_) (by omega)
     dsimp only at h ⊢
     rw [i64_id (n:=((sumB (fun _=>true) (g.S.L.take n):Nat):Int)+(m.bn:Int)) (by omega) (by omega)] at h
     rw [hs1]
     exact h
   have hne:n=base:=by have:=of_decide_eq_false hc; omega
   subst hne
   refine SPM ?_; repeat' (first|refine ⟨fun hc=>?_,fun hc=>?_⟩|intro)
   rw [←hk.la,←hk.ln,←hk.lc]
   refine WL.p rfl (Pu.slLo (lo:=(n:Int)) (n:=g.ln) (c:=g.lc) rfl rfl (by have:=hk.ln; omega)) ?_
   rename_i b5
   have hnl:n≤g.ln:=by have:=hk.ln; omega
   have hnl2:g.ln≤2048:=by have:=hk.ln; omega
   have hdl:((g.rs.drop n).flatMap RrM.cells).length=(g.ln - n) * 15:=by rw [flat_len' RrM.cells 15 (fun _=>rfl),List.length_drop,hgk.len]
   rw [show ((n:Int).toNat)=n by omega]
   refine WL.e rfl (Ef.app (m:=g.ln - n) (news:=(g.rs.drop n).flatMap RrM.cells) (by exact rfl) (by exact rfl) rfl rfl (OwnS.empty _ _ b5) (.last .here) (by have:=fr_tail (F:=F) hgk hnl; rw [show ((n:Int).toNat)=n by omega] at this; exact this.mono (fun _ h=>h.sublist findA)) hdl (fun u hu=>by
    obtain ⟨q,_,hq⟩:=List.mem_flatMap.1 hu
    simp only [RrM.cells,List.mem_cons,List.not_mem_nil,or_false] at hq
    rcases hq with rfl | rfl | rfl | rfl | rfl | rfl | rfl | rfl | rfl | rfl | rfl | rfl | rfl | rfl | rfl <;> rfl) (by rw [hdl]; simp; omega) (by rw [hdl]; simp [maxLen]; omega)) ?_
   rintro v' _ ⟨lb',hown,rfl⟩
   obtain ⟨sa,sn,sc,rfl,_,_⟩:=OwnS.shape hown
   refine SPM ?_; repeat' (first|refine ⟨fun hc=>?_,fun hc=>?_⟩|intro)
   refine WL.e0A ?_ (Ef.st rfl rfl rfl (.right (.there (.there (.there (show PutAt f.R (0+0) [.slice sa sn sc] g.H ({ g with la:=sa,ln:=sn,lc:=sc }:FR).H from hk.R ▸ fr_head g sa sn sc))))))
   refine SPM ?_; repeat' (first|refine ⟨fun hc=>?_,fun hc=>?_⟩|intro)
   refine WL.e0A ?_ (Ef.st rfl rfl rfl (.right (.there (.there (.there (show PutAt f.R (0+1) [.int .u32 y] ({ g with la:=sa,ln:=sn,lc:=sc }:FR).H ({ g with la:=sa,ln:=sn,lc:=sc,c:=y }:FR).H from hk.R ▸ fr_hc { g with la:=sa,ln:=sn,lc:=sc } y))))))
   refine SPM ?_; repeat' (first|refine ⟨fun hc=>?_,fun hc=>?_⟩|intro)
   refine Fin.retW (by exact rfl) resA (H':=({ g with la:=sa,ln:=sn,lc:=sc,c:=y,lb:=lb',rs:=g.rs.drop n }:FR).H) (fun w h=>fr_keep g n sa sn sc lb' [(b6,_),(b4,_),(b3,_)] y w h) ⟨?_,{ g with la:=sa,ln:=sn,lc:=sc,c:=y,lb:=lb',rs:=g.rs.drop n },⟨?_,fun q hq=>hgk.recs q (List.mem_of_mem_drop hq),?_⟩,rfl,hk.R,?_⟩
   · rfl
   · exact hown
   · dsimp only
     rw [List.length_drop]
     omega
   · show Flt.S.mk ((g.rs.drop n).map (·.r)) y g.paths=_
     rw [List.map_drop,hk.paths]
     rfl
end Go.Proofs.YtlfpemmdehmbfaaGreat
namespace Go.Proofs.YtlfpemmdehmbfaaGreat
open Go Go.Sl Go.Pth
theorem dtold_can (F:Nat→Option Obj) (b:Nat) (t:Flt.Tld) {i:Nat} (hi:i < 4):Sl.Can F [(b,.cells (tldC t).toArray 186 (0,0))] b (0+2+(i:Int).toNat * 5) (PTcells (Snd.ptOf t i)):=by
 have h:i=0∨i=1∨i=2∨i=3:=by omega
 rcases h with rfl | rfl | rfl | rfl
 all_goals exact Can.cut (n:=5) (.here rfl)
structure DWay (n:Nat) (t:DsM) (i:Nat) (w:Snd.Way) (u:DsM):Prop where
 ok:u.ok n
 R:u.R=t.R
 cells:u.cells=t.cells
 f:u.f=t.f
 S:u.S={ t.S with ws:=t.S.ws.set i w }
theorem DWay.refl {n:Nat} {t:DsM} (h:t.ok n) {i:Nat} {m:DwM} (hm:t.ws[i]? = some m):DWay n t i m.W t:=⟨h,rfl,rfl,rfl,by
 have e:t.S.ws[i]? = some m.W:=by unfold DsM.S; dsimp only; rw [List.getElem?_map,hm]; rfl
 rw [set_get_self e]⟩
theorem DWay.at_ {n:Nat} {t u:DsM} {i:Nat} {w:Snd.Way} (h:DWay n t i w u) (hi:i < t.ws.length):∃ m,u.ws[i]? = some m∧m.W=w:=by
 have e:=congrArg (fun x:Snd.S=>x.ws[i]?) h.S
 dsimp only at e
 rw [List.getElem?_set_self (by simpa [DsM.S] using hi)] at e
 unfold DsM.S at e
 dsimp only at e
 rw [List.getElem?_map] at e
 cases hm:u.ws[i]? with
 | none=>rw [hm] at e; cases e
 | some m=>rw [hm] at e; exact ⟨m,rfl,Option.some.inj e⟩
theorem DWay.path {n:Nat} {t u:DsM} {i:Nat} {w:Snd.Way} (h:DWay n t i w u) {m:DwM} (hm:u.ws[i]? = some m) (hw:m.W=w) (p:Pth.S) (hp:Pth.Ok p):DWay n t i { w with p:=p } (u.setW i { m with p:=m.p.with p }):=by
 have hwo:=h.ok.way hm
 have e:DwM.W { m with p:=m.p.with p }={ w with p:=p }:=by rw [←hw]; rfl
 refine ⟨h.ok.setW hm rfl rfl rfl rfl ⟨hp,hwo.timer,hwo.mark⟩,h.R,h.cells,h.f,?_⟩
 rw [DsM.setW_S,h.S,e,List.set_set]
theorem DWay.putT {n:Nat} {t u:DsM} {i:Nat} {w:Snd.Way} (h:DWay n t i w u) (hi:i < t.ws.length) {b off:Nat} (ha:t.ta=some ⟨b,off,none⟩) (v:Int) (hv:-1≤v∧v≤2305843009213693952+1048576) :
 ∃ u',DWay n t i { w with timer:=v } u'∧PutAt b (off+(i:Int).toNat * 1) [.int .i64 v] u.H u'.H:=by
 obtain ⟨m,hm,hw⟩:=h.at_ hi
 have hwo:=h.ok.way hm
 obtain ⟨u',h1,h2,h3,_,h4,_,h5,h6⟩:=h.ok.putT hm ((DsM.slc h.cells).2.1.1.trans ha) v ⟨hwo.p,hv,hwo.mark⟩
 refine ⟨u',⟨h1,h3.trans h.R,h5.trans h.cells,h4.trans h.f,?_⟩,h2⟩
 rw [h6,h.S,List.set_set,←hw]
 rfl
theorem DWay.putS {n:Nat} {t u:DsM} {i:Nat} {w:Snd.Way} (h:DWay n t i w u) (hi:i < t.ws.length) {b off:Nat} (ha:t.sa=some ⟨b,off,none⟩) (v:Bool) :
 ∃ u',DWay n t i { w with set:=v } u'∧PutAt b (off+(i:Int).toNat * 1) [.bool v] u.H u'.H:=by
 obtain ⟨m,hm,hw⟩:=h.at_ hi
 have hwo:=h.ok.way hm
 obtain ⟨u',h1,h2,h3,_,h4,_,h5,h6⟩:=h.ok.putS hm ((DsM.slc h.cells).2.2.1.1.trans ha) v ⟨hwo.p,hwo.timer,hwo.mark⟩
 refine ⟨u',⟨h1,h3.trans h.R,h5.trans h.cells,h4.trans h.f,?_⟩,h2⟩
 rw [h6,h.S,List.set_set,←hw]
 rfl
theorem DWay.putM {n:Nat} {t u:DsM} {i:Nat} {w:Snd.Way} (h:DWay n t i w u) (hi:i < t.ws.length) {b off:Nat} (ha:t.ma=some ⟨b,off,none⟩) (v:Int) (hv:0≤v∧v < 4294967296) :
 ∃ u',DWay n t i { w with mark:=v } u'∧PutAt b (off+(i:Int).toNat * 1) [.int .u32 v] u.H u'.H:=by
 obtain ⟨m,hm,hw⟩:=h.at_ hi
 have hwo:=h.ok.way hm
 obtain ⟨u',h1,h2,h3,_,h4,_,h5,h6⟩:=h.ok.putM hm ((DsM.slc h.cells).2.2.2.1.1.trans ha) v ⟨hwo.p,hwo.timer,hv⟩
 refine ⟨u',⟨h1,h3.trans h.R,h5.trans h.cells,h4.trans h.f,?_⟩,h2⟩
 rw [h6,h.S,List.set_set,←hw]
 rfl
theorem DWay.rows {n:Nat} {t u:DsM} {i:Nat} {w:Snd.Way} (h:DWay n t i w u) {m:DwM} (hm:u.ws[i]? = some m) {pb po sb so mb mo:Nat} (hp:t.pa=some ⟨pb,po,none⟩) (hs:t.sa=some ⟨sb,so,none⟩) (hma:t.ma=some ⟨mb,mo,none⟩) (F:Nat→Option Obj) :
 Sl.Can F u.H pb (po+(i:Int).toNat * 1) [ptr m.p.P]∧Sl.Can F u.H sb (so+(i:Int).toNat * 1) [.bool m.set]∧Sl.Can F u.H mb (mo+(i:Int).toNat * 1) [.int .u32 m.mark]:=by
 obtain ⟨⟨e1,_⟩,_,⟨e2,_⟩,⟨e3,_⟩,_⟩:=DsM.slc h.cells
 obtain ⟨b,o,ha,hel⟩:=h.ok.prow
 rw [e1,hp] at ha; cases ha
 obtain ⟨b,o,ha,hes⟩:=h.ok.srow
 rw [e2,hs] at ha; cases ha
 obtain ⟨b,o,ha,hem⟩:=h.ok.mrow
 rw [e3,hma] at ha; cases ha
 exact ⟨hel F i m hm,hes F i m hm,hem F i m hm⟩
end Go.Proofs.YtlfpemmdehmbfaaGreat
