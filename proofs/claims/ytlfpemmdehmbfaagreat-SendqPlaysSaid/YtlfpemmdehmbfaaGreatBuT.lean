/- Some texts as one. What a sender answers to things done, in plain Lean. No conditions: definitions and laws. A sender's marks lie close to what is acknowledged, in plain Lean: what is done keeps it so. No conditions: laws only. A sender in memory: the next packet, walked. Conditions: it is well formed. The document's sender: the next packet: walked. Conditions: it is well formed. A sender: what is to be forwarded, and when something is to be done, walked. Conditions: it is well formed. -/
import Derived.Test.YtlfpemmdehmbfaaGreatBuS
import Derived.Test.YtlfpemmdehmbfaaGreatBuD
import Derived.Test.YtlfpemmdehmbfaaGreatBuK
import Derived.Test.YtlfpemmdehmbfaaGreatBuQ
namespace Go.Snd
open Go Go.Pth
structure Dg where
 kind:Int
 stream:Int
 ord:Bool
 bs:List UInt8
 life:Int
 by_:Int
 gs:List (Nat × Nat)
 rwnd:Int
 path:Int
structure Dn where
 s:S
 e:Int
 a:Int
 b:Int
 l:List Flt.Dt
 fc:Int
 fs:List Rm.Sk
 is_:Bool
 k:List Nat
def Dn.of (s:S):Dn:=⟨s,0,0,0,[],0,[],false,[]⟩
def did (s:S) (o:Dg) (cum now:Int):Dn:=
 if o.kind=0 then { Dn.of (put s o.stream o.ord o.bs o.life now) with e:=putE s o.stream o.bs.length o.life now }
 else if o.kind=1 then (match sack s (Spn.u32 (cum+o.by_)) o.rwnd o.gs now with | none=>{ Dn.of s with e:=1 } | some s'=>Dn.of s')
 else if o.kind=2 then Dn.of (expire s now)
 else if o.kind=3 then { Dn.of (timeout s now).s with a:=(timeout s now).late,b:=(timeout s now).gone }
 else if o.kind=4 then (match next s now with | (s',none)=>Dn.of s' | (s',some (k,l))=>{ Dn.of s' with a:=k,l:=l,is_:=true })
 else if o.kind=5 then (match forward s now with | (s',none)=>Dn.of s' | (s',some (y,sk,b))=>{ Dn.of s' with a:=b,fc:=y,fs:=sk,is_:=true })
 else if o.kind=6 then { Dn.of (beat s now) with k:=beatL s now }
 else if o.kind=7 then { Dn.of (beaten s o.path o.life now) with is_:=beatenB s o.path o.life now }
 else Dn.of s
theorem did_ok {n:Nat} {s:S} (h:Ok n s) (o:Dg) (ho:0≤o.stream) (cum now:Int):Ok (n+1) (did s o cum now).s:=by
 have up:∀ {t:S},Ok n t→Ok (n+1) t:=fun h=>h.up (Nat.le_succ n)
 unfold did
 split
 · exact put_ok h ho _ _ _ _
 · split
   · split
     · exact up h
     · rename_i s' hs
       exact up (sack_ok h (Flt.u32_mod _) hs)
   · split
     · exact expire_ok h now
     · split
       · exact up (timeout_ok h now)
       · split
         · have:=next_ok h now
           split
           · rename_i s' hn; rw [hn] at this; exact up this
           · rename_i s' k l hn; rw [hn] at this; exact up this
         · split
           · have:=forward_ok h now
             split
             · rename_i s' hn; rw [hn] at this; exact up this
             · rename_i s' k l hn; rw [hn] at this; exact up this
           · split
             · exact up (beat_ok h now)
             · split
               · exact up (beaten_ok h _ _ now)
               · exact up h
end Go.Snd
namespace Go.Snd
open Go Go.Pth
def MarkOk (s:S):Prop:=∀ w ∈ s.ws,w.set=true→1≤Spn.u32 (w.mark - s.f.c)∧Spn.u32 (w.mark - s.f.c)≤2048
def Near (c:Int) (w:Way):Prop:=w.set=true→Spn.u32 (w.mark - c)≤2048∨4294965248≤Spn.u32 (w.mark - c)
theorem sack_far {f f':Flt.S} {y:Int} {gs:List (Nat × Nat)} {t:Flt.Tld} (hs:Flt.sack f y gs=some (f',t)):Spn.far f.c y≤f.L.length:=by
 unfold Flt.sack at hs
 split at hs
 · cases hs
 · rename_i sp hsp
   exact (Flt.span_ok hsp).2.1
theorem sack_freed {f f':Flt.S} (h:FOk f) {y:Int} {gs:List (Nat × Nat)} {t:Flt.Tld} (hs:Flt.sack f y gs=some (f',t)):t.freed≤3072000:=by
 obtain ⟨M,hM,_,h2⟩:=Flt.sack_L hs
 have h3:=Flt.sumB_take (fun _=>true) M (Spn.far f.c y)
 have h4:=Flt.sumB_k hM
 have h5:=h.small (fun _=>true)
 rw [h2]
 omega
theorem mark_sack {n:Nat} {s:S} (h:Ok n s) (hm:MarkOk s) {y:Int} (hy:0≤y∧y < 4294967296) {gs:List (Nat × Nat)} {f':Flt.S} {t:Flt.Tld} (hs:Flt.sack s.f y gs=some (f',t)):∀ w ∈ s.ws,Near f'.c w:=by
 intro w hw hset
 have h1:=hm w hw hset
 have h2:=sack_far hs
 have h3:=h.f.g.few
 have h4:=Spn.far_int s.f.c y
 rw [(h.f.sack hy hs).2.2.2.2]
 simp only [Spn.u32_eq] at *
 omega
theorem near_hear2 {c:Int} {w:Way} (h:Near c w) {n:Nat} (hn:n≤2048) (x:Flt.PT) (full:Bool) (now:Int):Near c (hear2 x c n (hear1 x full now w)):=by
 have e:(hear1 x full now w).set=w.set∧(hear1 x full now w).mark=w.mark:=by
  unfold hear1
  split
  · dsimp only
    split <;> exact ⟨rfl,rfl⟩
  · exact ⟨rfl,rfl⟩
 unfold hear2
 split
 · intro _
   dsimp only
   simp only [Spn.u32_eq]
   omega
 · intro hs
   rw [e.1] at hs
   rw [e.2]
   exact h hs
theorem less_near {c m:Int} (hc:0≤c∧c < 4294967296) (hm:0≤m∧m < 4294967296) (h:Spn.u32 (m - c)≤2048∨4294965248≤Spn.u32 (m - c)):(!Rm.less32 c m)=(decide (m=c) || Rm.less32 m c):=by
 have e1:Rm.less32 c m=(decide (Spn.u32 (m - c) > 0) && decide (Spn.u32 (m - c)≤2147483647)):=rfl
 have e2:Rm.less32 m c=(decide (Spn.u32 (c - m) > 0) && decide (Spn.u32 (c - m)≤2147483647)):=rfl
 rw [e1,e2]
 simp only [Spn.u32_eq] at *
 rw [Bool.eq_iff_iff]
 simp only [Bool.not_eq_true',Bool.and_eq_false_imp,decide_eq_true_eq,decide_eq_false_iff_not,Bool.or_eq_true,Bool.and_eq_true]
 omega
theorem hear3_alt {c:Int} {w:Way} (hc:0≤c∧c < 4294967296) (hm:0≤w.mark∧w.mark < 4294967296) (h:Near c w):hear3 c w=if w.set && (decide (w.mark=c) || Rm.less32 w.mark c) then { w with set:=false } else w:=by
 unfold hear3
 cases hs:w.set with
 | false=>rfl
 | true=>rw [less_near hc hm (h hs)]
theorem mark_hear3 {c:Int} {w:Way} (h:Near c w) (hs:(hear3 c w).set=true):1≤Spn.u32 ((hear3 c w).mark - c)∧Spn.u32 ((hear3 c w).mark - c)≤2048:=by
 unfold hear3 at hs ⊢
 split at hs
 · cases hs
 · rename_i hb
   rw [if_neg hb]
   have h1:=h hs
   rw [hs,Bool.true_and] at hb
   have hl:Rm.less32 c w.mark=true:=by simpa using hb
   have e1:Rm.less32 c w.mark=(decide (Spn.u32 (w.mark - c) > 0) && decide (Spn.u32 (w.mark - c)≤2147483647)):=rfl
   rw [e1] at hl
   simp only [Bool.and_eq_true,decide_eq_true_eq] at hl
   omega
theorem fresh1_ws (k:Nat) (now:Int) (g:Go1):(fresh1 k now g).s.ws=g.s.ws:=by
 unfold fresh1
 split <;> rfl
theorem freshN_ws (k:Nat) (now:Int):∀ (m:Nat) (g:Go1),(freshN k now m g).s.ws=g.s.ws
 | 0,_=>rfl
 | m+1,g=>by
   rw [freshN]
   split
   · rfl
   · rw [freshN_ws k now m,fresh1_ws]
theorem fresh_ws (s:S) (k:Nat) (now:Int):(fresh s k now).s.ws=s.ws:=freshN_ws k now 100 _
theorem again1_ws (k:Nat) (now:Int) (x:Go1 × Bool) (t:Int):(again1 k now x t).1.s.ws=x.1.s.ws:=by
 unfold again1
 repeat' split
 all_goals rfl
theorem againL_ws (k:Nat) (now:Int):∀ (l:List Int) (x:Go1 × Bool),(l.foldl (again1 k now) x).1.s.ws=x.1.s.ws
 | [],_=>rfl
 | t::l,x=>by rw [List.foldl_cons,againL_ws k now l,again1_ws]
theorem again_ws (s:S) (k:Nat) (now:Int):(again s k now).s.ws=s.ws:=againL_ws k now _ _
theorem noneActive_ws {s s':S} (h:s'.ws=s.ws):noneActive s'=noneActive s:=by
 unfold noneActive nextW activeW
 rw [h]
end Go.Snd
namespace Go.Proofs.YtlfpemmdehmbfaaGreat
open Go Go.Sl Go.Pth
theorem useful_tr (F:Nat→Option Obj) (R:Nat):Tr Tryz.prog 65 [ptr R].toArray F [] (fun v H=>∃ b1,v=.func (.func 134) ([]:List Value).toArray [ptr b1].toArray∧H=[(b1,.cells [ptr R].toArray 28 (0,0))]):=by
 refine Tr.enter Tryz.func65 rfl Tryz.ntmps65 rfl (fun w0=>?_)
 refine SPS ?_; repeat' (first|refine ⟨fun hc=>?_,fun hc=>?_⟩|intro)
 exact Fin.retW (by exact rfl) resA (fun _ h=>h) ⟨_,rfl,rfl⟩
def HU (l D:Nat) (lp:Loop) (b1 R:Nat) (Z:HL) (t:SdM):HL:=(l,.loop lp)::(D,.deferred (some []))::(b1,.cells [ptr R].toArray 28 (0,0))::(Z++t.H)
structure GU where
 i:Nat
 s:SdM
set_option maxHeartbeats 8000000 in
theorem useful1_tr (F:Nat→Option Obj) {n:Nat} (s:SdM) (hs:s.ok n) (l D b1:Nat) (lp:Loop) (Z:HL) (J:Nat→SdM→Prop) (JE:HL→Prop)
 (hno:∀ i t,i < s.wn→t.ok n→J i t→(Snd.noneActive s.S || Snd.activeW t.S i)=false→J (i+1) t)
 (hyes:∀ i (t:SdM),i < s.wn→t.ok n→t.R=s.R→t.wa=s.wa→t.wn=s.wn→J i t→(Snd.noneActive s.S || Snd.activeW t.S i)=true→∀ F',(∀ w,In F' [] w→In F [] w)→TrY Tryz.prog l [.int .i64 i] F' (HU l D lp b1 s.R Z t) (fun v H'=>(v=.bool true∧∃ t':SdM,t'.ok n∧t'.R=s.R∧t'.wa=s.wa∧t'.wn=s.wn∧J (i+1) t'∧H'=HU l D lp b1 s.R Z t')∨(v=.bool false∧JE H')))
 (h0:J 0 s):Tr Tryz.prog 134 [.func (.yield l) #[] #[],ptr b1].toArray F (HU l D lp b1 s.R Z s) (fun _ H=>(∃ t:SdM,t.ok n∧t.R=s.R∧J s.wn t∧H=HU l D lp b1 s.R Z t)∨JE H):=by
 refine Tr.enter Tryz.func134 rfl Tryz.ntmps134 rfl (fun w0=>?_)
 have hsH:∀ t:SdM,t.H.Sublist (HU l D lp b1 s.R Z t):=fun t=>.cons _ (.cons _ (.cons _ (List.sublist_append_right _ _)))
 have hsub:∀ t:SdM,Sub t.H (HU l D lp b1 s.R Z t) ((l,.loop lp)::(D,.deferred (some []))::(b1,.cells [ptr s.R].toArray 28 (0,0))::(Z++[])):=fun t=>.skip _ (.skip _ (.skip _ (.skipL Z (.all _))))
 have hpart:∀ (t:SdM) (c Hr:HL),Part t c Hr→Sub c (HU l D lp b1 s.R Z t) ((l,.loop lp)::(D,.deferred (some []))::(b1,.cells [ptr s.R].toArray 28 (0,0))::(Z++Hr)):=fun t c Hr hp=>.skip _ (.skip _ (.skip _ (.skipL Z hp.sub)))
 have hb1:∀ t:SdM,Sl.Can F (HU l D lp b1 s.R Z t) b1 0 [ptr s.R]:=fun t=>Can.cut (n:=1) (.there (.there (.here rfl)))
 have hway:∀ t:SdM,Sl.Can F (HU l D lp b1 s.R Z t) t.R (0+2) [.slice t.wa t.wn t.wc]:=fun t=>(t.cans (F:=F)).2.2.1.mono (fun _ h=>h.sublist (hsH t))
 obtain ⟨b,off,hwa,hel⟩:=hs.wrow
 have hwn:=hs.wn
 have hnws:=hs.nws
 have hSlen:s.S.ws.length=s.ws.length:=by simp [SdM.S]
 obtain ⟨H0,hH0⟩:∃ H0,HU l D lp b1 s.R Z s=H0:=⟨_,rfl⟩
 have hb1s:=hb1 s
 have hways:=hway s
 have hnx:=Snd.nextW_lt (s:=s.S) (by omega) 0
 obtain ⟨m,hm,hmS,hkn⟩:=SdM.wayAt hs (k:=Snd.nextW s.S 0) (by omega)
 have hcan:=(hel F (Snd.nextW s.S 0) m hm).mono (F':=F) (H':=HU l D lp b1 s.R Z s) (fun _ h=>h.sublist (hsH s))
 have hd0:=(SdM.wayCans (F:=F) hm).1.mono (F':=F) (H':=HU l D lp b1 s.R Z s) (fun _ h=>h.sublist (hsH s))
 have hnone:Snd.noneActive s.S=!Pth.active m.pm.s:=by unfold Snd.noneActive Snd.activeW; rw [hmS]; rfl
 rw [hwa] at hways
 have hsubs:=hsub s
 have hparts:=hpart s
 rw [hH0] at hb1s hways hcan hd0 hsubs hparts ⊢
 refine SPY ?_; repeat' (first|refine ⟨fun hc=>?_,fun hc=>?_⟩|intro)
 refine W.drawA ?_
 refine SPY ?_; repeat' (first|refine ⟨fun hc=>?_,fun hc=>?_⟩|intro)
 refine WD.e rfl (Ef.callR (c:=s.H) (by exact rfl) hsubs (snext_tr _ s hs 0 (by omega))) ?_
 rintro _ _ ⟨rfl,rfl⟩
 refine ⟨.inr (fun _ h=>h),?_⟩
 refine SPY ?_; repeat' (first|refine ⟨fun hc=>?_,fun hc=>?_⟩|intro)
 refine WD.e rfl (Ef.callR (c:=m.pm.H) (by exact rfl) (hparts _ _ (SdM.paP hm)) (active_tr _ m.pm)) ?_
 rintro _ _ ⟨rfl,rfl⟩
 refine ⟨.inl (by kernel_rfl),?_⟩
 refine SPY ?_; repeat' (first|refine ⟨fun hc=>?_,fun hc=>?_⟩|intro)
 obtain ⟨nn,hnn⟩:∃ nn,(!Pth.active m.pm.s)=nn:=⟨_,rfl⟩
 rw [hnn] at hnone ⊢
 rw [←hH0]
 clear hb1s hways hcan hd0 hsubs hparts hH0
 refine W.loop (G:=GU) (fun g=>[(0,.func (.yield l) #[] #[]),(1,ptr b1),(3,.bool nn),(22,.slice (some ⟨b,off,none⟩) s.wn s.wc),(23,.int .i64 s.wn),(24,.int .i64 g.i)])
  (fun g=>HU l D lp b1 s.R Z g.s) (fun g=>g.i≤s.wn∧g.s.ok n∧g.s.R=s.R∧g.s.wa=s.wa∧g.s.wn=s.wn∧J g.i g.s) (fun g=>s.wn - g.i) ⟨0,s⟩ ⟨Nat.zero_le _,hs,rfl,rfl,rfl,h0⟩ envA (fun _ h=>h) ?_
 rintro ⟨i,t⟩ ⟨hi,ht,hR,hta,htn,hJ⟩
 dsimp only at hi ht hR hta htn hJ ⊢
 have htl:=ht.wn
 refine SPY ?_; repeat' (first|refine ⟨fun hc=>?_,fun hc=>?_⟩|intro)
 · have hi':i < s.wn:=by have:=of_decide_eq_true hc; omega
   obtain ⟨b',off',hta',helt⟩:=ht.wrow
   rw [hta,hwa] at hta'
   cases hta'
   obtain ⟨mi,hmi,hmiS,hkni⟩:=SdM.wayAt ht (k:=i) (by omega)
   rw [htn] at hkni
   have hcan:=(helt F i mi hmi).mono (F':=F) (H':=HU l D lp b1 s.R Z t) (fun _ h=>h.sublist (hsH t))
   have hd0:=(SdM.wayCans (F:=F) hmi).1.mono (F':=F) (H':=HU l D lp b1 s.R Z t) (fun _ h=>h.sublist (hsH t))
   have hparts:=hpart t _ _ (SdM.paP hmi)
   have hact:Snd.activeW t.S i=Pth.active mi.pm.s:=by unfold Snd.activeW; rw [hmiS]; rfl
   have hJno:=hno i t hi' ht hJ
   have hJyes:=hyes i t hi' ht hR hta htn hJ
   rw [hnone,hact] at hJno hJyes
   obtain ⟨Ht,hHt⟩:∃ Ht,HU l D lp b1 s.R Z t=Ht:=⟨_,rfl⟩
   rw [hHt] at hcan hd0 hparts hJyes ⊢
   cases nn with
   | true=>
     refine SPY ?_; repeat' (first|refine ⟨fun hc=>?_,fun hc=>?_⟩|intro)
     refine WL.e rfl (Ef.callY (l:=l) (vals:=[.int .i64 i]) rfl (by exact rfl) (.all _) (fun hd=>hJyes rfl _ (fun _ h=>addF_in hd h))) ?_
     rintro _ _ ⟨H1,(⟨rfl,t',ht',hR',hta2,htn2,hJ',rfl⟩ | ⟨rfl,hE⟩),rfl⟩
     · rw [List.append_nil]
       refine SPY ?_; repeat' (first|refine ⟨fun hc=>?_,fun hc=>?_⟩|intro)
       rw [i64_succ (by omega)]
       exact Fin.round ⟨i+1,t'⟩ ⟨hi',ht',hR',hta2,htn2,hJ'⟩ envA (fun _ h=>h) (by dsimp only; omega)
     · rw [List.append_nil]
       refine SPY ?_; repeat' (first|refine ⟨fun hc=>?_,fun hc=>?_⟩|intro)
       exact Fin.retW (by exact rfl) resA (fun _ h=>h) (.inr hE)
   | false=>
     refine SPY ?_; repeat' (first|refine ⟨fun hc=>?_,fun hc=>?_⟩|intro)
     refine WL.e rfl (Ef.callR (c:=mi.pm.H) (by exact rfl) hparts (active_tr _ mi.pm)) ?_
     rintro _ _ ⟨rfl,rfl⟩
     cases hac:Pth.active mi.pm.s with
     | true=>
       rw [hac] at hJyes
       refine SPY ?_; repeat' (first|refine ⟨fun hc=>?_,fun hc=>?_⟩|intro)
       refine WL.e rfl (Ef.callY (l:=l) (vals:=[.int .i64 i]) rfl (by exact rfl) (.all _) (fun hd=>hJyes rfl _ (fun _ h=>addF_in hd h))) ?_
       rintro _ _ ⟨H1,(⟨rfl,t',ht',hR',hta2,htn2,hJ',rfl⟩ | ⟨rfl,hE⟩),rfl⟩
       · rw [List.append_nil]
         refine SPY ?_; repeat' (first|refine ⟨fun hc=>?_,fun hc=>?_⟩|intro)
         rw [i64_succ (by omega)]
         exact Fin.round ⟨i+1,t'⟩ ⟨hi',ht',hR',hta2,htn2,hJ'⟩ envA (fun _ h=>h) (by dsimp only; omega)
       · rw [List.append_nil]
         refine SPY ?_; repeat' (first|refine ⟨fun hc=>?_,fun hc=>?_⟩|intro)
         exact Fin.retW (by exact rfl) resA (fun _ h=>h) (.inr hE)
     | false=>
       rw [hac] at hJno
       refine SPY ?_; repeat' (first|refine ⟨fun hc=>?_,fun hc=>?_⟩|intro)
       rw [i64_succ (by omega),←hHt]
       exact Fin.round ⟨i+1,t⟩ ⟨hi',ht,hR,hta,htn,hJno rfl⟩ envA (fun _ h=>h) (by dsimp only; omega)
 · have hi':i=s.wn:=by have:=of_decide_eq_false hc; omega
   subst hi'
   exact Fin.endW (by exact rfl) resA (fun _ h=>h) (.inl ⟨t,ht,hR,hJ,rfl⟩)
def SndNextQ (n:Nat) (s:SdM) (r:Snd.S × Option (Nat × List Flt.Dt)) (v:Value) (H:HL):Prop:=match r with
 | (S',none)=>v=tup [.int .i64 0,.slice none 0 0,.bool false]∧∃ s':SdM,s'.ok n∧s'.R=s.R∧s'.S=S'∧H=s'.H
 | (S',some (k,l))=>∃ (s':SdM) (o:OuM),v=tup [.int .i64 k,.slice o.sa o.sn o.sc,.bool true]∧s'.ok n∧s'.R=s.R∧s'.S=S'∧o.ok∧o.L=l∧H=o.hb++(o.bb++s'.H)
def stepA (now:Int) (s:Snd.S) (k:Nat):Option Snd.Go1:=some (Snd.again s k now)
def stepF (none_:Bool) (now:Int) (s:Snd.S) (k:Nat):Option Snd.Go1:=if none_ || Snd.activeW s k then some (Snd.fresh s k now) else none
theorem range_at {n i:Nat} (h:i < n):List.range' i (n - i)=i::List.range' (i+1) (n - (i+1)):=by
 rw [show n - i=(n - (i+1))+1 by omega]
 rfl
theorem OuM.ok.nil {o:OuM} (h:o.ok):o.L=[]↔o.sn=0:=by
 have:=h.len
 unfold OuM.L
 rw [List.map_eq_nil_iff,←List.length_eq_zero_iff]
 omega
set_option maxHeartbeats 8000000 in
theorem snx_tr (F:Nat→Option Obj) {n:Nat} (s:SdM) (hs:s.ok n) (now:Int):Tr Tryz.prog 22 [ptr s.R,.int .i64 now].toArray F s.H (SndNextQ n s (Snd.next s.S now)):=by
 refine Tr.enterM Tryz.func22 rfl Tryz.ntmps22 rfl (fun w0=>?_)
 have hwn:=hs.wn
 have hnws:=hs.nws
 have hSlen:s.S.ws.length=s.ws.length:=by simp [SdM.S]
 obtain ⟨rr,hrr⟩:∃ rr,s.R=rr:=⟨_,rfl⟩
 have hnext:Snd.next s.S now=match Snd.trySome (stepA now) now (List.range' 0 (s.wn - 0)) s.S with
  | (s1,some r)=>(s1,some r)
  | (s1,none)=>Snd.trySome (stepF (Snd.noneActive s1) now) now (List.range' 0 (s.wn - 0)) s1:=by
  unfold Snd.next
  rw [show List.range s.S.ws.length=List.range' 0 (s.wn - 0) by rw [List.range_eq_range',hSlen,hwn,Nat.sub_zero]]
  rfl
 rw [hnext]
 obtain ⟨c0,c1,c2,c3,c4,c5,c6,c7,c8,c9,c10,c11⟩:=s.cans (F:=F)
 rw [hrr] at c0 c1 c2 c3 c4 c5 c6 c7 c8 c9 c10 c11 ⊢
 refine SPX ?_; repeat' (first|refine ⟨fun hc=>?_,fun hc=>?_⟩|intro)
 rename_i b2 b3 b4 b5 b6
 clear c0 c1 c2 c3 c4 c5 c6 c7 c8 c9 c10 c11
 refine W.loop (G:=GU) (fun g=>[(2,ptr b2),(3,ptr b3),(4,ptr b4),(5,ptr b5),(6,ptr b6),(17,.int .i64 s.wn),(18,.int .i64 g.i)])
  (fun g=>(b6,.cells [.bool false].toArray 4 (0,0))::(b5,.cells [.slice none 0 0].toArray 54 (0,0))::(b4,.cells [.int .i64 0].toArray 3 (0,0))::(b3,.cells [.int .i64 now].toArray 2 (0,0))::(b2,.cells [ptr rr].toArray 28 (0,0))::g.s.H)
  (fun g=>g.i≤s.wn∧g.s.ok n∧g.s.R=rr∧g.s.wn=s.wn∧Snd.trySome (stepA now) now (List.range' 0 (s.wn - 0)) s.S=Snd.trySome (stepA now) now (List.range' g.i (s.wn - g.i)) g.s.S) (fun g=>s.wn - g.i) ⟨0,s⟩ ⟨Nat.zero_le _,hs,hrr,rfl,rfl⟩ envA (fun _ h=>h) ?_
 rintro ⟨i,t⟩ ⟨hi,ht,hR,htn,hT⟩
 dsimp only at hi ht hR htn hT ⊢
 subst hR
 have htl:=ht.wn
 refine SPY ?_; repeat' (first|refine ⟨fun hc=>?_,fun hc=>?_⟩|intro)
 · have hi':i < s.wn:=by have:=of_decide_eq_true hc; omega
   refine WL.e rfl (Ef.call (c:=t.H) (by exact rfl) (.skip _ (.skip _ (.skip _ (.skip _ (.skip _ (.all _)))))) (sagain_tr _ t ht i (by omega) now)) ?_
   rintro _ _ ⟨_,⟨s',o,rfl,hs',hR',hS',ho,hoL,⟨hwa',hwn'⟩,rfl⟩,rfl⟩
   have hnil:=ho.nil
   have hs'l:=hs'.wn
   have hstep:Snd.trySome (stepA now) now (List.range' i (s.wn - i)) t.S=if o.L=[] then Snd.trySome (stepA now) now (List.range' (i+1) (s.wn - (i+1))) s'.S else (Snd.run s'.S i now,some (i,o.L)):=by
    rw [range_at hi',Snd.trySome,show stepA now t.S i=some (Snd.again t.S i now) from rfl]
    dsimp only
    rw [←hoL,←hS']
   refine WL.weak (H':=(b6,.cells [.bool false].toArray 4 (0,0))::(b5,.cells [.slice none 0 0].toArray 54 (0,0))::(b4,.cells [.int .i64 0].toArray 3 (0,0))::(b3,.cells [.int .i64 now].toArray 2 (0,0))::(b2,.cells [ptr t.R].toArray 28 (0,0))::(o.hb++(o.bb++s'.H))) (fun _ h=>In.of_sub (.pick (.right .here) (.pick (.right .here) (.pick (.right .here) (.pick (.right .here) (.pick (.right .here) (.last .here)))))) h) ?_
   refine SPQ ?_; repeat' (first|refine ⟨fun hc=>?_,fun hc=>?_⟩|intro)
   cases hgt:decide ((o.sn:Int) > 0) with
   | true=>
     have h1:=of_decide_eq_true hgt
     rw [if_neg (fun e=>by have:=hnil.1 e; omega)] at hstep
     rw [hT,hstep]
     refine SPY ?_; repeat' (first|refine ⟨fun hc=>?_,fun hc=>?_⟩|intro)
     refine WL.e rfl (Ef.call (c:=s'.H) (by rw [←hR']; exact rfl) (.skip _ (.skip _ (.skip _ (.skip _ (.skip _ (.skipL o.hb (.skipL o.bb (.all _)))))))) (srun_tr _ s' hs' i (by omega) now)) ?_
     rintro _ _ ⟨_,⟨rfl,s2,hs2,rfl,hR2,hS2⟩,rfl⟩
     refine SPY ?_; repeat' (first|refine ⟨fun hc=>?_,fun hc=>?_⟩|intro)
     exact Fin.retM0 (by exact rfl) resA (H':=o.hb++(o.bb++s2.H)) (fun _ h=>In.of_sub (.pickL (L:=o.hb) (.right (.there (.there (.there (.there (.there .here)))))) (.pickL (L:=o.bb) (.right (.there (.there (.there (.there (.there .here)))))) (.last (L:=s2.H) .here))) h) ⟨s2,o,rfl,hs2,hR2.trans (hR'.trans hrr.symm),hS2,ho,rfl,rfl⟩
   | false=>
     have h1:=of_decide_eq_false hgt
     rw [if_pos (hnil.2 (by omega))] at hstep
     refine SPY ?_; repeat' (first|refine ⟨fun hc=>?_,fun hc=>?_⟩|intro)
     rw [i64_succ (by omega)]
     exact Fin.round ⟨i+1,s'⟩ ⟨hi',hs',hR',hwn'.trans htn,hT.trans hstep⟩ envA (fun _ h=>h.sublist (.cons_cons _ (.cons_cons _ (.cons_cons _ (.cons_cons _ (.cons_cons _ ((List.sublist_append_right _ _).trans (List.sublist_append_right _ _)))))))) (by dsimp only; omega)
 have hi':i=s.wn:=by have:=of_decide_eq_false hc; omega
 subst hi'
 rw [hT,show s.wn - s.wn=0 by omega]
 rw [show List.range' s.wn 0=[] from rfl,Snd.trySome]
 dsimp only
 have hgoal:∀ r v H,SndNextQ n t r v H→SndNextQ n s r v H:=fun r v H h=>by
  unfold SndNextQ at h ⊢
  rw [hrr]
  exact h
 obtain ⟨res,hres⟩:∃ res,Snd.trySome (stepF (Snd.noneActive t.S) now) now (List.range' 0 (s.wn - 0)) t.S=res:=⟨_,rfl⟩
 rw [hres]
 refine WL.e rfl (Ef.call (by exact rfl) (.nil _) (useful_tr _ t.R)) ?_
 rintro _ _ ⟨_,⟨b1,rfl,rfl⟩,rfl⟩
 refine SPY ?_; repeat' (first|refine ⟨fun hc=>?_,fun hc=>?_⟩|intro)
 refine W.rangeF (gf:=134) (fv:=[]) (cv:=[ptr b1]) rfl rfl (fun l D r hr=>?_)
 have hcall:=useful1_tr F t ht l D b1 r [(b6,.cells [.bool false].toArray 4 (0,0)),(b5,.cells [.slice none 0 0].toArray 54 (0,0)),(b4,.cells [.int .i64 0].toArray 3 (0,0)),(b3,.cells [.int .i64 now].toArray 2 (0,0)),(b2,.cells [ptr t.R].toArray 28 (0,0))] (fun i u=>Snd.trySome (stepF (Snd.noneActive t.S) now) now (List.range' i (s.wn - i)) u.S=res)
  (fun H=>∃ (k:Nat) (o:OuM) (u:SdM),u.ok n∧u.R=t.R∧o.ok∧res=(u.S,some (k,o.L))∧H=(l,.loop { r with state:=.done,pending:=some .ret })::(D,.deferred (some []))::(b1,.cells [ptr t.R].toArray 28 (0,0))::(b6,.cells [.bool true].toArray 4 (0,0))::(b5,.cells [.slice o.sa o.sn o.sc].toArray 54 (0,0))::(b4,.cells [.int .i64 k].toArray 3 (0,0))::(b3,.cells [.int .i64 now].toArray 2 (0,0))::(b2,.cells [ptr t.R].toArray 28 (0,0))::(o.hb++(o.bb++u.H)))
  (fun i u hi hu hJ hc=>by
   rw [htn] at hi
   rw [range_at hi,Snd.trySome,show stepF (Snd.noneActive t.S) now u.S i=none by unfold stepF; rw [hc]; rfl] at hJ
   exact hJ)
  (fun i u hi hu hR hua hun hJ hc F' hF=>by
   have hi':i < s.wn:=by rw [←htn]; exact hi
   have hul:=hu.wn
   rw [range_at hi',Snd.trySome,show stepF (Snd.noneActive t.S) now u.S i=some (Snd.fresh u.S i now) by unfold stepF; rw [hc]; rfl] at hJ
   dsimp only at hJ
   refine TrY.of hr rfl (fun w h=>h.own (l,.loop r) (by simp [HU])) (fun w1=>?_)
   unfold HU
   simp only [List.cons_append,List.nil_append]
   refine SPY ?_; repeat' (first|refine ⟨fun hc=>?_,fun hc=>?_⟩|intro)
   refine Fin.begin (Foc.here _) hr.state ?_
   refine SPY ?_; repeat' (first|refine ⟨fun hc=>?_,fun hc=>?_⟩|intro)
   refine WL.e rfl (Ef.call (c:=u.H) (by rw [←hR]; exact rfl) (.skip _ (.skip _ (.skip _ (.skip _ (.skip _ (.skip _ (.skip _ (.skip _ (.all _))))))))) (sfresh_tr _ u hu i (by omega) now)) ?_
   rintro _ _ ⟨_,⟨s',o,rfl,hs',hR',hS',ho,hoL,⟨hwa',hwn'⟩,rfl⟩,rfl⟩
   have hnil:=ho.nil
   have hs'l:=hs'.wn
   rw [←hoL,←hS'] at hJ
   refine WL.weak (H':=(l,_)::(D,.deferred (some []))::(b1,.cells [ptr t.R].toArray 28 (0,0))::(b6,.cells [.bool false].toArray 4 (0,0))::(b5,.cells [.slice none 0 0].toArray 54 (0,0))::(b4,.cells [.int .i64 0].toArray 3 (0,0))::(b3,.cells [.int .i64 now].toArray 2 (0,0))::(b2,.cells [ptr t.R].toArray 28 (0,0))::(o.hb++(o.bb++s'.H))) (fun _ h=>In.of_sub (.pick (.right .here) (.pick (.right .here) (.pick (.right .here) (.pick (.right .here) (.pick (.right .here) (.pick (.right .here) (.pick (.right .here) (.pick (.right .here) (.last .here))))))))) h) ?_
   refine SPQ ?_; repeat' (first|refine ⟨fun hc=>?_,fun hc=>?_⟩|intro)
   cases hgt:decide ((o.sn:Int) > 0) with
   | true=>
     have h1:=of_decide_eq_true hgt
     rw [if_neg (fun e=>by have:=hnil.1 e; omega)] at hJ
     refine SPY ?_; repeat' (first|refine ⟨fun hc=>?_,fun hc=>?_⟩|intro)
     refine WL.e rfl (Ef.call (c:=s'.H) (by rw [←hR,←hR']; exact rfl) (.skip _ (.skip _ (.skip _ (.skip _ (.skip _ (.skip _ (.skip _ (.skip _ (.skipL o.hb (.skipL o.bb (.all _))))))))))) (srun_tr _ s' hs' i (by omega) now)) ?_
     rintro _ _ ⟨_,⟨rfl,s2,hs2,rfl,hR2,hS2⟩,rfl⟩
     refine SPY ?_; repeat' (first|refine ⟨fun hc=>?_,fun hc=>?_⟩|intro)
     refine Fin.leaves (Foc.right (Foc.here _)) (H':=(l,.loop { r with state:=.done,pending:=some .ret })::(D,.deferred (some []))::(b1,.cells [ptr t.R].toArray 28 (0,0))::(b6,.cells [.bool true].toArray 4 (0,0))::(b5,.cells [.slice o.sa o.sn o.sc].toArray 54 (0,0))::(b4,.cells [.int .i64 i].toArray 3 (0,0))::(b3,.cells [.int .i64 now].toArray 2 (0,0))::(b2,.cells [ptr t.R].toArray 28 (0,0))::(o.hb++(o.bb++s2.H))) (fun _ h=>?_) (.inr ⟨rfl,i,o,s2,hs2,hR2.trans (hR'.trans hR),ho,?_,rfl⟩)
     · exact In.of_sub (.pick (.right .here) (.pick (.right .here) (.pick (.right .here) (.pick (.right .here) (.pick (.right .here) (.pick (.right .here) (.pick (.right .here) (.pick (.right .here) (.pickL (L:=o.hb) (.right .here) (.pickL (L:=o.bb) (.right .here) (.last (L:=s2.H) .here))))))))))) h
     · rw [←hJ,hS2]
   | false=>
     have h1:=of_decide_eq_false hgt
     rw [if_pos (hnil.2 (by omega))] at hJ
     refine SPY ?_; repeat' (first|refine ⟨fun hc=>?_,fun hc=>?_⟩|intro)
     refine Fin.more (Foc.here _) (H':=HU l D r b1 t.R [(b6,.cells [.bool false].toArray 4 (0,0)),(b5,.cells [.slice none 0 0].toArray 54 (0,0)),(b4,.cells [.int .i64 0].toArray 3 (0,0)),(b3,.cells [.int .i64 now].toArray 2 (0,0)),(b2,.cells [ptr t.R].toArray 28 (0,0))] s') (fun _ h=>?_) (.inl ⟨rfl,s',hs',hR'.trans hR,hwa'.trans hua,hwn'.trans hun,hJ,rfl⟩)
     simp only [hr.again] at h
     unfold HU
     simp only [List.cons_append,List.nil_append]
     exact h.sublist (.cons_cons _ (.cons_cons _ (.cons_cons _ (.cons_cons _ (.cons_cons _ (.cons_cons _ (.cons_cons _ (.cons_cons _ ((List.sublist_append_right _ _).trans (List.sublist_append_right _ _)))))))))))
  hres
 refine Tr.mono hcall ?_
 rintro _ _ (⟨u,hu,huR,hJ,rfl⟩ | ⟨k,o,u,hu,huR,ho,hrs,rfl⟩)
 · have hrn:res=(u.S,none):=by rw [←hJ,htn,show s.wn - s.wn=0 by omega]; rfl
   unfold HU
   simp only [List.cons_append,List.nil_append]
   refine ⟨r,_,.refl _,by rw [hr.state]; simp,?_⟩
   rw [hr.pending]
   dsimp only [Cx.marked]
   refine SPY ?_; repeat' (first|refine ⟨fun hc=>?_,fun hc=>?_⟩|intro)
   refine Fin.retM (D:=D) (by exact rfl) .here resA (H':=u.H) (fun _ h=>h.sublist (.cons _ (.cons _ (.cons _ (.cons _ (.cons _ (.cons _ (.refl _))))))))  ?_
   rw [hrn]
   exact ⟨rfl,u,hu,huR.trans hrr.symm,rfl,rfl⟩
 · refine ⟨{ r with state:=.done,pending:=some .ret },_,.refl _,by simp,?_⟩
   dsimp only [Cx.marked]
   refine SPY ?_; repeat' (first|refine ⟨fun hc=>?_,fun hc=>?_⟩|intro)
   refine Fin.retM (D:=D) (by exact rfl) .here resA (H':=o.hb++(o.bb++u.H)) (fun _ h=>h.sublist (.cons _ (.cons _ (.cons _ (.cons _ (.cons _ (.cons _ (.refl _)))))))) ?_
   rw [hrs]
   exact ⟨u,o,rfl,hu,huR.trans hrr.symm,rfl,ho,rfl,rfl⟩
end Go.Proofs.YtlfpemmdehmbfaaGreat
namespace Go.Proofs.YtlfpemmdehmbfaaGreat
open Go Go.Sl Go.Pth
def DNxQ (n:Nat) (s:DsM) (r:Snd.S × Option (Nat × List Flt.Dt)) (v:Value) (H:HL):Prop:=match r with
 | (S',none)=>v=tup [.int .i64 0,.slice none 0 0,.bool false]∧∃ s':DsM,s'.ok n∧s'.R=s.R∧s'.S=S'∧H=s'.H
 | (S',some (k,l))=>∃ (s':DsM) (o:OuM),v=tup [.int .i64 k,.slice o.sa o.sn o.sc,.bool true]∧s'.ok n∧s'.R=s.R∧s'.S=S'∧o.ok∧o.L=l∧H=o.hb++(o.bb++s'.H)
set_option maxHeartbeats 8000000 in
theorem dnx_tr (F:Nat→Option Obj) {n:Nat} (s:DsM) (hs:s.ok n) (now:Int):Tr Tryz.prog 41 [ptr s.R,.int .i64 now].toArray F s.H (DNxQ n s (Snd.next s.S now)):=by
 refine Tr.enter Tryz.func41 rfl Tryz.ntmps41 rfl (fun w0=>?_)
 have hwn:=hs.pn
 have hnws:=hs.nws
 have hSlen:s.S.ws.length=s.ws.length:=by simp [DsM.S]
 obtain ⟨rr,hrr⟩:∃ rr,s.R=rr:=⟨_,rfl⟩
 have hnext:Snd.next s.S now=match Snd.trySome (stepA now) now (List.range' 0 (s.pn - 0)) s.S with
  | (s1,some r)=>(s1,some r)
  | (s1,none)=>Snd.trySome (stepF (Snd.noneActive s1) now) now (List.range' 0 (s.pn - 0)) s1:=by
  unfold Snd.next
  rw [show List.range s.S.ws.length=List.range' 0 (s.pn - 0) by rw [List.range_eq_range',hSlen,hwn,Nat.sub_zero]]
  rfl
 rw [hnext,hrr]
 refine SPY ?_; repeat' (first|refine ⟨fun hc=>?_,fun hc=>?_⟩|intro)
 refine W.loop (G:=GDs) (fun g=>[(0,ptr rr),(1,.int .i64 now),(7,.int .i64 g.i)]) (fun g=>g.s.H)
  (fun g=>g.i≤s.pn∧g.s.ok n∧g.s.R=rr∧g.s.ws.length=s.ws.length∧Snd.trySome (stepA now) now (List.range' 0 (s.pn - 0)) s.S=Snd.trySome (stepA now) now (List.range' g.i (s.pn - g.i)) g.s.S) (fun g=>s.pn - g.i) ⟨0,s⟩ ⟨Nat.zero_le _,hs,hrr,rfl,rfl⟩ envA (fun _ h=>h) ?_
 rintro ⟨i,t⟩ ⟨hi,ht,hR,htn,hT⟩
 dsimp only at hi ht hR htn hT ⊢
 subst hR
 have htl:=ht.pn
 obtain ⟨c0,c1,c2,c3,c4,c5,c6,c7,c8,c9,c10,c11,c12,c13,c14⟩:=t.cans (F:=F)
 rw [show t.pn=s.pn by omega] at c2
 refine SPQ ?_; repeat' (first|refine ⟨fun hc=>?_,fun hc=>?_⟩|intro)
 cases hc:decide ((i:Int) < s.pn) with
 | true=>
   have hi':i < s.pn:=by have:=of_decide_eq_true hc; omega
   clear c0 c1 c2 c3 c4 c5 c6 c7 c8 c9 c10 c11 c12 c13 c14
   refine SPY ?_; repeat' (first|refine ⟨fun hc=>?_,fun hc=>?_⟩|intro)
   refine WL.e rfl (Ef.call (c:=t.H) (by exact rfl) (.all _) (dagain_tr _ t ht i (by omega) now)) ?_
   rintro _ _ ⟨_,⟨s',o,rfl,hs',hR',hS',ho,hoL,rfl⟩,rfl⟩
   have hnil:=ho.nil
   have hwl':s'.ws.length=s.ws.length:=by
    have h1:s'.S.ws.length=t.S.ws.length:=by rw [hS']; exact congrArg List.length (Snd.again_ws t.S i now)
    simp [DsM.S] at h1
    omega
   have hstep:Snd.trySome (stepA now) now (List.range' i (s.pn - i)) t.S=if o.L=[] then Snd.trySome (stepA now) now (List.range' (i+1) (s.pn - (i+1))) s'.S else (Snd.run s'.S i now,some (i,o.L)):=by
    rw [range_at hi',Snd.trySome,show stepA now t.S i=some (Snd.again t.S i now) from rfl]
    dsimp only
    rw [←hoL,←hS']
   rw [List.append_nil]
   refine SPQ ?_; repeat' (first|refine ⟨fun hc=>?_,fun hc=>?_⟩|intro)
   cases hgt:decide ((o.sn:Int) > 0) with
   | true=>
     have h1:=of_decide_eq_true hgt
     rw [if_neg (fun e=>by have:=hnil.1 e; omega)] at hstep
     rw [hT,hstep]
     refine SPY ?_; repeat' (first|refine ⟨fun hc=>?_,fun hc=>?_⟩|intro)
     refine WL.e rfl (Ef.call (c:=s'.H) (by rw [←hR']; exact rfl) (.skipL o.hb (.skipL o.bb (.all _))) (drun_tr _ s' hs' i (by omega) now)) ?_
     rintro _ _ ⟨_,⟨rfl,s2,hs2,rfl,hR2,hS2⟩,rfl⟩
     refine SPY ?_; repeat' (first|refine ⟨fun hc=>?_,fun hc=>?_⟩|intro)
     exact Fin.retW (by exact rfl) resA (H':=o.hb++(o.bb++s2.H)) (fun _ h=>In.of_sub (.pickL (L:=o.hb) (.right .here) (.pickL (L:=o.bb) (.right .here) (.last (L:=s2.H) .here))) h) ⟨s2,o,rfl,hs2,hR2.trans (hR'.trans hrr.symm),hS2,ho,rfl,rfl⟩
   | false=>
     have h1:=of_decide_eq_false hgt
     rw [if_pos (hnil.2 (by omega))] at hstep
     refine SPY ?_; repeat' (first|refine ⟨fun hc=>?_,fun hc=>?_⟩|intro)
     rw [i64_succ (by omega)]
     exact Fin.round ⟨i+1,s'⟩ ⟨hi',hs',hR',hwl',hT.trans hstep⟩ envA (fun _ h=>h.sublist ((List.sublist_append_right _ _).trans (List.sublist_append_right _ _))) (by dsimp only; omega)
 | false=>
 have hi':i=s.pn:=by have:=of_decide_eq_false hc; omega
 subst hi'
 rw [hT,show s.pn - s.pn=0 by omega]
 rw [show List.range' s.pn 0=[] from rfl,Snd.trySome]
 dsimp only
 have hgoal:∀ r v H,DNxQ n t r v H→DNxQ n s r v H:=fun r v H h=>by
  unfold DNxQ at h ⊢
  rw [hrr]
  exact h
 obtain ⟨res,hres⟩:∃ res,Snd.trySome (stepF (Snd.noneActive t.S) now) now (List.range' 0 (s.pn - 0)) t.S=res:=⟨_,rfl⟩
 rw [hres]
 clear c0 c1 c2 c3 c4 c5 c6 c7 c8 c9 c10 c11 c12 c13 c14
 refine SPY ?_; repeat' (first|refine ⟨fun hc=>?_,fun hc=>?_⟩|intro)
 refine W.loop (G:=GDs) (fun g=>[(0,ptr t.R),(1,.int .i64 now),(9,.int .i64 g.i)]) (fun g=>g.s.H)
  (fun g=>g.i≤s.pn∧g.s.ok n∧g.s.R=t.R∧g.s.S.ws=t.S.ws∧Snd.trySome (stepF (Snd.noneActive t.S) now) now (List.range' g.i (s.pn - g.i)) g.s.S=res) (fun g=>s.pn - g.i) ⟨0,t⟩ ⟨Nat.zero_le _,ht,rfl,rfl,hres⟩ envA (fun _ h=>h) ?_
 rintro ⟨i,u⟩ ⟨hi2,hu,hRu,hwu,hJ⟩
 dsimp only at hi2 hu hRu hwu hJ ⊢
 have hul:=hu.pn
 have hulw:u.ws.length=s.ws.length:=by have:=congrArg List.length hwu; simp [DsM.S] at this; omega
 obtain ⟨c0,c1,c2,c3,c4,c5,c6,c7,c8,c9,c10,c11,c12,c13,c14⟩:=u.cans (F:=F)
 obtain ⟨b,off,hpa,hel⟩:=hu.prow
 rw [hRu] at c0 c1 c2 c3 c4 c5 c6 c7 c8 c9 c10 c11 c12 c13 c14
 rw [hpa,show u.pn=s.pn by omega] at c2
 refine SPQ ?_; repeat' (first|refine ⟨fun hc=>?_,fun hc=>?_⟩|intro)
 cases hc2:decide ((i:Int) < s.pn) with
 | false=>
   have hi':i=s.pn:=by have:=of_decide_eq_false hc2; omega
   subst hi'
   rw [show s.pn - s.pn=0 by omega,show List.range' s.pn 0=[] from rfl,Snd.trySome] at hJ
   refine SPY ?_; repeat' (first|refine ⟨fun hc=>?_,fun hc=>?_⟩|intro)
   refine Fin.retW (by exact rfl) resA (H':=u.H) (fun _ h=>h) (hgoal _ _ _ ?_)
   rw [←hJ]
   exact ⟨rfl,u,hu,hRu,rfl,rfl⟩
 | true=>
 have hi':i < s.pn:=by have:=of_decide_eq_true hc2; omega
 obtain ⟨m,hm,hmS,hkn,hkt,hks,hkm⟩:=DsM.wayAt hu (k:=i) (by omega)
 rw [show u.pn=s.pn by omega] at hkn
 have hcan:=hel F i m hm
 have hact:Snd.activeW u.S i=Pth.active m.p.s:=by unfold Snd.activeW; rw [hmS]; rfl
 have hnn:Snd.noneActive u.S=Snd.noneActive t.S:=Snd.noneActive_ws hwu
 refine SPY ?_; repeat' (first|refine ⟨fun hc=>?_,fun hc=>?_⟩|intro)
 refine WL.e rfl (Ef.callR (by exact rfl) (DsM.paP hm).sub (dactive_tr _ m.p)) ?_
 rintro _ _ ⟨rfl,rfl⟩
 cases hac:Pth.active m.p.s with
 | true=>
   have hsf:Snd.trySome (stepF (Snd.noneActive t.S) now) now (List.range' i (s.pn - i)) u.S=if (Snd.fresh u.S i now).out=[] then Snd.trySome (stepF (Snd.noneActive t.S) now) now (List.range' (i+1) (s.pn - (i+1))) (Snd.fresh u.S i now).s else (Snd.run (Snd.fresh u.S i now).s i now,some (i,(Snd.fresh u.S i now).out)):=by
    rw [range_at hi',Snd.trySome,show stepF (Snd.noneActive t.S) now u.S i=some (Snd.fresh u.S i now) by unfold stepF; rw [hact,hac,Bool.or_true,if_pos rfl]]
   clear c0 c1 c2 c3 c4 c5 c6 c7 c8 c9 c10 c11 c12 c13 c14 hcan hel
   refine SPY ?_; repeat' (first|refine ⟨fun hc=>?_,fun hc=>?_⟩|intro)
   refine WL.e rfl (Ef.call (c:=u.H) (by rw [←hRu]; exact rfl) (.all _) (dfresh_tr _ u hu i (by omega) now)) ?_
   rintro _ _ ⟨_,⟨s',o,rfl,hs',hR',hS',ho,hoL,rfl⟩,rfl⟩
   have hnil:=ho.nil
   have hws':s'.S.ws=t.S.ws:=by rw [hS',Snd.fresh_ws]; exact hwu
   have hwl':s'.ws.length=s.ws.length:=by have:=congrArg List.length hws'; simp [DsM.S] at this; omega
   rw [List.append_nil]
   rw [←hoL,←hS'] at hsf
   rw [hsf] at hJ
   refine SPQ ?_; repeat' (first|refine ⟨fun hc=>?_,fun hc=>?_⟩|intro)
   cases hgt:decide ((o.sn:Int) > 0) with
   | true=>
     have h1:=of_decide_eq_true hgt
     rw [if_neg (fun e=>by have:=hnil.1 e; omega)] at hJ
     refine SPY ?_; repeat' (first|refine ⟨fun hc=>?_,fun hc=>?_⟩|intro)
     refine WL.e rfl (Ef.call (c:=s'.H) (by rw [←hRu,←hR']; exact rfl) (.skipL o.hb (.skipL o.bb (.all _))) (drun_tr _ s' hs' i (by omega) now)) ?_
     rintro _ _ ⟨_,⟨rfl,s2,hs2,rfl,hR2,hS2⟩,rfl⟩
     refine SPY ?_; repeat' (first|refine ⟨fun hc=>?_,fun hc=>?_⟩|intro)
     refine Fin.retW (by exact rfl) resA (H':=o.hb++(o.bb++s2.H)) (fun _ h=>In.of_sub (.pickL (L:=o.hb) (.right .here) (.pickL (L:=o.bb) (.right .here) (.last (L:=s2.H) .here))) h) (hgoal _ _ _ ?_)
     rw [←hJ]
     exact ⟨s2,o,rfl,hs2,hR2.trans (hR'.trans hRu),hS2,ho,rfl,rfl⟩
   | false=>
     have h1:=of_decide_eq_false hgt
     rw [if_pos (hnil.2 (by omega))] at hJ
     refine SPY ?_; repeat' (first|refine ⟨fun hc=>?_,fun hc=>?_⟩|intro)
     rw [i64_succ (by omega)]
     exact Fin.round ⟨i+1,s'⟩ ⟨hi',hs',hR'.trans hRu,hws',hJ⟩ envA (fun _ h=>h.sublist ((List.sublist_append_right _ _).trans (List.sublist_append_right _ _))) (by dsimp only; omega)
 | false=>
   refine SPY ?_; repeat' (first|refine ⟨fun hc=>?_,fun hc=>?_⟩|intro)
   refine WL.e rfl (Ef.callR (c:=u.H) (by rw [←hRu]; exact rfl) (.all _) (dany_tr _ u hu)) ?_
   rintro _ _ ⟨rfl,rfl⟩
   rw [hnn]
   cases hna:Snd.noneActive t.S with
   | true=>
     have hsf:Snd.trySome (stepF (Snd.noneActive t.S) now) now (List.range' i (s.pn - i)) u.S=if (Snd.fresh u.S i now).out=[] then Snd.trySome (stepF (Snd.noneActive t.S) now) now (List.range' (i+1) (s.pn - (i+1))) (Snd.fresh u.S i now).s else (Snd.run (Snd.fresh u.S i now).s i now,some (i,(Snd.fresh u.S i now).out)):=by
      rw [range_at hi',Snd.trySome,show stepF (Snd.noneActive t.S) now u.S i=some (Snd.fresh u.S i now) by unfold stepF; rw [hna,Bool.true_or,if_pos rfl]]
     rw [hna] at hsf hJ
     clear c0 c1 c2 c3 c4 c5 c6 c7 c8 c9 c10 c11 c12 c13 c14 hcan hel
     refine SPY ?_; repeat' (first|refine ⟨fun hc=>?_,fun hc=>?_⟩|intro)
     refine WL.e rfl (Ef.call (c:=u.H) (by rw [←hRu]; exact rfl) (.all _) (dfresh_tr _ u hu i (by omega) now)) ?_
     rintro _ _ ⟨_,⟨s',o,rfl,hs',hR',hS',ho,hoL,rfl⟩,rfl⟩
     have hnil:=ho.nil
     have hws':s'.S.ws=t.S.ws:=by rw [hS',Snd.fresh_ws]; exact hwu
     have hwl':s'.ws.length=s.ws.length:=by have:=congrArg List.length hws'; simp [DsM.S] at this; omega
     rw [List.append_nil]
     rw [←hoL,←hS'] at hsf
     rw [hsf] at hJ
     refine SPQ ?_; repeat' (first|refine ⟨fun hc=>?_,fun hc=>?_⟩|intro)
     cases hgt:decide ((o.sn:Int) > 0) with
     | true=>
       have h1:=of_decide_eq_true hgt
       rw [if_neg (fun e=>by have:=hnil.1 e; omega)] at hJ
       refine SPY ?_; repeat' (first|refine ⟨fun hc=>?_,fun hc=>?_⟩|intro)
       refine WL.e rfl (Ef.call (c:=s'.H) (by rw [←hRu,←hR']; exact rfl) (.skipL o.hb (.skipL o.bb (.all _))) (drun_tr _ s' hs' i (by omega) now)) ?_
       rintro _ _ ⟨_,⟨rfl,s2,hs2,rfl,hR2,hS2⟩,rfl⟩
       refine SPY ?_; repeat' (first|refine ⟨fun hc=>?_,fun hc=>?_⟩|intro)
       refine Fin.retW (by exact rfl) resA (H':=o.hb++(o.bb++s2.H)) (fun _ h=>In.of_sub (.pickL (L:=o.hb) (.right .here) (.pickL (L:=o.bb) (.right .here) (.last (L:=s2.H) .here))) h) (hgoal _ _ _ ?_)
       rw [←hJ]
       exact ⟨s2,o,rfl,hs2,hR2.trans (hR'.trans hRu),hS2,ho,rfl,rfl⟩
     | false=>
       have h1:=of_decide_eq_false hgt
       rw [if_pos (hnil.2 (by omega))] at hJ
       refine SPY ?_; repeat' (first|refine ⟨fun hc=>?_,fun hc=>?_⟩|intro)
       rw [i64_succ (by omega)]
       exact Fin.round ⟨i+1,s'⟩ ⟨hi',hs',hR'.trans hRu,hws',hJ⟩ envA (fun _ h=>h.sublist ((List.sublist_append_right _ _).trans (List.sublist_append_right _ _))) (by dsimp only; omega)
   | false=>
     have hJ2:Snd.trySome (stepF (Snd.noneActive t.S) now) now (List.range' (i+1) (s.pn - (i+1))) u.S=res:=by
      rw [range_at hi',Snd.trySome,show stepF (Snd.noneActive t.S) now u.S i=none by unfold stepF; rw [hact,hac,hna]; rfl] at hJ
      exact hJ
     rw [hna] at hJ2
     refine SPY ?_; repeat' (first|refine ⟨fun hc=>?_,fun hc=>?_⟩|intro)
     rw [i64_succ (by omega)]
     exact Fin.round ⟨i+1,u⟩ ⟨hi',hu,hRu,hwu,hJ2⟩ envA (fun _ h=>h) (by dsimp only; omega)
end Go.Proofs.YtlfpemmdehmbfaaGreat
namespace Go.Proofs.YtlfpemmdehmbfaaGreat
open Go Go.Sl Go.Pth
def DueQ (s:SdM) (o:Option ((Int × List Rm.Sk) × Int)) (v:Value) (H:HL):Prop:=match o with
 | none=>v=tup [.agg [.int .u32 0,.slice none 0 0].toArray,.int .i64 0,.bool false]∧H=s.H
 | some ((y,sk),a)=>∃ (ka:Option Addr) (kn kc:Nat) (kb:HL),v=tup [.agg [.int .u32 y,.slice ka kn kc].toArray,.int .i64 a,.bool true]∧OwnS 239 2 (sk.flatMap skC) (.slice ka kn kc) kb∧H=kb++s.H
set_option maxHeartbeats 4000000 in
theorem due_tr (F:Nat→Option Obj) {n:Nat} (s:SdM) (hs:s.ok n):Tr Tryz.prog 50 [ptr s.R].toArray F s.H (DueQ s (Snd.due s.S)):=by
 refine Tr.enter Tryz.func50 rfl Tryz.ntmps50 rfl (fun w0=>?_)
 obtain ⟨c0,c1,c2,c3,c4,c5,c6,c7,c8,c9,c10,c11⟩:=s.cans (F:=F)
 have hfew:=hs.pl.f.g.few
 refine SPX ?_; repeat' (first|refine ⟨fun hc=>?_,fun hc=>?_⟩|intro)
 rename_i b2
 refine WL.e rfl (Ef.call (c:=s.f.H) (by exact rfl) (.skip _ s.flP.sub) (point_tr _ s.f hs.f hs.small)) ?_
 rintro _ _ ⟨_,⟨sa,sn,sc,hb,ds,rfl,hown,hds,hdd,rfl⟩,rfl⟩
 dsimp only [tup]
 refine WL.weak (H':=(b2,.cells [.int .u32 0,.slice none 0 0].toArray 57 (0,0))::(hb++(ds.flatMap DM.bb++s.H))) (fun _ h=>?_) ?_
 · refine h.perm (List.perm_middle.trans ?_)
   rw [List.append_assoc,List.append_assoc]
   exact (((s.flE (f':=s.f) rfl).append_left _).append_left _).cons _
 have hdl:ds.length=sn:=by have:=OwnS.len hown; rw [flat_len' DM.cells 7 DM.len] at this; omega
 have hsn:sn≤3000:=by
  have h1:ds.length=(Flt.ptL s.f.S.L).length:=by rw [←hdd,List.length_map]
  have h2:(Flt.ptL s.f.S.L).length≤s.f.S.L.length:=by unfold Flt.ptL; rw [List.length_map]; exact (List.takeWhile_sublist _).length_le
  have h3:s.S.f.L.length=s.f.S.L.length:=rfl
  omega
 refine SPX ?_; repeat' (first|refine ⟨fun hc=>?_,fun hc=>?_⟩|intro)
 refine WL.e rfl (Ef.callR (c:=s.f.H) (by exact rfl) (.skip _ (.skipL hb (.skipL (ds.flatMap DM.bb) s.flP.sub))) (cum_tr _ s.f)) ?_
 rintro _ _ ⟨rfl,rfl⟩
 refine SPX ?_; repeat' (first|refine ⟨fun hc=>?_,fun hc=>?_⟩|intro)
 refine WL.e rfl (Ef.look (by exact rfl) (fun F' hF=>make_tr F' s.f.c ds sa sn sc ((Lst.own (F:=F) (H:=hb) hown (fun _ h=>h)).mono (fun w h=>(hF w h).sublist (.cons _ (List.sublist_append_left _ _)))) hsn)) ?_
 rintro _ _ ⟨H1,hq,rfl⟩
 rw [hdd] at hq
 have hdue:Snd.due s.S=match Snd.make s.f.c (Flt.ptL s.f.S.L) with | none=>none | some f=>some (f,if s.told && decide (s.cum=f.1) then s.at_+Snd.valueW s.S s.by_ else 0):=rfl
 rw [hdue]
 cases hmk:Snd.make s.f.c (Flt.ptL s.f.S.L) with
 | none=>
   rw [hmk] at hq
   obtain ⟨rfl,rfl⟩:=hq
   dsimp only [tup]
   refine SPX ?_; repeat' (first|refine ⟨fun hc=>?_,fun hc=>?_⟩|intro)
   refine Fin.retW (by exact rfl) resA (H':=s.H) (fun _ h=>In.of_sub (.last (.there (.right (.right .all)))) h) ⟨rfl,rfl⟩
 | some f=>
   obtain ⟨y,sk⟩:=f
   rw [hmk] at hq
   obtain ⟨ka,kn,kc,rfl,hkown⟩:=hq
   dsimp only [tup]
   cases htold:s.told with
   | false=>
     rw [htold] at c8
     refine SPX ?_; repeat' (first|refine ⟨fun hc=>?_,fun hc=>?_⟩|intro)
     exact Fin.retW (by exact rfl) resA (H':=H1++s.H) (fun _ h=>In.of_sub (.pickL (L:=H1) .here (.last (.there (.right (.right .all))))) h) ⟨ka,kn,kc,H1,rfl,hkown,rfl⟩
   | true=>
     rw [htold] at c8
     have hby:=hs.pl.by_
     have hwn:=hs.wn
     have hSl:s.S.ws.length=s.ws.length:=by simp [SdM.S]
     obtain ⟨j,hj⟩:∃ j:Nat,s.by_=(j:Int):=⟨s.by_.toNat,by have:=hby.1; show s.by_=_; have:0≤s.by_:=this; omega⟩
     have hby2:s.by_ < s.ws.length:=by rw [←hSl]; exact hby.2
     obtain ⟨m,hm,hmS,hkn2⟩:=SdM.wayAt hs (k:=j) (by omega)
     obtain ⟨b,off,hwa,hel⟩:=hs.wrow
     have hcan:=hel F j m hm
     obtain ⟨d0,d1,d2,d3⟩:=SdM.wayCans (F:=F) hm
     have hval:=(hs.way hm).value
     have hat:=hs.pl.at_
     have hat2:0≤s.at_∧s.at_≤2305843009213693952:=hat
     have hv:Snd.valueW s.S (j:Int)=m.pm.s.r.value:=by unfold Snd.valueW; rw [show ((j:Int)).toNat=j from rfl,hmS]; rfl
     have hval2:1≤m.pm.s.r.value∧m.pm.s.r.value≤1048576:=hval
     rw [hj] at c11
     rw [hwa] at c2
     rw [hj,hv]
     clear hel
     refine SPX ?_; repeat' (first|refine ⟨fun hc=>?_,fun hc=>?_⟩|intro)
     · have hcy:s.cum=y:=by simpa using hc
       refine WD.e rfl (Ef.callR (by exact rfl) (.skipL H1 (.skip _ (.skipL hb (.skipL (ds.flatMap DM.bb) (SdM.paP hm).sub)))) (rto_tr _ m.pm)) ?_
       rintro _ _ ⟨rfl,rfl⟩
       refine ⟨.inr (fun _ h=>h),?_⟩
       refine SPX ?_; repeat' (first|refine ⟨fun hc=>?_,fun hc=>?_⟩|intro)
       rw [i64_id (by omega) (by omega)]
       refine Fin.retW (by exact rfl) resA (H':=H1++s.H) (fun _ h=>In.of_sub (.pickL (L:=H1) .here (.last (.there (.right (.right .all))))) h) ⟨ka,kn,kc,H1,?_,hkown,rfl⟩
       rw [hcy]
       simp
     · have hcy:¬ s.cum=y:=by simpa using hc
       refine Fin.retW (by exact rfl) resA (H':=H1++s.H) (fun _ h=>In.of_sub (.pickL (L:=H1) .here (.last (.there (.right (.right .all))))) h) ⟨ka,kn,kc,H1,?_,hkown,rfl⟩
       simp [hcy]
def FwdQ (n:Nat) (s:SdM) (r:Snd.S × Option (Int × List Rm.Sk × Nat)) (v:Value) (H:HL):Prop:=match r with
 | (S',none)=>v=tup [.agg [.int .u32 0,.slice none 0 0].toArray,.int .i64 0,.bool false]∧∃ s':SdM,s'.ok n∧s'.R=s.R∧s'.S=S'∧H=s'.H
 | (S',some (y,sk,b))=>∃ (ka:Option Addr) (kn kc:Nat) (kb:HL) (s':SdM),v=tup [.agg [.int .u32 y,.slice ka kn kc].toArray,.int .i64 b,.bool true]∧OwnS 239 2 (sk.flatMap skC) (.slice ka kn kc) kb∧s'.ok n∧s'.R=s.R∧s'.S=S'∧H=kb++s'.H
set_option maxHeartbeats 4000000 in
theorem fwd_tr (F:Nat→Option Obj) {n:Nat} (s:SdM) (hs:s.ok n) (now:Int):Tr Tryz.prog 34 [ptr s.R,.int .i64 now].toArray F s.H (FwdQ n s (Snd.forward s.S now)):=by
 refine Tr.enter Tryz.func34 rfl Tryz.ntmps34 rfl (fun w0=>?_)
 refine SPX ?_; repeat' (first|refine ⟨fun hc=>?_,fun hc=>?_⟩|intro)
 rename_i b4
 refine WL.e rfl (Ef.call (c:=s.H) (by exact rfl) (.skip _ (.all _)) (due_tr _ s hs)) ?_
 rintro _ _ ⟨_,hq,rfl⟩
 cases hd:Snd.due s.S with
 | none=>
   have hf:Snd.forward s.S now=(s.S,none):=by unfold Snd.forward; rw [hd]
   rw [hd] at hq
   rw [hf]
   obtain ⟨rfl,rfl⟩:=hq
   dsimp only [tup]
   refine SPX ?_; repeat' (first|refine ⟨fun hc=>?_,fun hc=>?_⟩|intro)
   exact Fin.retW (by exact rfl) resA (H':=s.H) (fun _ h=>h.left) ⟨rfl,s,hs,rfl,rfl,rfl⟩
 | some f=>
   obtain ⟨⟨y,sk⟩,a⟩:=f
   rw [hd] at hq
   obtain ⟨ka,kn,kc,kb,rfl,hown,rfl⟩:=hq
   have hf:Snd.forward s.S now=if a > Snd.clock now then (s.S,none) else ({ s.S with told:=true,cum:=y,at_:=Snd.clock now,by_:=(Snd.nextW s.S s.by_.toNat:Nat) },some (y,Snd.cutSk sk (s.mtu - 20),Snd.nextW s.S s.by_.toNat)):=by unfold Snd.forward; rw [hd]; rfl
   have hok:=Snd.forward_ok hs.pl now
   rw [hf] at hok ⊢
   dsimp only [tup]
   refine WL.weak (H':=(b4,.cells [.int .u32 0,.slice none 0 0].toArray 57 (0,0))::(kb++s.H)) (fun _ h=>In.of_sub (.pick (.right .here) (.last .here)) h) ?_
   refine SPX ?_; repeat' (first|refine ⟨fun hc=>?_,fun hc=>?_⟩|intro)
   refine WL.e rfl (Ef.callR (by exact rfl) (.nil _) (clock_tr _ now)) ?_
   rintro _ _ ⟨rfl,rfl⟩
   refine SPY ?_; repeat' (first|refine ⟨fun hc=>?_,fun hc=>?_⟩|intro)
   · have hgt:=of_decide_eq_true hc
     rw [if_pos hgt]
     exact Fin.retW (by exact rfl) resA (H':=s.H) (fun _ h=>In.of_sub (.last (.there (.right .all))) h) ⟨rfl,s,hs,rfl,rfl,rfl⟩
   have hle:=of_decide_eq_false hc
   rw [if_neg hle] at hok ⊢
   dsimp only at hok
   refine W.draw [(b4,.cells [.int .u32 y,.slice ka kn kc].toArray 57 (0,0))] (by kernel_rfl) (by kernel_rfl) (fun _ h=>h.sublist (.cons_cons _ (List.nil_sublist _))) ?_
   refine SPY ?_; repeat' (first|refine ⟨fun hc=>?_,fun hc=>?_⟩|intro)
   refine WD.e rfl (Ef.callR (by exact rfl) (.nil _) (clock_tr _ now)) ?_
   rintro _ _ ⟨rfl,rfl⟩
   refine ⟨.inr (fun _ h=>h.sublist (.cons_cons _ (List.nil_sublist _))),?_⟩
   refine SPX ?_; repeat' (first|refine ⟨fun hc=>?_,fun hc=>?_⟩|intro)
   refine WD.e0 (Ef.st rfl rfl rfl (.there (.right (SdM.put (s':={ s with told:=true }) rfl rfl (off:=0+8) (vs:=[.bool true]) rfl)))) ?_
   rintro _ _ ⟨rfl,rfl⟩
   refine ⟨.inr (fun _ h=>h.sublist (.cons_cons _ (List.nil_sublist _))),?_⟩
   refine SPX ?_; repeat' (first|refine ⟨fun hc=>?_,fun hc=>?_⟩|intro)
   refine WD.e0 (Ef.st rfl rfl rfl (.there (.right (SdM.put (s:={ s with told:=true }) (s':={ s with told:=true,cum:=y }) rfl rfl (off:=0+9) (vs:=[.int .u32 y]) rfl)))) ?_
   rintro _ _ ⟨rfl,rfl⟩
   refine ⟨.inr (fun _ h=>h.sublist (.cons_cons _ (List.nil_sublist _))),?_⟩
   refine SPX ?_; repeat' (first|refine ⟨fun hc=>?_,fun hc=>?_⟩|intro)
   refine WD.e0 (Ef.st rfl rfl rfl (.there (.right (SdM.put (s:={ s with told:=true,cum:=y }) (s':={ s with told:=true,cum:=y,at_:=Snd.clock now }) rfl rfl (off:=0+10) (vs:=[.int .i64 (Snd.clock now)]) rfl)))) ?_
   rintro _ _ ⟨rfl,rfl⟩
   refine ⟨.inr (fun _ h=>h.sublist (.cons_cons _ (List.nil_sublist _))),?_⟩
   obtain ⟨u,hu⟩:∃ u:SdM,u={ s with told:=true,cum:=y,at_:=Snd.clock now }:=⟨_,rfl⟩
   have huR:u.R=s.R:=by rw [hu]
   have huB:u.by_=s.by_:=by rw [hu]
   have huM:u.mtu=s.mtu:=by rw [hu]
   have huS:u.S={ s.S with told:=true,cum:=y,at_:=Snd.clock now }:=by rw [hu]; rfl
   have huo:u.ok n:=by
    rw [hu]
    exact ⟨hs.o,hs.f,hs.ways,hs.lives,hs.owed,hs.own,{ hs.pl with cum:=hok.cum,at_:=hok.at_ }⟩
   have hby:=hs.pl.by_
   have hnws:=hs.nws
   have hSl:s.S.ws.length=s.ws.length:=by simp [SdM.S]
   have hby1:0≤s.by_:=hby.1
   have hby2:s.by_ < s.ws.length:=by rw [←hSl]; exact hby.2
   obtain ⟨j,hj⟩:∃ j:Nat,s.by_=(j:Int):=⟨s.by_.toNat,by omega⟩
   rw [←hu]
   have c11:Sl.Can F u.H s.R (0+11) [.int .i64 (j:Int)]:=by rw [←huR,←hj,←huB]; exact (u.cans (F:=F)).2.2.2.2.2.2.2.2.2.2.2
   have hT:=fun F'=>snext_tr F' u huo j (by omega)
   rw [huR] at hT
   refine SPX ?_; repeat' (first|refine ⟨fun hc=>?_,fun hc=>?_⟩|intro)
   refine WL.e rfl (Ef.callR (c:=u.H) (by exact rfl) (.skip _ (.last (.right .all))) (hT _)) ?_
   clear hT c11
   rintro _ _ ⟨rfl,rfl⟩
   have hnx:Snd.nextW u.S j=Snd.nextW s.S s.by_.toNat:=by rw [huS,hj]; rfl
   rw [hnx]
   obtain ⟨q,hq⟩:∃ q,Snd.nextW s.S s.by_.toNat=q:=⟨_,rfl⟩
   rw [hq] at hok ⊢
   refine SPX ?_; repeat' (first|refine ⟨fun hc=>?_,fun hc=>?_⟩|intro)
   refine WL.e0 (Ef.st rfl rfl rfl (.there (.right (by rw [←huR]; exact SdM.put (s:=u) (s':={ u with by_:=q }) rfl rfl (off:=0+11) (vs:=[.int .i64 q]) rfl)))) ?_
   rintro _ _ ⟨rfl,rfl⟩
   obtain ⟨r,hr⟩:∃ r:SdM,r={ u with by_:=q }:=⟨_,rfl⟩
   have hrR:r.R=s.R:=by rw [hr]; exact huR
   have hrS:r.S={ s.S with told:=true,cum:=y,at_:=Snd.clock now,by_:=q }:=by rw [hr,hu]; rfl
   have hro:r.ok n:=by
    rw [hr]
    exact ⟨huo.o,huo.f,huo.ways,huo.lives,huo.owed,huo.own,by show Snd.Ok n { u.S with by_:=q }; rw [huS]; exact hok⟩
   have hrM:r.mtu=s.mtu:=by rw [hr]; exact huM
   rw [←hr]
   have hmtu:128≤s.mtu∧s.mtu≤1500:=hs.pl.mtu
   have c5:Sl.Can F r.H s.R (0+5) [.int .i64 s.mtu]:=by rw [←hrR,←hrM]; exact (r.cans (F:=F)).2.2.2.2.2.1
   have c11:Sl.Can F r.H s.R (0+11) [.int .i64 (q:Int)]:=by rw [←hrR]; have:=(r.cans (F:=F)).2.2.2.2.2.2.2.2.2.2.2; rw [hr] at this ⊢; exact this
   refine SPX ?_; repeat' (first|refine ⟨fun hc=>?_,fun hc=>?_⟩|intro)
   rw [i64_id (n:=s.mtu - 20) (by omega) (by omega)]
   have hskl:=Snd.due_len hd
   have hfew:=hs.pl.f.g.few
   refine WD.e rfl (Ef.look (by exact rfl) (fun F' hF=>cut_tr F' y sk ka kn kc ((Lst.own (F:=F) (H:=kb) hown (fun _ h=>h)).mono (fun w h=>(hF w h).sublist (.cons _ (List.sublist_append_left _ _)))) (by omega) (s.mtu - 20) (by omega))) ?_
   rintro _ _ ⟨H1,⟨ja,jn,jc,rfl,hown'⟩,rfl⟩
   refine ⟨.inr (fun _ h=>h.right),?_⟩
   refine SPX ?_; repeat' (first|refine ⟨fun hc=>?_,fun hc=>?_⟩|intro)
   refine Fin.retW (by exact rfl) resA (H':=H1++r.H) (fun _ h=>In.of_sub (.pickL (L:=H1) .here (.last (.there (.right .all)))) h) ⟨ja,jn,jc,H1,r,rfl,hown',hro,hrR,hrS,rfl⟩
structure GWn where
 i:Nat
set_option maxHeartbeats 4000000 in
theorem when_tr (F:Nat→Option Obj) {n:Nat} (s:SdM) (hs:s.ok n) (hln:n≤1000000):Tr Tryz.prog 16 [ptr s.R].toArray F s.H (fun v H=>v=tup [.int .i64 (Snd.when s.S),.bool true]∧H=s.H):=by
 refine Tr.enter Tryz.func16 rfl Tryz.ntmps16 rfl (fun w0=>?_)
 obtain ⟨c0,c1,c2,c3,c4,c5,c6,c7,c8,c9,c10,c11⟩:=s.cans (F:=F)
 obtain ⟨b,off,hwa,hel⟩:=hs.wrow
 have hwn:=hs.wn
 have hnws:=hs.nws
 have hSl:s.S.ws.length=s.ws.length:=by simp [SdM.S]
 obtain ⟨m0,hm0,hmS0,hkn0⟩:=SdM.wayAt hs (k:=0) (by omega)
 have hcan0:=hel F 0 m0 hm0
 obtain ⟨d0,d1,d2,d3⟩:=SdM.wayCans (F:=F) hm0
 rw [hwa] at c2
 refine SPX ?_; repeat' (first|refine ⟨fun hc=>?_,fun hc=>?_⟩|intro)
 refine WL.e rfl (Ef.callR (by exact rfl) (SdM.paP hm0).sub (pwhen_tr _ m0.pm)) ?_
 rintro _ _ ⟨rfl,rfl⟩
 clear d0 d1 d2 d3 hcan0
 refine SPX ?_; repeat' (first|refine ⟨fun hc=>?_,fun hc=>?_⟩|intro)
 refine W.loop (G:=GWn) (fun g=>[(0,ptr s.R),(4,.int .i64 ((s.S.ws.take g.i).foldl Snd.whenW m0.pm.s.next)),(27,.slice (some ⟨b,off,none⟩) s.wn s.wc),(28,.int .i64 s.wn),(29,.int .i64 g.i)]) (fun _=>s.H) (fun g=>g.i≤s.wn) (fun g=>s.wn - g.i) ⟨0⟩ (Nat.zero_le _) envA (fun _ h=>h) ?_
 rintro ⟨i⟩ hi
 dsimp only at hi ⊢
 refine SPQ ?_; repeat' (first|refine ⟨fun hc=>?_,fun hc=>?_⟩|intro)
 cases hc:decide ((i:Int) < s.wn) with
 | true=>
   have hi':i < s.wn:=by have:=of_decide_eq_true hc; omega
   obtain ⟨m,hm,hmS,hkn⟩:=SdM.wayAt hs (k:=i) (by omega)
   have hcan:=hel F i m hm
   obtain ⟨d0,d1,d2,d3⟩:=SdM.wayCans (F:=F) hm
   have hsn:s.S.ws.take (i+1)=s.S.ws.take i++[m.W]:=by rw [List.take_add_one,hmS]; rfl
   clear hel
   obtain ⟨t,ht⟩:∃ t,(s.S.ws.take i).foldl Snd.whenW m0.pm.s.next=t:=⟨_,rfl⟩
   have hfs:(s.S.ws.take (i+1)).foldl Snd.whenW m0.pm.s.next=Snd.whenW t m.W:=by rw [hsn,List.foldl_append,ht]; rfl
   rw [ht]
   refine SPX ?_; repeat' (first|refine ⟨fun hc=>?_,fun hc=>?_⟩|intro)
   refine WL.e rfl (Ef.callR (by exact rfl) (SdM.paP hm).sub (pwhen_tr _ m.pm)) ?_
   rintro _ _ ⟨rfl,rfl⟩
   refine SPX ?_; repeat' (first|refine ⟨fun hc=>?_,fun hc=>?_⟩|intro)
   · have htm:¬ m.timer=-1:=by simpa using hc
     have e:(if m.timer < (if m.pm.s.next < t then m.pm.s.next else t) then m.timer else (if m.pm.s.next < t then m.pm.s.next else t))=Snd.whenW t m.W:=by
      unfold Snd.whenW
      show _=if m.timer=-1 then min t m.pm.s.next else min (min t m.pm.s.next) m.timer
      rw [if_neg htm,go_mn,go_mn]
     rw [e,←hfs,i64_succ (by omega)]
     exact Fin.round ⟨i+1⟩ hi' envA (fun _ h=>h) (by dsimp only; omega)
   · have htm:m.timer=-1:=by simpa using hc
     have e:(if m.pm.s.next < t then m.pm.s.next else t)=Snd.whenW t m.W:=by
      unfold Snd.whenW
      show _=if m.timer=-1 then min t m.pm.s.next else min (min t m.pm.s.next) m.timer
      rw [if_pos htm,go_mn]
     rw [e,←hfs,i64_succ (by omega)]
     exact Fin.round ⟨i+1⟩ hi' envA (fun _ h=>h) (by dsimp only; omega)
 | false=>
 have hi':i=s.S.ws.length:=by have:=of_decide_eq_false hc; omega
 subst hi'
 rw [List.take_length]
 obtain ⟨t1,ht1⟩:∃ t1,s.S.ws.foldl Snd.whenW m0.pm.s.next=t1:=⟨_,rfl⟩
 rw [ht1]
 clear hel
 have hll:=OwnS.len hs.lives
 rw [flat_len' lifeC 2 lifeC_len] at hll
 have hlf:s.lives.length≤n:=hs.pl.lfew
 refine SPX ?_; repeat' (first|refine ⟨fun hc=>?_,fun hc=>?_⟩|intro)
 refine W.loop (G:=GWn) (fun g=>[(0,ptr s.R),(4,.int .i64 ((s.lives.take g.i).foldl (fun t x=>mn t x.til) t1)),(55,.slice s.la s.ln s.lc),(56,.int .i64 s.ln),(57,.int .i64 g.i)]) (fun _=>s.H) (fun g=>g.i≤s.ln) (fun g=>s.ln - g.i) ⟨0⟩ (Nat.zero_le _) envA (fun _ h=>h) ?_
 rintro ⟨i⟩ hi
 dsimp only at hi ⊢
 refine SPQ ?_; repeat' (first|refine ⟨fun hc=>?_,fun hc=>?_⟩|intro)
 cases hc:decide ((i:Int) < s.ln) with
 | true=>
   have hi':i < s.ln:=by have:=of_decide_eq_true hc; omega
   obtain ⟨x,hx⟩:∃ x,s.lives[i]? = some x:=⟨s.lives[i]'(by omega),List.getElem?_eq_getElem _⟩
   obtain ⟨lb,lo,hla,hcan⟩:=(Lst.own (F:=F) hs.lives (fun _ h=>h)).el lifeC_len hx (by omega)
   have hia:0≤(i:Int)∧(i:Int) < s.ln:=by omega
   have hcan':=hcan.mono (F':=F) (H':=s.H) (fun w h=>In.of_sub s.lvP.sub h)
   have hfs:(s.lives.take (i+1)).foldl (fun t x=>mn t x.til) t1=min ((s.lives.take i).foldl (fun t x=>mn t x.til) t1) x.til:=by rw [List.take_add_one,hx,List.foldl_append]; rfl
   rw [hla]
   refine SPX ?_; repeat' (first|refine ⟨fun hc=>?_,fun hc=>?_⟩|intro)
   refine WL.s rfl (Rd.ldaC rfl (by exact rfl) hcan') ?_
   refine SPX ?_; repeat' (first|refine ⟨fun hc=>?_,fun hc=>?_⟩|intro)
   rw [go_mn,←hfs,i64_succ (by omega),←hla]
   exact Fin.round ⟨i+1⟩ hi' envA (fun _ h=>h.sublist (.cons _ (List.Sublist.refl _))) (by dsimp only; omega)
 | false=>
 have hi':i=s.lives.length:=by have:=of_decide_eq_false hc; omega
 subst hi'
 rw [List.take_length]
 obtain ⟨t2,ht2⟩:∃ t2,s.lives.foldl (fun t x=>mn t x.til) t1=t2:=⟨_,rfl⟩
 rw [ht2]
 have hwhen:Snd.when s.S=match Snd.due s.S with | some (_,a)=>mn t2 a | none=>t2:=by
  rw [←ht2,←ht1]
  unfold Snd.when
  dsimp only
  rw [show s.S.lives=s.lives from rfl]
  cases hws:s.S.ws with
  | nil=>rw [hws] at hmS0; cases hmS0
  | cons w r=>rw [hws] at hmS0; cases hmS0; rfl
 refine SPX ?_; repeat' (first|refine ⟨fun hc=>?_,fun hc=>?_⟩|intro)
 refine WL.e rfl (Ef.call (c:=s.H) (by exact rfl) (.all _) (due_tr _ s hs)) ?_
 rintro _ _ ⟨_,hq,rfl⟩
 rw [List.append_nil]
 cases hd:Snd.due s.S with
 | none=>
   rw [hd] at hq hwhen
   obtain ⟨rfl,rfl⟩:=hq
   dsimp only [tup] at hwhen ⊢
   refine SPX ?_; repeat' (first|refine ⟨fun hc=>?_,fun hc=>?_⟩|intro)
   exact Fin.retW (by exact rfl) resA (H':=s.H) (fun _ h=>h.sublist (.cons _ (List.Sublist.refl _))) ⟨by rw [hwhen]; rfl,rfl⟩
 | some f=>
   obtain ⟨⟨y,sk⟩,a⟩:=f
   rw [hd] at hq hwhen
   obtain ⟨ka,kn,kc,kb,rfl,hown,rfl⟩:=hq
   dsimp only [tup] at hwhen ⊢
   refine SPX ?_; repeat' (first|refine ⟨fun hc=>?_,fun hc=>?_⟩|intro)
   rw [go_mn]
   exact Fin.retW (by exact rfl) resA (H':=s.H) (fun _ h=>In.of_sub (.last (.there (.right .all))) h) ⟨by rw [hwhen]; rfl,rfl⟩
end Go.Proofs.YtlfpemmdehmbfaaGreat
