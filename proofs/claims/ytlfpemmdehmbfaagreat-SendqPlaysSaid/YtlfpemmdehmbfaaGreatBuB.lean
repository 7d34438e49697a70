/- Some texts as one. A region that draws its order: one walk in the text's order serves every order, if what may be exchanged reads nothing that is written meanwhile. No conditions: laws only. The logic's rules for maps whose keys are integers: look-up, store, delete, and the walk over all entries in whatever order. No conditions: laws only. The logic's rules for slices: append to a slice that is owned, literals of slices and structs, make, parts of slices. No conditions: laws only. -/
import Derived.Test.YtlfpemmdehmbfaaGreatBuA
import Derived.OrdersIn
import Derived.Laws.AppendOwn
namespace Go.Sl
open Go
inductive Kd where
 | p | s | e
 deriving DecidableEq
def kindOf:Op→Kd
 | .move _ | .assign _ | .pick .. | .fieldAddr .. | .field .. | .extract .. | .nilCheck _ | .unOp .. | .build .. | .index .. | .indexAddr .. | .slice .. | .makeInterface .. | .makeFunc ..=>.p
 | .binOp ..=>.p
 | .call ⟨.builtin .min,_,_⟩ | .call ⟨.builtin .max,_,_⟩=>.p
 | .convert a b _=>if Nat.beq a b then .e else .s
 | .load .. | .lookup .. | .call ⟨.builtin .len,_,_⟩=>.s
 | _=>.e
structure Tg where
 k:Kd
 i:Nat
 o:Oper
 nc:Bool
def Kd.isS:Kd→Bool | .s=>true | _=>false
def Kd.isE:Kd→Bool | .e=>true | _=>false
def maskOf (o:Oper) (acc:List Nat):Nat:=o.after.toList.foldl (fun s e=>if Region.binds .any e then s ||| (1 <<< e.on) ||| acc.getD e.on 0 else s) 0
def masks:List Oper→List Nat→List Nat
 | [],acc=>acc
 | o::l,acc=>masks l (acc++[maskOf o acc])
def sMask:List Oper→Nat→Nat
 | [],_=>0
 | o::l,n=>(if (kindOf o.op).isS then 1 <<< n else 0) ||| sMask l (n+1)
def tag (ms:List Nat) (sm:Nat):List Oper→Nat→List Tg
 | [],_=>[]
 | o::l,n=>⟨kindOf o.op,n,o,(sm &&& ms.getD n 0) != sm⟩::tag ms sm l (n+1)
def tags (l:List Oper):List Tg:=tag (masks l []) (sMask l 0) l 0
def hasS:List Tg→Bool
 | []=>false
 | t::l=>t.k.isS || hasS l
def anc (ms:List Nat) (i x:Nat):Bool:=(ms.getD i 0).testBit x
def pairB (ops:Array Oper) (ms:List Nat) (x y:Tg):Bool:=
 (anc ms y.i x.i || (x.o.apart ops y.o && !(x.k.isE && y.k.isE) && (!(x.k.isS && y.k.isE) || y.nc))) && !(x.k.isE && !x.nc && y.k.isS)
def pwB (f:Tg→Tg→Bool):List Tg→Bool
 | []=>true
 | t::l=>l.all (f t) && pwB f l
def soundB (ms:List Nat):List Oper→Nat→Bool
 | [],_=>true
 | o::l,n=>
   o.after.toList.all (fun e=>!Region.binds .any e || Nat.blt e.on n) &&
   Nat.blt (ms.getD n 0) (2 ^ n) && (List.range n).all (fun x=>!anc ms n x || o.after.toList.any (fun e=>Region.binds .any e && (e.on == x || anc ms e.on x))) && soundB ms l (n+1)
def mixB (l:List Oper):Bool:=
 Region.noSelect l.toArray && soundB (masks l []) l 0 && pwB (pairB l.toArray (masks l [])) (tags l)
section
variable {P:Program} {ops:Array Oper} {C:World→Prop} {Q:Act→World→Prop}
def quietV (P:Program) (ops:Array Oper) (C:World→Prop) (t:Tg) (a:Act) (v:Value):Prop:=
 (Region.wanted t.o (yielded ops a.tmps)=true∧t.k≠.e∧∀ w,(t.k=.s→C w)→(execOp a.eval t.o).run P w=.ok (.value v) w)∨
 (Region.wanted t.o (yielded ops a.tmps)=false∧v=undef)
def acts (ops:Array Oper) (t:Tg) (a:Act):Prop:=Region.wanted t.o (yielded ops a.tmps)=true∧t.k=.e
def wpMix (P:Program) (ops:Array Oper) (C:World→Prop) (Q:Act→World→Prop):List Tg→(World→Prop)→Act→Prop
 | [],M,a=>∀ w,M w→Q a w
 | t::rest,M,a=>
   (∃ v,quietV P ops C t a v∧wpMix P ops C Q rest M (a.put t.o.dst v))∨
   (acts ops t a∧∀ w,M w→yields P t.o a w (fun v w'=>∃ M':World→Prop,M' w'∧(t.nc=true→∀ w,M' w→C w)∧wpMix P ops C Q rest M' (a.put t.o.dst v)))
theorem quietV_put {t:Tg} {a:Act} {v:Value} {d:Option Tmp} {u:Value} (hs:∀ cs b,t.o.op≠.select cs b) (h:∀ x,d=some x→x ∉ t.o.looksAt ops):quietV P ops C t (a.put d u) v↔quietV P ops C t a v:=by
 unfold quietV
 rw [wanted_put t.o a d u h,execOp_put t.o hs a d u h]
theorem acts_put {t:Tg} {a:Act} {d:Option Tmp} {u:Value} (h:∀ x,d=some x→x ∉ t.o.looksAt ops):acts ops t (a.put d u)↔acts ops t a:=by
 unfold acts
 rw [wanted_put t.o a d u h]
theorem yields_put {o:Oper} {a:Act} {d:Option Tmp} {u:Value} {w:World} {R:Value→World→Prop} (hs:∀ cs b,o.op≠.select cs b) (h:∀ x,d=some x→x ∉ o.looksAt ops):yields P o (a.put d u) w R↔yields P o a w R:=by
 unfold yields
 rw [execOp_put o hs a d u h]
theorem quietV_det {t:Tg} {a:Act} {u v:Value} {w:World} (hC:t.k=.s→C w) (h1:quietV P ops C t a u) (h2:quietV P ops C t a v):u=v:=by
 rcases h1 with ⟨w1,_,r1⟩ | ⟨w1,rfl⟩ <;> rcases h2 with ⟨w2,_,r2⟩ | ⟨w2,rfl⟩
 · have:=(r1 w hC).symm.trans (r2 w hC); simpa using this
 · rw [w1] at w2; cases w2
 · rw [w1] at w2; cases w2
 · rfl
theorem hasS_iff (l:List Tg):hasS l=true↔∃ t ∈ l,t.k=.s:=by
 induction l with
 | nil=>simp [hasS]
 | cons t l ih=>
   simp only [hasS,Bool.or_eq_true,ih,List.mem_cons]
   constructor
   · rintro (h | ⟨u,hu,hk⟩)
     · exact ⟨t,.inl rfl,by cases hk:t.k <;> simp [hk,Kd.isS] at h ⊢⟩
     · exact ⟨u,.inr hu,hk⟩
   · rintro ⟨u,rfl | hu,hk⟩
     · exact .inl (by rw [hk]; rfl)
     · exact .inr ⟨u,hu,hk⟩
structure Sw (ops:Array Oper) (x y:Tg):Prop where
 apart:x.o.apart ops y.o=true
 ne:¬ (x.k=.e∧y.k=.e)
 nc:x.k=.s→y.k=.e→y.nc=true
theorem wpMix_swap {x y:Tg} {rest:List Tg} {M:World→Prop} {a:Act} (hx:∀ cs b,x.o.op≠.select cs b) (hy:∀ cs b,y.o.op≠.select cs b)
 (hsw:Sw ops x y) (hMy:y.k=.s→∀ w,M w→C w) (hw:∃ w,M w)
 (h:wpMix P ops C Q (x::y::rest) M a):wpMix P ops C Q (y::x::rest) M a:=by
 obtain ⟨h1,h2,h3⟩:=Oper.apart_spec hsw.apart
 rcases h with ⟨v,hv,h⟩ | ⟨hax,h⟩
 · rcases h with ⟨u,hu,h⟩ | ⟨hay,h⟩
   · refine .inl ⟨u,(quietV_put hy h1).1 hu,.inl ⟨v,(quietV_put hx h3).2 hv,?_⟩⟩
     rw [←Act.put_comm a v u h2]; exact h
   · refine .inr ⟨(acts_put h1).1 hay,fun w hMw=>Yr.mono ?_ ((yields_put hy h1).1 (h w hMw))⟩
     rintro u w' ⟨M',hM',hk,hr⟩
     exact ⟨M',hM',hk,.inl ⟨v,(quietV_put hx h3).2 hv,by rw [←Act.put_comm a v u h2]; exact hr⟩⟩
 · obtain ⟨w0,hw0⟩:=hw
   obtain ⟨v0,w0',M0,hM0,hk0,h0⟩:=(h w0 hw0).ex
   have hyq:∃ u,quietV P ops C y a u:=by
    rcases h0 with ⟨u,hu,_⟩ | ⟨hay,_⟩
    · exact ⟨u,(quietV_put hy h1).1 hu⟩
    · exact absurd ⟨hax.2,hay.2⟩ hsw.ne
   obtain ⟨u,hu⟩:=hyq
   refine .inl ⟨u,hu,.inr ⟨(acts_put h3).2 hax,fun w hMw=>Yr.mono ?_ ((yields_put hx h3).2 (h w hMw))⟩⟩
   rintro v w' ⟨M',hM',hk,hr⟩
   rcases hr with ⟨u',hu',hr⟩ | ⟨hay,_⟩
   · have hu2:=(quietV_put hy h1).1 hu'
     obtain rfl:u=u':=quietV_det (w:=w) (fun hs=>hMy hs w hMw) hu hu2
     refine ⟨M',hM',hk,?_⟩
     rw [←Act.put_comm a v u h2]; exact hr
   · exact absurd ⟨hax.2,hay.2⟩ hsw.ne
def Late (x y:Tg):Prop:=x.k=.e→x.nc=false→y.k≠.s
theorem wpMix_push {x:Tg} {r r':List Tg} {M:World→Prop} {a:Act} (hl:∀ y ∈ r,Late x y) (hM:hasS (x::r)=true→∀ w,M w→C w) (hw:∃ w,M w)
 (hr:∀ (M':World→Prop) (a':Act),(hasS r=true→∀ w,M' w→C w)→(∃ w,M' w)→wpMix P ops C Q r M' a'→wpMix P ops C Q r' M' a')
 (h:wpMix P ops C Q (x::r) M a):wpMix P ops C Q (x::r') M a:=by
 rcases h with ⟨v,hv,h⟩ | ⟨hax,h⟩
 · exact .inl ⟨v,hv,hr M _ (fun hs=>hM (by simp [hasS,hs])) hw h⟩
 · refine .inr ⟨hax,fun w hMw=>Yr.mono ?_ (h w hMw)⟩
   rintro v w' ⟨M',hM',hk,h'⟩
   refine ⟨M',hM',hk,hr M' _ (fun hs=>?_) ⟨w',hM'⟩ h'⟩
   cases hnc:x.nc with
   | true=>exact hk hnc
   | false=>
     obtain ⟨y,hy,hys⟩:=(hasS_iff r).1 hs
     exact absurd hys (hl y hy hax.2 hnc)
theorem wpMix_front {i:Tg} {l2:List Tg}:∀ (l1:List Tg) (M:World→Prop) (a:Act),(∀ t ∈ l1++i::l2,∀ cs b,t.o.op≠.select cs b)→(l1++i::l2).Pairwise Late→(∀ x ∈ l1,Sw ops x i)→
 (hasS (l1++i::l2)=true→∀ w,M w→C w)→(∃ w,M w)→wpMix P ops C Q (l1++i::l2) M a→wpMix P ops C Q (i::(l1++l2)) M a
 | [],_,_,_,_,_,_,_,h=>h
 | x::l1,M,a,hns,hpw,hsw,hM,hw,h=>by
   rw [List.cons_append,List.pairwise_cons] at hpw
   have h':wpMix P ops C Q (x::(i::(l1++l2))) M a:=by
    refine wpMix_push hpw.1 hM hw (fun M' a' hM' hw' hr=>?_) h
    exact wpMix_front l1 M' a' (fun t ht=>hns t (List.mem_cons_of_mem _ ht)) hpw.2 (fun y hy=>hsw y (List.mem_cons_of_mem _ hy)) hM' hw' hr
   refine wpMix_swap (hns x (by simp)) (hns i (by simp)) (hsw x (by simp)) (fun hs=>hM ?_) hw h'
   exact (hasS_iff _).2 ⟨i,by simp,hs⟩
def Closed (ops:Array Oper) (listed:Array Bool):Prop:=∀ j o,ops[j]? = some o→listed.getD j true=true→∀ e ∈ o.after,Region.binds .any e=true→listed.getD e.on false=true
theorem anc_listed {ms:List Nat} (hs:∀ i o,ops[i]? = some o→(∀ e ∈ o.after,Region.binds .any e=true→e.on < i)∧∀ x,anc ms i x=true→∃ e ∈ o.after,Region.binds .any e=true∧(e.on=x∨anc ms e.on x=true))
 {listed:Array Bool} (hsz:listed.size=ops.size) (hc:Closed ops listed):∀ (n i:Nat),i < n→∀ o,ops[i]? = some o→(∀ e ∈ o.after,Region.binds .any e=true→listed.getD e.on false=true)→∀ x,anc ms i x=true→listed.getD x false=true
 | 0,_,h,_,_,_,_,_=>by omega
 | n+1,i,hi,o,ho,hall,x,hx=>by
   obtain ⟨e,he,hb,h | h⟩:=(hs i o ho).2 x hx
   · rw [←h]; exact hall e he hb
   · have hl:=hall e he hb
     have hlt:=(hs i o ho).1 e he hb
     have hlt2:e.on < ops.size:=by
      have:=(Array.getElem?_eq_some_iff.1 ho).1; omega
     have hoe:ops[e.on]? = some ops[e.on]:=Array.getElem?_eq_getElem hlt2
     refine anc_listed hs hsz hc n e.on (by omega) _ hoe (fun e' he' hb'=>hc e.on _ hoe ?_ e' he' hb') x h
     have hlt3:e.on < listed.size:=by omega
     simp only [Array.getD,hlt3,dite_true] at hl ⊢
     exact hl
theorem wpAny_of_mix {rd:Option Nat} {ms:List Nat} {Q':Post} (hq:∀ a w,Q a w→Q' .normal a w) (hns:∀ (j:Nat) (o:Oper) cs b,ops[j]? = some o→o.op≠.select cs b)
 (hs:∀ i o,ops[i]? = some o→(∀ e ∈ o.after,Region.binds .any e=true→e.on < i)∧∀ x,anc ms i x=true→∃ e ∈ o.after,Region.binds .any e=true∧(e.on=x∨anc ms e.on x=true)) :
 ∀ (l:List Tg) (listed:Array Bool) (M:World→Prop) (a:Act) (w:World),listed.size=ops.size→Closed ops listed→(∀ t ∈ l,ops[t.i]? = some t.o)→(l.map (·.i)).Nodup→(∀ j,j < ops.size→(listed.getD j true=false↔j ∈ l.map (·.i)))→
  (l.map (·.i)).Pairwise (· < ·)→l.Pairwise (fun x y=>(anc ms y.i x.i=true∨Sw ops x y)∧Late x y)→(hasS l=true→∀ w,M w→C w)→M w→wpMix P ops C Q l M a→wpAnyIn (fenceR rd) 0 P .any ops Q' l.length listed a w:=by
 intro l
 generalize hn:l.length=n
 induction n generalizing l with
 | zero=>
   intro listed M a w hsz hc ho hnd hl hlt hpw hM hw h
   obtain rfl:=List.eq_nil_of_length_eq_zero hn
   refine ⟨?_,hq _ _ (h w hw)⟩
   refine List.eq_nil_iff_forall_not_mem.2 fun j hj=>?_
   obtain ⟨h0,o,hoj,_⟩:=mem_ready.1 hj
   have:=(hl j (Array.getElem?_eq_some_iff.1 hoj).1).1 h0
   simp at this
 | succ n ih=>
   intro listed M a w hsz hc ho hnd hl hlt hpw hM hw h
   refine ⟨fun hr=>?_,fun j hj=>?_⟩
   ·
    exfalso
    obtain ⟨t,l',rfl⟩:∃ t l',l=t::l':=by
     cases l with
     | nil=>simp at hn
     | cons t l'=>exact ⟨t,l',rfl⟩
    have hot:=ho t (by simp)
    have htlt:t.i < ops.size:=(Array.getElem?_eq_some_iff.1 hot).1
    have:t.i ∈ Region.ready .any ops listed:=mem_ready.2 ⟨(hl t.i htlt).2 (by simp),t.o,hot,fun e he hb=>by
     have he1:=(hs t.i t.o hot).1 e he hb
     have hnot:¬ listed.getD e.on true=false:=fun hf=>by
      have hm:=(hl e.on (by omega)).1 hf
      simp only [List.map_cons,List.mem_cons] at hm
      rw [List.map_cons,List.pairwise_cons] at hlt
      rcases hm with hm | hm
      · omega
      · have:=hlt.1 _ hm; omega
     have hlt3:e.on < listed.size:=by omega
     simp only [Array.getD,hlt3,dite_true] at hnot ⊢
     simpa using hnot⟩
    rw [hr] at this
    cases this
   · obtain ⟨h0,o,hoj,hall⟩:=mem_ready.1 hj
     have hjlt:=(Array.getElem?_eq_some_iff.1 hoj).1
     obtain ⟨t,ht,rfl⟩:=List.mem_map.1 ((hl j hjlt).1 h0)
     obtain ⟨l1,l2,rfl⟩:=List.append_of_mem ht
     have hot:ops[t.i]? = some t.o:=ho t ht
     obtain rfl:o=t.o:=by rw [hoj] at hot; cases hot; rfl
     have hpw':=hpw
     rw [List.pairwise_append] at hpw
     have hsw:∀ x ∈ l1,Sw ops x t:=fun x hx=>by
      rcases (hpw.2.2 x hx t (by simp)).1 with hanc | hsw
      · exfalso
        have:=anc_listed hs hsz hc (t.i+1) t.i (by omega) t.o hoj hall x.i hanc
        have hxo:=ho x (by simp [hx])
        have hxl:x.i < ops.size:=(Array.getElem?_eq_some_iff.1 hxo).1
        have hf:=(hl x.i hxl).2 (List.mem_map.2 ⟨x,by simp [hx],rfl⟩)
        have hlt3:x.i < listed.size:=by omega
        simp only [Array.getD,hlt3,dite_true] at hf this
        rw [hf] at this; cases this
      · exact hsw
     have hfront:=wpMix_front (C:=C) (Q:=Q) (P:=P) (ops:=ops) l1 M a (fun u hu cs b=>hns u.i u.o cs b (ho u hu)) (hpw'.imp fun h=>h.2) hsw hM ⟨w,hw⟩ h
     have hlen:(l1++l2).length=n:=by simp at hn ⊢; omega
     have hsub:(l1++l2).Sublist (l1++t::l2):=(List.Sublist.refl l1).append (List.sublist_cons_self t l2)
     have hnd':((l1++l2).map (·.i)).Nodup:=hnd.sublist (hsub.map _)
     have htn:t.i ∉ (l1++l2).map (·.i):=by
      have:=hnd
      rw [List.map_append,List.map_cons,List.nodup_append,List.nodup_cons] at this
      rw [List.map_append,List.mem_append]
      rintro (h1 | h1)
      · exact this.2.2 _ h1 t.i (by simp) rfl
      · exact this.2.1.1 h1
     have hc':Closed ops (listed.setIfInBounds t.i true):=fun j o ho' hj' e he hb=>by
      by_cases hji:t.i=j
      · subst hji
        rw [hoj] at ho'; cases ho'
        exact getD_set_true (hall e he hb)
      · rw [getD_set_ne true hji] at hj'
        exact getD_set_true (hc j o ho' hj' e he hb)
     have hl':∀ j,j < ops.size→((listed.setIfInBounds t.i true).getD j true=false↔j ∈ (l1++l2).map (·.i)):=fun j hjs=>by
      by_cases hji:t.i=j
      · subst hji
        have:(listed.setIfInBounds t.i true).getD t.i true=true:=by
         simp [Array.getD,hsz,hjs]
        rw [this]
        exact ⟨fun h=>(by cases h),fun h=>absurd h htn⟩
      · rw [getD_set_ne true hji,hl j hjs]
        simp only [List.map_append,List.map_cons,List.mem_append,List.mem_cons]
        exact ⟨fun h=>by rcases h with h | h | h <;> first | exact .inl h | exact absurd h.symm hji | exact .inr h,fun h=>by rcases h with h | h; exact .inl h; exact .inr (.inr h)⟩
     have next:∀ (M':World→Prop) (a':Act) (w':World),(hasS (l1++l2)=true→∀ w,M' w→C w)→M' w'→wpMix P ops C Q (l1++l2) M' a'→wpAnyIn (fenceR rd) 0 P .any ops Q' n (listed.setIfInBounds t.i true) a' w':=
      fun M' a' w' hM' hw' h'=>ih (l1++l2) hlen _ M' a' w' (by simpa using hsz) hc' (fun u hu=>ho u (hsub.mem hu)) hnd' hl' (hlt.sublist (hsub.map _)) (hpw'.sublist hsub) hM' hw' h'
     have hMsub:hasS (l1++l2)=true→∀ w,M w→C w:=fun h=>hM ((hasS_iff _).2 (let ⟨u,hu,hk⟩:=(hasS_iff _).1 h; ⟨u,hsub.mem hu,hk⟩))
     unfold wpOpIn
     rw [hoj]
     simp only []
     rcases hfront with ⟨v,hv,hr⟩ | ⟨hat,hr⟩
     · rcases hv with ⟨hwant,hne,hrun⟩ | ⟨hwant,rfl⟩
       · rw [if_pos hwant]
         refine wpIn_of_yields (yields_of_run (R:=fun u w'=>u=v∧w'=w) (hrun w (fun hks=>hM ((hasS_iff _).2 ⟨t,by simp,hks⟩) w hw)) ⟨rfl,rfl⟩) ?_
         rintro u w' ⟨rfl,rfl⟩
         exact next M _ w' hMsub hw hr
       · rw [if_neg (by simp [hwant])]
         exact ⟨fun _ _=>trivial,next M _ w hMsub hw hr⟩
     · rw [if_pos hat.1]
       refine wpIn_of_yields (hr w hw) ?_
       rintro v w' ⟨M',hM',hk,h'⟩
       refine next M' _ w' (fun hs=>?_) hM' h'
       cases hnc:t.nc with
       | true=>exact hk hnc
       | false=>
         exfalso
         obtain ⟨u,hu,hus⟩:=(hasS_iff _).1 hs
         rcases List.mem_append.1 hu with hu | hu
         · have:=(hsw u hu).nc hus hat.2
           rw [hnc] at this; cases this
         · have hp2:=hpw.2.1
           rw [List.pairwise_cons] at hp2
           exact (hp2.1 u hu).2 hat.2 hnc hus
theorem tag_mem {ms:List Nat} {sm:Nat}:∀ (l:List Oper) (n:Nat) (t:Tg),t ∈ tag ms sm l n→n≤t.i∧l[t.i - n]? = some t.o
 | [],_,_,h=>by cases h
 | o::l,n,t,h=>by
   rw [tag,List.mem_cons] at h
   rcases h with rfl | h
   · exact ⟨Nat.le_refl _,by simp⟩
   · obtain ⟨h1,h2⟩:=tag_mem l (n+1) t h
     refine ⟨by omega,?_⟩
     have:t.i - n=(t.i - (n+1))+1:=by omega
     rw [this]; simpa using h2
theorem tag_idx {ms:List Nat} {sm:Nat}:∀ (l:List Oper) (n:Nat),(tag ms sm l n).map (·.i)=List.range' n l.length
 | [],_=>rfl
 | o::l,n=>by rw [tag,List.map_cons,tag_idx l (n+1)]; rfl
theorem tag_length {ms:List Nat} {sm:Nat} (l:List Oper) (n:Nat):(tag ms sm l n).length=l.length:=by
 have:=congrArg List.length (tag_idx (ms:=ms) (sm:=sm) l n); simpa using this
theorem testBit_lt {m n x:Nat} (h:m < 2 ^ n) (hb:m.testBit x=true):x < n:=by
 rcases Nat.lt_or_ge x n with h' | h'
 · exact h'
 · have:m < 2 ^ x:=Nat.lt_of_lt_of_le h (Nat.pow_le_pow_right (by omega) h')
   rw [Nat.testBit_lt_two_pow this] at hb; cases hb
theorem soundB_spec {ms:List Nat}:∀ (l:List Oper) (n:Nat),soundB ms l n=true→∀ i o,l[i]? = some o→
 (∀ e ∈ o.after,Region.binds .any e=true→e.on < n+i)∧∀ x,anc ms (n+i) x=true→∃ e ∈ o.after,Region.binds .any e=true∧(e.on=x∨anc ms e.on x=true)
 | [],_,_,_,_,h=>by simp at h
 | o'::l,n,hB,i,o,h=>by
   simp only [soundB,Bool.and_eq_true] at hB
   obtain ⟨⟨⟨h1,h0⟩,h2⟩,h3⟩:=hB
   cases i with
   | zero=>
     simp only [List.getElem?_cons_zero,Option.some.injEq] at h
     subst h
     refine ⟨fun e he hb=>?_,fun x ha=>?_⟩
     · have:=List.all_eq_true.1 h1 e (by simpa using he)
       simp only [hb,Bool.not_true,Bool.false_or] at this
       exact Nat.le_of_ble_eq_true this
     · simp only [Nat.add_zero] at ha
       have hx:x < n:=testBit_lt (Nat.le_of_ble_eq_true h0) ha
       have:=List.all_eq_true.1 h2 x (List.mem_range.2 hx)
       simp only [ha,Bool.not_true,Bool.false_or,List.any_eq_true,Bool.and_eq_true,Bool.or_eq_true,beq_iff_eq] at this
       obtain ⟨e,he,hb,hor⟩:=this
       exact ⟨e,by simpa using he,hb,hor⟩
   | succ i=>
     have:=soundB_spec l (n+1) h3 i o (by simpa using h)
     have e:n+1+i=n+(i+1):=by omega
     rw [e] at this
     exact this
theorem pwB_spec {f:Tg→Tg→Bool}:∀ (l:List Tg),pwB f l=true→l.Pairwise (fun x y=>f x y=true)
 | [],_=>List.Pairwise.nil
 | t::l,h=>by
   simp only [pwB,Bool.and_eq_true] at h
   exact List.pairwise_cons.2 ⟨fun y hy=>List.all_eq_true.1 h.1 y hy,pwB_spec l h.2⟩
theorem isE_iff (k:Kd):k.isE=true↔k=.e:=by cases k <;> simp [Kd.isE]
theorem isS_iff (k:Kd):k.isS=true↔k=.s:=by cases k <;> simp [Kd.isS]
theorem pairB_spec {ms:List Nat} {x y:Tg} (h:pairB ops ms x y=true):(anc ms y.i x.i=true∨Sw ops x y)∧Late x y:=by
 simp only [pairB,Bool.and_eq_true,Bool.or_eq_true,Bool.not_eq_true',Bool.and_eq_false_iff] at h
 obtain ⟨h1,h2⟩:=h
 refine ⟨?_,fun hx hn hy=>?_⟩
 · rcases h1 with h1 | ⟨⟨h1,h3⟩,h4⟩
   · exact .inl h1
   · refine .inr ⟨h1,fun ⟨hx,hy⟩=>?_,fun hx hy=>?_⟩
     · rcases h3 with h3 | h3
       · rw [(isE_iff _).2 hx] at h3; cases h3
       · rw [(isE_iff _).2 hy] at h3; cases h3
     · rcases h4 with (h4 | h4) | h4
       · rw [(isS_iff _).2 hx] at h4; cases h4
       · rw [(isE_iff _).2 hy] at h4; cases h4
       · exact h4
 · rcases h2 with (h2 | h2) | h2
   · rw [(isE_iff _).2 hx] at h2; cases h2
   · simp [hn] at h2
   · rw [(isS_iff _).2 hy] at h2; cases h2
end
theorem wp_region_mix {rd:Option Nat} {P:Program} {C:World→Prop} {Q':Post} {l:List Oper} {id:Nat} {a:Act} {w:World} {M:World→Prop} (hm:P.follows .mixedOrders=true) (hB:mixB l=true)
 (hC:∀ w,M w→C w) (hw:M { w with drawn:=w.drawn+1 })
 (h:wpMix P l.toArray C (fun a w=>Q' .normal a w) (tags l) M a):(Code.region id l.toArray true).wpIn (fenceR rd) 0 P Q' a w:=by
 simp only [mixB,Bool.and_eq_true] at hB
 obtain ⟨⟨h1,h2⟩,h4⟩:=hB
 have hs:=soundB_spec l 0 h2
 simp only [Nat.zero_add] at hs
 have hmem:∀ t ∈ tags l,l.toArray[t.i]? = some t.o:=fun t ht=>by
  have:=(tag_mem l 0 t ht).2
  simpa using this
 have hidx:(tags l).map (·.i)=List.range' 0 l.length:=tag_idx l 0
 refine wpIn_region_any hm ?_
 have key:=wpAny_of_mix (rd:=rd) (P:=P) (ops:=l.toArray) (C:=C) (Q:=fun a w=>Q' .normal a w) (ms:=masks l []) (Q':=Q') (fun _ _ h=>h) (fun j o cs b ho=>Region.noSelect_spec h1 j o cs b ho)
  (fun i o ho=>⟨(hs i o (by simpa using ho)).1,fun x hx=>(hs i o (by simpa using ho)).2 x hx⟩)
  (tags l) (Array.replicate l.toArray.size false) M a { w with drawn:=w.drawn+1 } (by simp)
  (fun j o ho hj=>by
   have:=(Array.getElem?_eq_some_iff.1 ho).1
   simp only [List.size_toArray] at this
   simp [Array.getD,this] at hj)
  hmem (by rw [hidx]; exact List.nodup_range' ..) (fun j hj=>by
   simp only [List.size_toArray] at hj
   rw [hidx]
   simp [Array.getD,hj,List.mem_range'_1]) (by rw [hidx]; exact List.pairwise_lt_range') ((pwB_spec _ h4).imp fun h=>pairB_spec h) (fun _=>hC) hw h
 have hlen:(tags l).length=l.toArray.size:=by simp [tags,tag_length]
 rw [hlen] at key
 exact key
def CC (x:Cx) (H:HL) (w:World):Prop:=In x.F H w∧Same x.w0 w
structure WD (x:Cx) (Hc:HL) (K:Post) (ops:Array Oper) (l:List Tg) (env:Env) (H:HL):Prop where
 run:∀ a,Ev x env a→wpMix x.P ops (CC x Hc) (fun a w=>K .normal a w) l (CC x H) a
section
variable {x:Cx} {K:Post} {env:Env} {H Hc:HL} {ops:Array Oper} {rest:List Tg}
theorem W.draw {id:Nat} {l:List Oper} (Hc:HL) (hm:x.P.follows .mixedOrders=true) (hB:mixB l=true) (hc:∀ w,In x.F H w→In x.F Hc w) (h:WD x Hc K l.toArray (tags l) env H):W x K (.region id l.toArray true) env H:=
 ⟨fun a _w s=>wp_region_mix hm hB (fun w h=>⟨hc w h.1,h.2⟩) (M:=CC x H) ⟨⟨s.hin.nd,s.hin.own,s.hin.fr,s.hin.dj⟩,⟨s.same.os,s.same.tape,s.same.output,s.same.size,s.same.drawn.up⟩⟩ (h.run a s.ev)⟩
theorem WD.nil (h:Fin x K .normal env H):WD x Hc K ops [] env H:=⟨fun a he w hw=>h.run a w ⟨he,hw.1,hw.2⟩⟩
theorem WD.p {d i:Nat} {nc:Bool} {op:Op} {ty:TypeId} {pos:String} {aft:Array Edge} {v:Value} (hn:Nat.blt d x.n=true) (h:Pu x env ⟨some d,op,ty,pos,aft,none⟩ v) (next:WD x Hc K ops rest ((d,v)::env) H) :
 WD x Hc K ops (⟨.p,i,⟨some d,op,ty,pos,aft,none⟩,nc⟩::rest) env H:=⟨fun a he=>
 .inl ⟨v,.inl ⟨by simp [Region.wanted],(fun h=>by cases h),fun w _=>h.run a he w⟩,next.run _ (he.put (Nat.le_of_ble_eq_true hn) v)⟩⟩
theorem WD.s {d i:Nat} {nc:Bool} {op:Op} {ty:TypeId} {pos:String} {aft:Array Edge} {v:Value} (hn:Nat.blt d x.n=true) (h:Rd x env Hc ⟨some d,op,ty,pos,aft,none⟩ v) (next:WD x Hc K ops rest ((d,v)::env) H) :
 WD x Hc K ops (⟨.s,i,⟨some d,op,ty,pos,aft,none⟩,nc⟩::rest) env H:=⟨fun a he=>
 .inl ⟨v,.inl ⟨by simp [Region.wanted],(fun h=>by cases h),fun w hw=>h.run a w he (hw rfl).1⟩,next.run _ (he.put (Nat.le_of_ble_eq_true hn) v)⟩⟩
theorem WD.e {d i:Nat} {nc:Bool} {op:Op} {ty:TypeId} {pos:String} {aft:Array Edge} {R:Value→HL→Prop} (hn:Nat.blt d x.n=true) (h:Ef x env H ⟨some d,op,ty,pos,aft,none⟩ R)
 (next:∀ v H',R v H'→(nc=false∨∀ w,In x.F H' w→In x.F Hc w)∧WD x Hc K ops rest ((d,v)::env) H') :
 WD x Hc K ops (⟨.e,i,⟨some d,op,ty,pos,aft,none⟩,nc⟩::rest) env H:=⟨fun a he=>
 .inr ⟨⟨by simp [Region.wanted],rfl⟩,fun w hw=>Yr.mono (fun v w'=>by
  rintro ⟨H',hR,hi,hs⟩
  obtain ⟨hk,hn'⟩:=next v H' hR
  exact ⟨CC x H',⟨hi,hw.2.trans hs⟩,fun hnc w hw=>⟨hk.resolve_left (by simp [show nc=true from hnc]) w hw.1,hw.2⟩,hn'.run _ (he.put (Nat.le_of_ble_eq_true hn) v)⟩) (h.run a w he hw.1)⟩⟩
theorem WD.e0 {i:Nat} {nc:Bool} {op:Op} {ty:TypeId} {pos:String} {aft:Array Edge} {R:Value→HL→Prop} (h:Ef x env H ⟨none,op,ty,pos,aft,none⟩ R)
 (next:∀ v H',R v H'→(nc=false∨∀ w,In x.F H' w→In x.F Hc w)∧WD x Hc K ops rest env H') :
 WD x Hc K ops (⟨.e,i,⟨none,op,ty,pos,aft,none⟩,nc⟩::rest) env H:=⟨fun a he=>
 .inr ⟨⟨by simp [Region.wanted],rfl⟩,fun w hw=>Yr.mono (fun v w'=>by
  rintro ⟨H',hR,hi,hs⟩
  obtain ⟨hk,hn'⟩:=next v H' hR
  exact ⟨CC x H',⟨hi,hw.2.trans hs⟩,fun hnc w hw=>⟨hk.resolve_left (by simp [show nc=true from hnc]) w hw.1,hw.2⟩,hn'.run _ he⟩) (h.run a w he hw.1)⟩⟩
theorem WD.g_yes {dst:Option Nat} {i:Nat} {nc:Bool} {k:Kd} {op:Op} {ty:TypeId} {pos:String} {aft:Array Edge} {j t:Nat} {b:Bool} (hj:gslot ops j=some t) (hv:look env t=some (.bool b))
 (next:WD x Hc K ops (⟨k,i,⟨dst,op,ty,pos,aft,none⟩,nc⟩::rest) env H):WD x Hc K ops (⟨k,i,⟨dst,op,ty,pos,aft,some (j,b)⟩,nc⟩::rest) env H:=⟨fun a he=>by
 have hw:Region.wanted ⟨dst,op,ty,pos,aft,some (j,b)⟩ (yielded ops a.tmps)=true:=by simp [Region.wanted,yielded_of he hj hv]
 rcases next.run a he with ⟨v,hq,h⟩ | ⟨ha,h⟩
 · refine .inl ⟨v,?_,h⟩
   rcases hq with ⟨_,h2,h3⟩ | ⟨h1,_⟩
   · exact .inl ⟨hw,h2,h3⟩
   · simp [Region.wanted] at h1
 · exact .inr ⟨⟨hw,ha.2⟩,h⟩⟩
theorem WD.g_no {d i:Nat} {nc:Bool} {k:Kd} {op:Op} {ty:TypeId} {pos:String} {aft:Array Edge} {j t:Nat} {b c:Bool} (hn:Nat.blt d x.n=true) (hj:gslot ops j=some t) (hv:look env t=some (.bool c)) (hc:c=!b)
 (next:WD x Hc K ops rest ((d,undef)::env) H):WD x Hc K ops (⟨k,i,⟨some d,op,ty,pos,aft,some (j,b)⟩,nc⟩::rest) env H:=⟨fun a he=>by
 have hw:Region.wanted ⟨some d,op,ty,pos,aft,some (j,b)⟩ (yielded ops a.tmps)=false:=by
  simp only [Region.wanted,yielded_of he hj hv,hc]; cases b <;> rfl
 exact .inl ⟨undef,.inr ⟨hw,rfl⟩,next.run _ (he.put (Nat.le_of_ble_eq_true hn) undef)⟩⟩
theorem WD.g_undef {d i:Nat} {nc:Bool} {k:Kd} {op:Op} {ty:TypeId} {pos:String} {aft:Array Edge} {j t:Nat} {b:Bool} (hn:Nat.blt d x.n=true) (hj:gslot ops j=some t) (hv:look env t=some undef)
 (next:WD x Hc K ops rest ((d,undef)::env) H):WD x Hc K ops (⟨k,i,⟨some d,op,ty,pos,aft,some (j,b)⟩,nc⟩::rest) env H:=⟨fun a he=>by
 have hw:Region.wanted ⟨some d,op,ty,pos,aft,some (j,b)⟩ (yielded ops a.tmps)=false:=by
  simp only [Region.wanted,yielded_of he hj hv]; rfl
 exact .inl ⟨undef,.inr ⟨hw,rfl⟩,next.run _ (he.put (Nat.le_of_ble_eq_true hn) undef)⟩⟩
theorem WD.g_split {dst:Option Nat} {i:Nat} {nc:Bool} {k:Kd} {op:Op} {ty:TypeId} {pos:String} {aft:Array Edge} {j t:Nat} {b c:Bool} (hj:gslot ops j=some t) (hv:look env t=some (.bool c))
 (h1:c=true→WD x Hc K ops (⟨k,i,⟨dst,op,ty,pos,aft,some (j,b)⟩,nc⟩::rest) ((t,.bool true)::env) H) (h2:c=false→WD x Hc K ops (⟨k,i,⟨dst,op,ty,pos,aft,some (j,b)⟩,nc⟩::rest) ((t,.bool false)::env) H) :
 WD x Hc K ops (⟨k,i,⟨dst,op,ty,pos,aft,some (j,b)⟩,nc⟩::rest) env H:=⟨fun a he=>by
 have _:=hj
 have key:∀ q,c=q→Ev x ((t,.bool q)::env) a:=fun q hq=>⟨he.size,he.defers,fun u v hu=>by
  rw [look_cons] at hu
  by_cases hk:t=u
  · subst hk; simp at hu; subst hu; rw [←hq]; exact he.env t _ hv
  · simp only [if_neg hk] at hu; exact he.env u v hu⟩
 cases hc:c with
 | true=>exact (h1 hc).run a (key true hc)
 | false=>exact (h2 hc).run a (key false hc)⟩
end
end Go.Sl
namespace Go.Sl
open Go
def isKey (n:Int) (e:MapEntry):Bool:=match e.key with | .int _ m=>n == m | _=>false
def keysOk (k:IntKind) (es:List MapEntry):Prop:=∀ e ∈ es,∃ n,e.key=.int k n
def mfind (es:List MapEntry) (n:Int):Option Value:=(es.find? (isKey n)).map (·.val)
inductive MapAt (b:Nat) (es:List MapEntry) (clk:Nat):HL→(Obj→HL)→Prop
 | here {H:HL}:MapAt b es clk ((b,.map es.toArray clk)::H) (fun o=>(b,o)::H)
 | there {p:Nat × Obj} {H:HL} {k:Obj→HL}:MapAt b es clk H k→MapAt b es clk (p::H) (fun o=>p::k o)
 | left {H1 H2:HL} {k:Obj→HL}:MapAt b es clk H1 k→MapAt b es clk (H1++H2) (fun o=>k o++H2)
 | right {H1 H2:HL} {k:Obj→HL}:MapAt b es clk H2 k→MapAt b es clk (H1++H2) (fun o=>H1++k o)
theorem MapAt.foc {b:Nat} {es:List MapEntry} {clk:Nat} {H:HL} {k:Obj→HL} (h:MapAt b es clk H k):Foc b (.map es.toArray clk) H k:=by
 induction h with
 | here=>exact Foc.here _
 | there _ ih=>exact Foc.there _ ih
 | left _ ih=>exact Foc.left ih
 | right _ ih=>exact Foc.right ih
class ZeroV (P:Program) (T:TypeId) (v:outParam Value):Prop where h:(P.info? T).bind (·.zero)=some v
theorem findNow_int {k:IntKind} {n:Int}:∀ (es:List MapEntry) (i:Nat),keysOk k es→Instr.findNow (.int k) (.int k n) es i=some ((es.findIdx? (isKey n)).map (fun j=>(i+j,((es[j]?).map (·.val)).getD undef)))
 | [],_,_=>rfl
 | e::es,i,h=>by
   obtain ⟨m,hm⟩:=h e (by simp)
   have ih:=findNow_int (n:=n) es (i+1) (fun e' he'=>h e' (by simp [he']))
   unfold Instr.findNow
   rw [hm]
   by_cases hnm:n=m
   · subst hnm
     simp [Instr.sameNow,List.findIdx?_cons,isKey,hm]
   · have hb:(n == m)=false:=by simpa using hnm
     simp only [Instr.sameNow,if_true,hb,ih,List.findIdx?_cons,isKey,hm]
     cases hf:es.findIdx? (isKey n) with
     | none=>simp
     | some j=>simp; omega
theorem findIdx_find {α:Type} (p:α→Bool):∀ (l:List α),(l.findIdx? p).bind (fun j=>l[j]?)=l.find? p
 | []=>rfl
 | a::l=>by
   rw [List.findIdx?_cons,List.find?_cons]
   cases h:p a with
   | true=>simp
   | false=>simp only; rw [←findIdx_find p l]; cases l.findIdx? p <;> simp
theorem run_findKey_int {P:Program} {K:TypeId} {k:IntKind} (hu:P.underlying K=some (.int k)) {n:Int} {es:List MapEntry} (h:keysOk k es) (w:World) :
 (Instr.findKey K (.int k n) es).run P w=.ok ((es.findIdx? (isKey n)).map (fun j=>(j,((es[j]?).map (·.val)).getD undef))) w:=by
 unfold Instr.findKey
 rw [Sem.run_bind,run_underlying hu]
 simp only [Result.andThen_ok]
 rw [findNow_int es 0 h]
 simp
theorem run_checkKey_int {P:Program} {K:TypeId} {k:IntKind} (hu:P.underlying K=some (.int k)) (e:Bool) (n:Int) (w:World):(Instr.checkKey e 10000 K (.int k n)).run P w=.ok () w:=by
 show (Instr.checkKey e (9999+1) K (.int k n)).run P w=_
 rw [Instr.checkKey,Sem.run_bind,run_underlying hu]
 rfl
section
variable {x:Cx} {env:Env} {H:HL} {dst:Option Tmp} {ty:TypeId} {pos:String} {aft:Array Edge} {gd:Option (Nat × Bool)}
theorem run_lookup_int {P:Program} {T K E:TypeId} {k:IntKind} (ht:P.underlying T=some (.map K E)) (hu:P.underlying K=some (.int k)) {z:Value} (hz:(P.info? E).bind (·.zero)=some z) {w:World} {b clk:Nat} {es:List MapEntry} (hb:w.heap[b]? = some (.map es.toArray clk)) (h:keysOk k es) (n:Int) (ok:Bool) :
 (Instr.lookup T (.map (some b)) (.int k n) ok).run P w=.ok (if ok then .tuple #[(mfind es n).getD z,.bool (mfind es n).isSome] else (mfind es n).getD z) w:=by
 unfold Instr.lookup
 have hg:(getObj b).run P w=.ok (.map es.toArray clk) w:=by simp [getObj,Sem.run,hb]
 have hzv:(zeroValue E).run P w=.ok z w:=by
  cases hi:P.info? E with
  | none=>simp [hi] at hz
  | some i=>simp [hi] at hz; simp [zeroValue,typeInfo,hi,hz]
 have hmf:mfind es n=((es.findIdx? (isKey n)).bind (fun j=>es[j]?)).map (·.val):=by rw [findIdx_find]; rfl
 simp only [Sem.run_bind,run_underlying ht,Result.andThen_ok,hg,run_checkKey_int hu,run_findKey_int hu h,Sem.run_pure]
 cases hf:es.findIdx? (isKey n) with
 | none=>simp [hmf,hf,hzv]
 | some j=>
   have hj:j < es.length:=by
    rw [List.findIdx?_eq_some_iff_getElem] at hf; exact hf.1
   simp [hmf,hf,List.getElem?_eq_getElem hj]
theorem Rd.lk2 {T K E:TypeId} {k:IntKind} {z:Value} {p q:Operand} {b clk:Nat} {es:List MapEntry} {n:Int} {kk:Obj→HL} [mt:MapT x.P T K E] [it:IntT x.P K k] [zv:ZeroV x.P E z] (hp:ev env p=some (.map (some b))) (hq:ev env q=some (.int k n)) (hm:MapAt b es clk H kk) (h:keysOk k es) :
 Rd x env H ⟨dst,.lookup T p q true,ty,pos,aft,gd⟩ (.tuple #[(mfind es n).getD z,.bool (mfind es n).isSome]):=⟨fun a w he hi=>by
 simp [execOp,he.eval hp,he.eval hq,run_lookup_int mt.h it.h zv.h (hm.foc.heap hi) h]⟩
theorem Rd.lk2_some {T K E:TypeId} {k:IntKind} {z:Value} {p q:Operand} {b clk:Nat} {es:List MapEntry} {n:Int} {kk:Obj→HL} {v:Value} [mt:MapT x.P T K E] [it:IntT x.P K k] [zv:ZeroV x.P E z] (hp:ev env p=some (.map (some b))) (hq:ev env q=some (.int k n)) (hm:MapAt b es clk H kk) (h:keysOk k es) (hv:mfind es n=some v) :
 Rd x env H ⟨dst,.lookup T p q true,ty,pos,aft,gd⟩ (.tuple [v,.bool true].toArray):=by
 have:=Rd.lk2 (x:=x) (env:=env) (dst:=dst) (ty:=ty) (pos:=pos) (aft:=aft) (gd:=gd) (T:=T) (p:=p) (q:=q) hp hq hm h
 simpa [hv] using this
theorem Rd.lk2_none {T K E:TypeId} {k:IntKind} {z:Value} {p q:Operand} {b clk:Nat} {es:List MapEntry} {n:Int} {kk:Obj→HL} [mt:MapT x.P T K E] [it:IntT x.P K k] [zv:ZeroV x.P E z] (hp:ev env p=some (.map (some b))) (hq:ev env q=some (.int k n)) (hm:MapAt b es clk H kk) (h:keysOk k es) (hv:mfind es n=none) :
 Rd x env H ⟨dst,.lookup T p q true,ty,pos,aft,gd⟩ (.tuple [z,.bool false].toArray):=by
 have:=Rd.lk2 (x:=x) (env:=env) (dst:=dst) (ty:=ty) (pos:=pos) (aft:=aft) (gd:=gd) (T:=T) (p:=p) (q:=q) hp hq hm h
 simpa [hv] using this
theorem Upd.setObj {w:World} {b:Nat} {o o':Obj} (h:w.heap[b]? = some o):Upd w { w with heap:=w.heap.setIfInBounds b o' } b o':=by
 have hlt:=(Array.getElem?_eq_some_iff.1 h).1
 refine ⟨⟨rfl,rfl,rfl,by simp,.of (Nat.le_refl _)⟩,by simp [hlt],fun k hk=>?_⟩
 simp [Array.getElem?_setIfInBounds_ne (Ne.symm hk)]
theorem run_setObj_map {P:Program} {w:World} {b clk:Nat} {es:Array MapEntry} (h:w.heap[b]? = some (.map es clk)) (o:Obj):(setObj b o).run P w=.ok () { w with heap:=w.heap.setIfInBounds b o }:=by
 simp [setObj,Sem.run,h]
theorem Ef.mu_new {T K E:TypeId} {k:IntKind} {p q r:Operand} {b clk:Nat} {es:List MapEntry} {n:Int} {v:Value} {kk:Obj→HL} [mt:MapT x.P T K E] [it:IntT x.P K k] (hp:ev env p=some (.map (some b))) (hq:ev env q=some (.int k n)) (hr:ev env r=some v) (hm:MapAt b es clk H kk) (h:keysOk k es) (hn:mfind es n=none) :
 Ef x env H ⟨dst,.mapUpdate T p q r,ty,pos,aft,gd⟩ (fun u H'=>u=undef∧H'=kk (.map (es++[MapEntry.mk (.int k n) v clk]).toArray (clk+1))):=⟨fun a w he hi=>by
 have hb:=hm.foc.heap hi
 have hf:es.findIdx? (isKey n)=none:=by
  unfold mfind at hn
  rw [←findIdx_find] at hn
  cases hf:es.findIdx? (isKey n) with
  | none=>rfl
  | some j=>
    have hj:j < es.length:=by rw [List.findIdx?_eq_some_iff_getElem] at hf; exact hf.1
    simp [hf,List.getElem?_eq_getElem hj] at hn
 have hg:(getObj b).run x.P w=.ok (.map es.toArray clk) w:=by simp [getObj,Sem.run,hb]
 refine yields_of_skip (w':={ w with heap:=w.heap.setIfInBounds b (.map (es++[MapEntry.mk (.int k n) v clk]).toArray (clk+1)) }) ?_ ⟨_,⟨rfl,rfl⟩,hi.upd hm.foc (Upd.setObj hb),(Upd.setObj hb).same⟩
 simp only [execOp,he.eval hp,he.eval hq,he.eval hr,Instr.mapUpdate,Sem.run_bind,run_underlying mt.h,Result.andThen_ok,hg,run_checkKey_int it.h,run_findKey_int it.h h,hf,Option.map_none,run_setObj_map hb,Sem.run_pure,List.push_toArray]⟩
theorem Ef.mkMap {T:TypeId}:Ef x env H ⟨dst,.makeMap T none,ty,pos,aft,gd⟩ (fun v H'=>∃ b,v=.map (some b)∧H'=(b,.map ([]:List MapEntry).toArray 0)::H):=⟨fun a w he hi=>by
 refine yields_of_run (v:=.map (some w.heap.size)) (w':=w.alloc (.map #[] 0)) (by simp [execOp,Instr.makeMap]) ⟨_,⟨_,rfl,rfl⟩,hi.alloc _,Same.alloc w _⟩⟩
theorem Ef.rng {T K E:TypeId} {p:Operand} {b clk:Nat} {es:List MapEntry} {kk:Obj→HL} [mt:MapT x.P T K E] (hp:ev env p=some (.map (some b))) (hm:MapAt b es clk H kk) :
 Ef x env H ⟨dst,.range T p,ty,pos,aft,gd⟩ (fun v H'=>∃ it,v=.pointer (some ⟨it,0,none⟩)∧H'=(it,.mapIter (some b) clk ([]:List Nat).toArray clk)::H):=⟨fun a w he hi=>by
 have hb:=hm.foc.heap hi
 have hg:(getObj b).run x.P w=.ok (.map es.toArray clk) w:=by simp [getObj,Sem.run,hb]
 refine yields_of_run (v:=.pointer (some ⟨w.heap.size,0,none⟩)) (w':=w.alloc (.mapIter (some b) clk #[] clk)) (by simp [execOp,he.eval hp,Instr.range,run_underlying mt.h,hg]) ⟨_,⟨_,rfl,rfl⟩,hi.alloc _,Same.alloc w _⟩⟩
end
end Go.Sl
namespace Go.Sl
open Go
def OwnS (E sz:Nat) (xs:List Value) (v:Value) (hb:HL):Prop:=
 (v=.slice none 0 0∧xs=[]∧hb=[])∨
 ∃ g n cap pre spare post,v=.slice (some ⟨g,List.length pre,none⟩) n cap∧hb=[(g,.cells (pre++xs++spare++post).toArray E (0,0))]∧xs.length=n * sz∧n≤cap∧spare.length=(cap - n) * sz∧cap≤maxLen
def Src (F:Nat→Option Obj) (H:HL) (v:Value) (m:Nat) (news:List Value):Prop:=
 (∃ c,v=.slice none 0 c∧m=0∧news=[])∨∃ a c,v=.slice (some a) m c∧∀ w,In F H w→∀ j u,news[j]? = some u→w.cell? (a.add j)=some u
theorem add_lit (g o j:Nat):(⟨g,o,none⟩:Addr).add j=⟨g,o+j,none⟩:=by unfold Addr.add; split <;> simp_all
def OffZ (v:Value):Prop:=∀ a n c,v=.slice (some a) n c→a=⟨a.block,0,none⟩
theorem OffZ.new (b n c:Nat):OffZ (.slice (some ⟨b,0,none⟩) n c):=fun _ _ _ e=>by cases e; rfl
theorem OffZ.none (n c:Nat):OffZ (.slice none n c):=fun _ _ _ e=>by cases e
theorem OffZ.same {a:Addr} {n c n' c':Nat} (h:OffZ (.slice (some a) n c)):OffZ (.slice (some a) n' c'):=fun _ _ _ e=>by cases e; exact h _ _ _ rfl
theorem run_append_ownZ {P:Program} {T ty E sz by_:Nat} {i:TypeInfo} {zv:Value} (ht:P.underlying T=some (.slice E)) (hi:P.info? E=some i) (hs:i.size=sz) (hby:i.bytes=by_) (hz:i.zero=some zv) (hzs:zv.cells.size=sz) (hsz:0 < sz)
 {xs:List Value} {v:Value} {hb:HL} (hown:OwnS E sz xs v hb) {w:World} (hblk:∀ p ∈ hb,w.heap[p.1]? = some p.2) {src:Value} {m:Nat} {news:List Value}
 (hsrc:(∃ c,src=.slice none 0 c∧m=0∧news=[])∨∃ a c,src=.slice (some a) m c∧∀ j u,news[j]? = some u→w.cell? (a.add j)=some u) (hl:news.length=m * sz) (h1:∀ u ∈ news,u.oneCell'=true)
 (hb1:(xs.length+news.length) * by_≤140737488355328) (hb2:xs.length+news.length≤maxLen) :
 ∃ v' w' hb',(Builtin.append_ #[T,T] ty #[v,src]).run P w=.ok v' w'∧OwnS E sz (xs++news) v' hb'∧(OffZ v→OffZ v')∧
  ((hb'=hb∧w'=w)∨(∃ g o o',hb=[(g,o)]∧hb'=[(g,o')]∧Upd w w' g o')∨∃ o',hb'=[(w.heap.size,o')]∧w'=w.drew.alloc o'):=by
 subst hs
 have hnm:∀ n:Nat,xs.length=n * i.size→n+m≤xs.length+news.length:=fun n hn=>by
  have h1:n≤n * i.size:=Nat.le_mul_of_pos_right n hsz
  have h2:m≤m * i.size:=Nat.le_mul_of_pos_right m hsz
  omega
 have hfit:∀ n:Nat,xs.length=n * i.size→(n+m) * i.bytes≤140737488355328:=fun n hn=>by
  rw [hby]
  exact Nat.le_trans (Nat.mul_le_mul_right _ (hnm n hn)) hb1
 have hmax:maxLen=9223372036854775807:=by unfold maxLen; rfl
 have grown:∀ (n old:Nat),xs.length=n * i.size→OwnS E i.size (xs++news) (.slice (some ⟨w.heap.size,0,none⟩) (n+m) (grownCap w (n+m) old E))
  [(w.heap.size,.cells (xs.toArray++news.toArray++Builtin.zeroCells zv.cells (grownCap w (n+m) old E - (n+m))) E (0,0))]:=fun n old hn=>by
  refine .inr ⟨w.heap.size,n+m,grownCap w (n+m) old E,[],(Builtin.zeroCells zv.cells (grownCap w (n+m) old E - (n+m))).toList,[],rfl,by simp,by simp [hn,hl,Nat.add_mul],grownCap_ge _ _ _ _,?_,?_⟩
  · simp [size_zeroCells,hzs]
  · exact grownCap_le_maxLen _ _ _ _ (Nat.le_trans (hnm n hn) hb2)
 rcases hown with ⟨rfl,rfl,rfl⟩ | ⟨g,n,cap,pre,spare,post,rfl,rfl,hlen,hnc,hsp,hcap⟩
 · have hn0:([]:List Value).length=0 * i.size:=by simp
   by_cases hm:m=0
   · have hnew:news=[]:=List.eq_nil_of_length_eq_zero (by rw [hl,hm]; simp)
     refine ⟨.slice none 0 0,w,[],?_,.inl ⟨rfl,by simp [hnew],rfl⟩,fun hz=>hz,.inl ⟨rfl,rfl⟩⟩
     rcases hsrc with ⟨c,rfl,_,_⟩ | ⟨a,c,rfl,_⟩
     · simp [Builtin.append_,run_underlying ht,sizeOf,typeInfo,hi,Builtin.lenOf,Builtin.firstCells]
     · subst hm
       simp [Builtin.append_,run_underlying ht,sizeOf,typeInfo,hi,Builtin.lenOf,Builtin.firstCells,loadCells,loadCellsFrom]
   · rcases hsrc with ⟨c,rfl,h0,_⟩ | ⟨a,c,rfl,hr⟩
     · exact absurd h0 hm
     · have hf:=hfit 0 hn0
       have hle:=hnm 0 hn0
       simp only [Nat.zero_add] at hf hle
       have hrun:=run_append_nil (P:=P) w T ty E i zv ht hi hz a m c news hl hr (by omega) (by omega) (by omega)
       have hg:=grown 0 0 hn0
       simp only [Nat.zero_add,List.nil_append,Array.empty_append] at hg
       exact ⟨_,_,_,hrun,hg,fun _=>.new _ _ _,.inr (.inr ⟨_,rfl,rfl⟩)⟩
 · have hgh:w.heap[g]? = some (.cells (pre++xs++spare++post).toArray E (0,0)):=hblk (g,_) List.mem_cons_self
   have hle:=hnm n hlen
   by_cases hroom:n+m≤cap
   ·
    have hfc:(Builtin.firstCells i.size m src).run P w=.ok news.toArray w∧(Builtin.lenOf src).run P w=.ok m w:=by
     rcases hsrc with ⟨c,rfl,rfl,rfl⟩ | ⟨a,c,rfl,hr⟩
     · exact ⟨by simp [Builtin.firstCells],rfl⟩
     · exact ⟨run_firstCells_some (P:=P) w i.size m a m c news hl hr,rfl⟩
    have hml:m * i.size≤(cap - n) * i.size:=Nat.mul_le_mul_right _ (by omega)
    have hst:=run_storeCells_at P g (pre.length+n * i.size) E news 0 (pre++xs++spare++post).toArray w hgh (by simp [hlen,hsp,hl]; omega) h1
    simp only [Nat.add_zero] at hst
    have hcells:((pre++xs++spare++post).take (pre.length+n * i.size)++news++(pre++xs++spare++post).drop (pre.length+n * i.size+news.length))=pre++(xs++news)++spare.drop (m * i.size)++post:=by
     have e1:(pre++xs++spare++post).take (pre.length+n * i.size)=pre++xs:=by
      rw [List.append_assoc (pre++xs),List.take_append_of_le_length (by simp [hlen]),List.take_of_length_le (by simp [hlen])]
     have e2:(pre++xs++spare++post).drop (pre.length+n * i.size+news.length)=spare.drop (m * i.size)++post:=by
      have:pre.length+n * i.size+news.length=(pre++xs).length+m * i.size:=by simp [hlen,hl]
      rw [this,List.append_assoc (pre++xs),←List.drop_drop,List.drop_left,List.drop_append_of_le_length (by omega)]
     rw [e1,e2]; simp
    have hrun:(Builtin.append_ #[T,T] ty #[.slice (some ⟨g,pre.length,none⟩) n cap,src]).run P w=.ok (.slice (some ⟨g,pre.length,none⟩) (n+m) cap) (w.setRow g (pre++(xs++news)++spare.drop (m * i.size)++post).toArray):=by
     rw [←hcells]
     simp [Builtin.append_,run_underlying ht,sizeOf,typeInfo,hi,hfc.1,hfc.2,hroom,add_lit,hst]
    refine ⟨_,_,[(g,.cells (pre++(xs++news)++spare.drop (m * i.size)++post).toArray E (0,0))],hrun,.inr ⟨g,n+m,cap,pre,spare.drop (m * i.size),post,rfl,rfl,by simp [hlen,hl,Nat.add_mul],hroom,?_,hcap⟩,fun hz=>.same hz,.inr (.inl ⟨g,_,_,rfl,rfl,Upd.setRow hgh⟩)⟩
    rw [List.length_drop,hsp,←Nat.sub_mul]
    congr 1
    omega
   · rcases hsrc with ⟨c,rfl,h0,_⟩ | ⟨a,c,rfl,hr⟩
     · omega
     · have holds:∀ j u,xs[j]? = some u→w.cell? ((⟨g,pre.length,none⟩:Addr).add j)=some u:=fun j u hu=>by
        have hj:j < xs.length:=(List.getElem?_eq_some_iff.1 hu).1
        rw [add_lit,cell_of_row w g _ _ E _ hgh]
        simp only [List.getElem?_toArray,List.append_assoc]
        rw [List.getElem?_append_right (by omega),Nat.add_sub_cancel_left,List.getElem?_append_left hj]
        exact hu
       have hrun:=run_append_grow (P:=P) w T ty E i zv ht hi hz ⟨g,pre.length,none⟩ n cap xs hlen holds a m c news hl hr (by omega) (by omega) (growslice_fits (by omega) (hfit n hlen))
       exact ⟨_,_,_,hrun,grown n cap hlen,fun _=>.new _ _ _,.inr (.inr ⟨_,rfl,rfl⟩)⟩
theorem run_append_ownS {P:Program} {T ty E sz by_:Nat} {i:TypeInfo} {zv:Value} (ht:P.underlying T=some (.slice E)) (hi:P.info? E=some i) (hs:i.size=sz) (hby:i.bytes=by_) (hz:i.zero=some zv) (hzs:zv.cells.size=sz) (hsz:0 < sz)
 {xs:List Value} {v:Value} {hb:HL} (hown:OwnS E sz xs v hb) {w:World} (hblk:∀ p ∈ hb,w.heap[p.1]? = some p.2) {src:Value} {m:Nat} {news:List Value}
 (hsrc:(∃ c,src=.slice none 0 c∧m=0∧news=[])∨∃ a c,src=.slice (some a) m c∧∀ j u,news[j]? = some u→w.cell? (a.add j)=some u) (hl:news.length=m * sz) (h1:∀ u ∈ news,u.oneCell'=true)
 (hb1:(xs.length+news.length) * by_≤140737488355328) (hb2:xs.length+news.length≤maxLen) :
 ∃ v' w' hb',(Builtin.append_ #[T,T] ty #[v,src]).run P w=.ok v' w'∧OwnS E sz (xs++news) v' hb'∧
  ((hb'=hb∧w'=w)∨(∃ g o o',hb=[(g,o)]∧hb'=[(g,o')]∧Upd w w' g o')∨∃ o',hb'=[(w.heap.size,o')]∧w'=w.drew.alloc o'):=by
 obtain ⟨v',w',hb',h1',h2',_,h3'⟩:=run_append_ownZ (ty:=ty) ht hi hs hby hz hzs hsz hown hblk hsrc hl h1 hb1 hb2
 exact ⟨v',w',hb',h1',h2',h3'⟩
section
variable {x:Cx} {env:Env} {H:HL} {dst:Option Tmp} {ty:TypeId} {pos:String} {aft:Array Edge} {gd:Option (Nat × Bool)}
theorem In.drew {F:Nat→Option Obj} {H:HL} {w:World} (h:In F H w):In F H w.drew:=⟨h.nd,h.own,h.fr,h.dj⟩
theorem Same.drew (w:World):Same w w.drew:=⟨rfl,rfl,rfl,Nat.le_refl _,.of (Nat.le_succ _)⟩
theorem In.upd1 {F:Nat→Option Obj} {H:HL} {w w':World} {g:Nat} {o o':Obj} (hi:In F ((g,o)::H) w) (hu:Upd w w' g o'):In F ((g,o')::H) w':=hi.upd (Foc.here H) hu
theorem Ef.app {T E sz by_:Nat} {z:List Value} {p q:Operand} {xs:List Value} {v src:Value} {hb Hr:HL} {m:Nat} {news:List Value} [st:SliceT x.P T E sz by_] [zt:ZeroT x.P E z] (hzl:z.length=sz) (hsz:Nat.blt 0 sz=true)
 (hp:ev env p=some v) (hq:ev env q=some src) (hown:OwnS E sz xs v hb) (hsub:Sub hb H Hr) (hsrc:Src x.F H src m news) (hl:news.length=m * sz) (h1:∀ u ∈ news,u.oneCell'=true)
 (hb1:(xs.length+news.length) * by_≤140737488355328) (hb2:xs.length+news.length≤maxLen) :
 Ef x env H ⟨dst,.call ⟨.builtin .append,#[p,q],#[T,T]⟩,ty,pos,aft,gd⟩ (fun v' H'=>∃ hb',OwnS E sz (xs++news) v' hb'∧H'=hb'++Hr):=⟨fun a w he hi=>by
 have hperm:=hi.perm hsub.perm'
 have hst:=st.i
 have hzt:=zt.h
 cases hinf:x.P.info? E with
 | none=>simp [hinf] at hst
 | some i=>
 simp only [hinf,Option.map_some,Option.some.injEq,Prod.mk.injEq] at hst
 cases hzz:i.zero with
 | none=>simp [hinf,hzz] at hzt
 | some zv=>
 have hzc:zv.cells=z.toArray:=by simpa [hinf,hzz] using hzt
 obtain ⟨v',w',hb',hrun,hown',hcase⟩:=run_append_ownS (ty:=ty) st.h hinf hst.1 hst.2 hzz (by rw [hzc]; simpa using hzl) (Nat.le_of_ble_eq_true hsz) hown (w:=w) (fun p hp=>hperm.own p (List.mem_append_left _ hp))
  (hsrc.imp id fun ⟨a,c,h1,h2⟩=>⟨a,c,h1,h2 w hi⟩) hl h1 hb1 hb2
 refine yields_of_run (v:=v') (w':=w') (by simp only [execOp,resolve,invoke,builtin,List.map_toArray,List.map_cons,List.map_nil,he.eval hp,he.eval hq,Sem.run_bind,Sem.run_pure,Result.andThen_ok,hrun]) ⟨hb'++Hr,⟨hb',hown',rfl⟩,?_⟩
 rcases hcase with ⟨rfl,rfl⟩ | ⟨g,o,o',rfl,rfl,hu⟩ | ⟨o',rfl,rfl⟩
 · exact ⟨hperm,Same.refl _⟩
 · exact ⟨hperm.upd1 hu,hu.same⟩
 · have h2:=(hperm.right).drew.alloc o'
   exact ⟨h2,(Same.drew w).trans (Same.alloc _ _)⟩⟩
theorem Src.own {F:Nat→Option Obj} {b off m c:Nat} {news:List Value} {n:Nat} (h:CutAt b off n news H):Src F H (.slice (some ⟨b,off,none⟩) m c) m news:=.inr ⟨_,c,rfl,fun w hi j u hu=>by
 obtain ⟨l,T',fr,k,hf,hv⟩:=h.foc
 obtain ⟨hr,hle⟩:=cut_eq hv
 rw [add_lit,cell_of_row w b _ _ T' fr (hf.heap hi)]
 rw [hr,List.getElem?_take] at hu
 split at hu
 · simpa using hu
 · cases hu⟩
theorem Src.foc {F:Nat→Option Obj} {b off m c:Nat} {news l:List Value} {T':TypeId} {fr:Nat × Nat} {k:Obj→HL} (hf:Foc b (.cells l.toArray T' fr) H k) (h:∀ j u,news[j]? = some u→l[off+j]? = some u):Src F H (.slice (some ⟨b,off,none⟩) m c) m news:=.inr ⟨_,c,rfl,fun w hi j u hu=>by
 rw [add_lit,cell_of_row w b _ _ T' fr (hf.heap hi)]
 simpa using h j u hu⟩
theorem Src.fr {F:Nat→Option Obj} {b off m c:Nat} {news:List Value} {cs:Array Value} {T':TypeId} {fr:Nat × Nat} (hf:F b=some (.cells cs T' fr)) (h:∀ j u,news[j]? = some u→cs[off+j]? = some u):Src F H (.slice (some ⟨b,off,none⟩) m c) m news:=.inr ⟨_,c,rfl,fun w hi j u hu=>by
 rw [add_lit,cell_of_row w b _ _ T' fr (hi.fr b _ hf)]
 exact h j u hu⟩
theorem Src.nil {F:Nat→Option Obj} {c:Nat}:Src F H (.slice none 0 c) 0 []:=.inl ⟨c,rfl,rfl,rfl⟩
theorem Ef.bs0 {T E sz by_:Nat} [st:SliceT x.P T E sz by_]:Ef x env H ⟨dst,.buildSlice T 0 #[],ty,pos,aft,gd⟩ (fun v H'=>∃ b,v=.slice (some ⟨b,0,none⟩) 0 0∧H'=(b,.cells ([]:List Value).toArray E (0,0))::H):=⟨fun a w he hi=>by
 have hst:=st.i
 cases hinf:x.P.info? E with
 | none=>simp [hinf] at hst
 | some i=>
 refine yields_of_run (v:=.slice (some ⟨w.heap.size,0,none⟩) 0 0) (w':=w.alloc (.cells #[] E)) ?_ ⟨_,⟨_,rfl,rfl⟩,hi.alloc _,Same.alloc w _⟩
 simp [execOp,Instr.buildSlice,run_underlying st.h,sizeOf,typeInfo,hinf,Instr.fill,newRow,show Array.range 0 = #[] from rfl]⟩
theorem foldl_set (vs:List Value):∀ (k:Nat) (cells:Array Value),k+vs.length≤cells.size→(vs.zipIdx.foldl (fun cs (p:Value × Nat)=>cs.setIfInBounds (k+p.2) p.1) cells).toList=cells.toList.take k++vs++cells.toList.drop (k+vs.length):=by
 intro k cells h
 have key:∀ (vs:List Value) (j:Nat) (cells:Array Value),k+j+vs.length≤cells.size→((vs.zipIdx j).foldl (fun cs (p:Value × Nat)=>cs.setIfInBounds (k+p.2) p.1) cells).toList=cells.toList.take (k+j)++vs++cells.toList.drop (k+j+vs.length):=by
  intro vs
  induction vs with
  | nil=>intro j cells _; simp
  | cons v vs ih=>
    intro j cells h
    simp only [List.zipIdx_cons,List.foldl_cons]
    rw [ih (j+1) _ (by simp at h ⊢; omega)]
    have hlt:k+j < cells.toList.length:=by simp at h ⊢; omega
    have e:=list_seg_step cells.toList (k+j) v vs (by simp at h ⊢; omega)
    simpa [Array.toList_setIfInBounds,Nat.add_assoc] using e
 simpa using key vs 0 cells (by simpa using h)
theorem fill_one {place:Nat→Option (Nat × Nat)} {cells:List Value} {v:Value} {i off size:Nat} {r:List Value} (hp:place i=some (off,size)) (hs:v.cells.size=size) (hr:spliceK cells off v.cells.toList some=some r) (rest:List (Nat × Value)) :
 Instr.fill place cells.toArray ((i,v)::rest)=Instr.fill place r.toArray rest:=by
 obtain ⟨h1,h2⟩:=splice_eq hr
 have hf:=foldl_set v.cells.toList off cells.toArray (by simpa using h2)
 have hcell:v.cells.zipIdx.foldl (fun cs (p:Value × Nat)=>cs.setIfInBounds (off+p.2) p.1) cells.toArray=r.toArray:=by
  apply Array.ext'
  rw [h1,←Array.foldl_toList,Array.toList_zipIdx]
  simpa using hf
 rw [Instr.fill,hp]
 simp only []
 rw [if_neg (by simp at h2 ⊢; omega)]
 exact congrArg (fun c=>Instr.fill place c rest) hcell
def fillK (pl:List (Nat × Nat)):List (Nat × Value)→List Value→Option (List Value)
 | [],cells=>some cells
 | (i,v)::rest,cells=>match pl[i]? with
   | some (off,size)=>match Nat.beq v.cells.size size with
     | true=>match spliceK cells off v.cells.toList some with
       | some r=>fillK pl rest r
       | none=>none
     | false=>none
   | none=>none
theorem fill_K {place:Nat→Option (Nat × Nat)} {pl:List (Nat × Nat)} (hpl:∀ i,place i=pl[i]?):∀ (parts:List (Nat × Value)) (cells r:List Value),fillK pl parts cells=some r→Instr.fill place cells.toArray parts=some r.toArray
 | [],cells,r,h=>by simp [fillK] at h; subst h; rfl
 | (i,v)::rest,cells,r,h=>by
   rw [fillK] at h
   cases hp:pl[i]? with
   | none=>simp [hp] at h
   | some q=>
     obtain ⟨off,size⟩:=q
     simp only [hp] at h
     cases hb:Nat.beq v.cells.size size with
     | false=>simp [hb] at h
     | true=>
       simp only [hb] at h
       cases hs:spliceK cells off v.cells.toList some with
       | none=>simp [hs] at h
       | some r'=>
         simp only [hs] at h
         rw [fill_one (by rw [hpl,hp]) (Nat.eq_of_beq_eq_true hb) hs]
         exact fill_K hpl rest r' r h
class StructP (P:Program) (T:TypeId) (pl:outParam (List (Nat × Nat))):Prop where
 h:((P.underlying T).bind (fun d=>match d with | .struct fs=>(fs.mapM (fun f=>(P.info? f.type).map (fun i=>(f.offset,i.size)))) | _=>none))=some pl.toArray
theorem run_places {P:Program} {fs:Array Field} {w:World}:∀ (l:List Field) (pl:List (Nat × Nat)),l.mapM (fun f=>(P.info? f.type).map (fun i=>(f.offset,i.size)))=some pl→(l.mapM (fun f=>do pure (f.offset,←sizeOf f.type):Field→Sem (Nat × Nat))).run P w=.ok pl w
 | [],pl,h=>by simp at h; subst h; rfl
 | f::l,pl,h=>by
   rw [List.mapM_cons] at h
   cases hf:P.info? f.type with
   | none=>simp [hf] at h
   | some i=>
     simp only [hf,Option.map_some,Option.bind_eq_bind,Option.bind_some] at h
     cases hl:l.mapM (fun f=>(P.info? f.type).map (fun i=>(f.offset,i.size))) with
     | none=>simp [hl] at h
     | some pl'=>
       simp only [hl,Option.bind_some,Option.pure_def,Option.some.injEq] at h
       subst h
       rw [List.mapM_cons]
       have ih:=run_places (fs:=fs) (w:=w) l pl' hl
       simp only [Sem.run_bind,sizeOf,typeInfo,run_program,Result.andThen_ok,hf,Sem.run_pure] at ih ⊢
       rw [ih]
       rfl
def evalP (env:Env):List (Nat × Operand)→Option (List (Nat × Value))
 | []=>some []
 | (i,q)::r=>match ev env q with
   | none=>none
   | some v=>match evalP env r with
     | none=>none
     | some l=>some ((i,v)::l)
theorem parts_eval {a:Act} (he:Ev x env a):∀ (parts:List (Nat × Operand)) (vals:List (Nat × Value)),evalP env parts=some vals→parts.map (fun p=>(p.1,a.eval p.2))=vals
 | [],vals,h=>by simp [evalP] at h; subst h; rfl
 | (i,q)::parts,vals,h=>by
   rw [evalP] at h
   cases hq:ev env q with
   | none=>simp [hq] at h
   | some v=>
     simp only [hq] at h
     cases hr:evalP env parts with
     | none=>simp [hr] at h
     | some l=>
       simp only [hr,Option.some.injEq] at h
       subst h
       simp [he.eval hq,parts_eval he parts l hr]
theorem Pu.bld {T:TypeId} {z:List Value} {pl:List (Nat × Nat)} {parts:List (Nat × Operand)} {vals:List (Nat × Value)} {r:List Value} [zt:ZeroT x.P T z] [sp:StructP x.P T pl] (hv:evalP env parts=some vals) (hr:fillK pl vals z=some r) :
 Pu x env ⟨dst,.build T parts.toArray,ty,pos,aft,gd⟩ (.agg r.toArray):=⟨fun a he w=>by
 have hz:=zt.h
 have hs:=sp.h
 cases hinf:x.P.info? T with
 | none=>simp [hinf] at hz
 | some i=>
 cases hzz:i.zero with
 | none=>simp [hinf,hzz] at hz
 | some zv=>
 have hzc:zv.cells=z.toArray:=by simpa [hinf,hzz] using hz
 cases hu:x.P.underlying T with
 | none=>simp [hu] at hs
 | some d=>
 rw [hu] at hs
 simp only [Option.bind_some] at hs
 cases d with
 | struct fs=>
   simp only at hs
   have hpl:fs.toList.mapM (fun f=>(x.P.info? f.type).map (fun i=>(f.offset,i.size)))=some pl:=by
    rw [←Array.toArray_toList (xs:=fs),List.mapM_toArray] at hs
    cases hm:fs.toList.mapM (fun f=>(x.P.info? f.type).map (fun i=>(f.offset,i.size))) with
    | none=>simp [hm] at hs
    | some q=>simp [hm] at hs; rw [hs]
   have hrun:=run_places (P:=x.P) (fs:=fs) (w:=w) fs.toList pl hpl
   have hfs:(fs.mapM (fun f=>do pure (f.offset,←sizeOf f.type):Field→Sem (Nat × Nat))).run x.P w=.ok pl.toArray w:=by
    rw [←Array.toArray_toList (xs:=fs),List.mapM_toArray]
    rw [Sem.run_map,hrun]; rfl
   have hpe:=parts_eval he parts vals hv
   have hfill:=fill_K (place:=fun i=>pl.toArray[i]?) (pl:=pl) (fun i=>by simp) vals z r hr
   have hparts:(parts.toArray.map fun (p:Nat × Operand)=>(p.1,a.eval p.2)).toList=vals:=by simpa using hpe
   simp only [execOp,Instr.build,zeroValue,typeInfo,Sem.run_bind,run_program,Result.andThen_ok,hinf,hzz,Sem.run_pure,run_underlying hu,hfs,hzc,hparts,hfill]
 | _=>simp at hs⟩
theorem Ef.bs1 {T E sz by_:Nat} {z:List Value} {q:Operand} {v:Value} {cs:List Value} [st:SliceT x.P T E sz by_] [zt:ZeroT x.P E z] (hq:ev env q=some v) (hc:v.cells=cs.toArray) (hl:cs.length=sz) (hz:z.length=sz) (hsz:Nat.blt 0 sz=true) (hsm:Nat.ble sz 16777216=true) :
 Ef x env H ⟨dst,.buildSlice T 1 #[(0,q)],ty,pos,aft,gd⟩ (fun v H'=>∃ b,v=.slice (some ⟨b,0,none⟩) 1 1∧H'=(b,.cells cs.toArray E (0,0))::H):=⟨fun a w he hi=>by
 have hst:=st.i
 have hzt:=zt.h
 cases hinf:x.P.info? E with
 | none=>simp [hinf] at hst
 | some i=>
 simp only [hinf,Option.map_some,Option.some.injEq,Prod.mk.injEq] at hst
 cases hzz:i.zero with
 | none=>simp [hinf,hzz] at hzt
 | some zv=>
 have hpos:sz≠0:=by have:=Nat.le_of_ble_eq_true hsz; omega
 have hbig:¬ 16777216 < sz:=by have:=Nat.le_of_ble_eq_true hsm; omega
 refine yields_of_run (v:=.slice (some ⟨w.heap.size,0,none⟩) 1 1) (w':=w.alloc (.cells cs.toArray E)) ?_ ⟨_,⟨_,rfl,rfl⟩,hi.alloc _,Same.alloc w _⟩
 have hfill:∀ c0:List Value,c0.length=sz→Instr.fill (fun i=>some (i * sz,sz)) c0.toArray [(0,v)]=some cs.toArray:=fun c0 h0=>by
  rw [fill_one (off:=0) (size:=sz) (r:=cs) (by simp) (by rw [hc]; simpa using hl)]
  · rfl
  · rw [hc,spliceK_eq]
    simp [h0,hl]
 have hc0:(Array.range sz).map (zv.cells[· % zv.cells.size]!)=((List.range sz).map (zv.cells[· % zv.cells.size]!)).toArray:=by
  apply Array.ext'; simp
 simp only [execOp,Instr.buildSlice,Sem.run_bind,run_underlying st.h,Result.andThen_ok,sizeOf,typeInfo,run_program,hinf,Sem.run_pure,hst.1,Nat.one_mul]
 rw [if_neg (by simpa using hbig)]
 simp only [Sem.run_pure,Result.andThen_ok,if_neg hpos,zeroValue,typeInfo,Sem.run_bind,run_program,hinf,hzz,List.map_toArray,List.map_cons,List.map_nil,he.eval hq,hc0]
 rw [hfill _ (by simp)]
 simp [newRow]⟩
end
end Go.Sl
