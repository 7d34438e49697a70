/- Some texts as one. Regions that draw their order, in which one variable is made anew at any time: the others are walked in the text's order, and the new variable ahead of each act. No conditions: laws only. A region that draws its order, in which chosen reads are counted as acts (they must be ordered among the acts): what stays then need not bear what they read. No conditions: laws only. A region that draws its order and in which a variable is made anew without an edge to the acts: what stays chosen. No conditions: laws only. Joining ways: what holds behind a piece of code is said once, whichever way was taken. No conditions: laws only. The logic's stepping with more operations: the greater of two, quotients and remainders by numbers, shifts, numbers negated. No conditions: laws only. The logic: bits that are struck ('and not'), and numbers rounded up to fours. No conditions: laws only. Many steps as one: the stepping of a walk as one theorem's default proof, its result (both ways of a truth value, new blocks) as one proposition. No conditions: laws only. A set of numbers beyond a base, in plain Lean: the base, and which distances 1 to 4096 beyond it are in. No conditions: definitions and laws. A flight of pieces, in plain Lean: what was sent and is not acknowledged yet. No conditions: definitions and laws. -/
import Derived.Test.YtlfpemmdehmbfaaGreatBuC
import GoSem.Core.View
namespace Go.Sl
open Go
section
variable {P:Program} {ops:Array Oper} {C:World→Prop} {Q:Act→World→Prop} {f:Tg} {l2:List Tg}
def wpFlo (P:Program) (ops:Array Oper) (C:World→Prop) (Q:Act→World→Prop) (f:Tg) (l2:List Tg):List Tg→(World→Prop)→Act→Prop
 | [],M,a=>wpMix P ops C Q (f::l2) M a
 | t::rest,M,a=>wpMix P ops C Q (f::t::(rest++l2)) M a∧
   ((∃ v,quietV P ops C t a v∧wpFlo P ops C Q f l2 rest M (a.put t.o.dst v))∨
    (acts ops t a∧∀ w,M w→yields P t.o a w (fun v w'=>∃ M':World→Prop,M' w'∧(t.nc=true→∀ w,M' w→C w)∧wpFlo P ops C Q f l2 rest M' (a.put t.o.dst v))))
theorem wpFlo_now:∀ {l:List Tg} {M:World→Prop} {a:Act},wpFlo P ops C Q f l2 l M a→wpMix P ops C Q (f::(l++l2)) M a
 | [],_,_,h=>h
 | _::_,_,_,h=>h.1
structure Fl (ops:Array Oper) (f t:Tg):Prop where
 ns:∀ cs b,t.o.op≠.select cs b
 g:t.o.guard=none
 a1:t.o.apart ops f.o=true
 a2:f.o.apart ops t.o=true
 nc:t.k=.s→f.nc=true
theorem quiet_ne {t:Tg} {a:Act} {v:Value} (hg:t.o.guard=none) (h:quietV P ops C t a v):t.k≠.e:=by
 rcases h with ⟨_,h,_⟩ | ⟨h,_⟩
 · exact h
 · simp [Region.wanted,hg] at h
theorem Fl.sw1 {t:Tg} (h:Fl ops f t) (hne:t.k≠.e):Sw ops t f:=⟨h.a1,fun h'=>hne h'.1,fun hs _=>h.nc hs⟩
theorem Fl.sw2 {t:Tg} (h:Fl ops f t) (hf:f.k=.e) (hne:t.k≠.e):Sw ops f t:=⟨h.a2,fun h'=>hne h'.2,fun hs=>by rw [hf] at hs; cases hs⟩
theorem mix_quiet {y:Tg} {r:List Tg} {M:World→Prop} {a:Act} {u:Value} (hC:y.k=.s→∀ w,M w→C w) (hw:∃ w,M w) (hu:quietV P ops C y a u) (h:wpMix P ops C Q (y::r) M a):wpMix P ops C Q r M (a.put y.o.dst u):=by
 obtain ⟨w,hw⟩:=hw
 rcases h with ⟨u',hu',h⟩ | ⟨ha,_⟩
 · obtain rfl:=quietV_det (w:=w) (fun hs=>hC hs w hw) hu hu'
   exact h
 · rcases hu with ⟨_,h1,_⟩ | ⟨h1,_⟩
   · exact absurd ha.2 h1
   · rw [ha.1] at h1; cases h1
theorem quiet_past {y:Tg} {r:List Tg} {M:World→Prop} {a:Act} {u:Value} (hfk:f.k=.e) (hfs:∀ cs b,f.o.op≠.select cs b) (hy:Fl ops f y) (hC:y.k=.s→∀ w,M w→C w) (hw:∃ w,M w) (hu:quietV P ops C y a u)
 (h:wpMix P ops C Q (f::y::r) M a):wpMix P ops C Q (f::r) M (a.put y.o.dst u):=
 mix_quiet hC hw hu (wpMix_swap hfs hy.ns (hy.sw2 hfk (quiet_ne hy.g hu)) hC hw h)
theorem quiet_back {x:Tg} {r:List Tg} {M:World→Prop} {a:Act} {v:Value} (hfk:f.k=.e) (hfs:∀ cs b,f.o.op≠.select cs b) (hx:Fl ops f x) (hw:∃ w,M w) (hv:quietV P ops C x a v)
 (h:wpMix P ops C Q (f::r) M (a.put x.o.dst v)):wpMix P ops C Q (f::x::r) M a:=
 wpMix_swap hx.ns hfs (hx.sw1 (quiet_ne hx.g hv)) (fun hs=>by rw [hfk] at hs; cases hs) hw (.inl ⟨v,hv,h⟩)
theorem hasS_e {l:List Tg} (hfk:f.k=.e):hasS (f::l)=hasS l:=by simp [hasS,hfk,Kd.isS]
theorem Fl.late {t:Tg} (h:Fl ops f t):Late f t:=fun _ hn hs=>by rw [h.nc hs] at hn; cases hn
theorem wpFlo_swap {x y:Tg} {rest:List Tg} {M:World→Prop} {a:Act} (hfk:f.k=.e) (hfs:∀ cs b,f.o.op≠.select cs b) (hx:Fl ops f x) (hy:Fl ops f y) (hlf:∀ z ∈ rest++l2,Late f z) (hsw:Sw ops x y)
 (hM:hasS (x::y::(rest++l2))=true→∀ w,M w→C w) (hw:∃ w,M w) (h:wpFlo P ops C Q f l2 (x::y::rest) M a):wpFlo P ops C Q f l2 (y::x::rest) M a:=by
 obtain ⟨h1,h2,h3⟩:=Oper.apart_spec hsw.apart
 have hMy:y.k=.s→∀ w,M w→C w:=fun hs=>hM ((hasS_iff _).2 ⟨y,by simp,hs⟩)
 have now:wpMix P ops C Q (f::y::x::(rest++l2)) M a:=by
  refine wpMix_push (fun z hz=>?_) (fun hs=>hM (by rw [hasS_e hfk] at hs; exact hs)) hw (fun M' a' hM' hw' hr=>wpMix_swap hx.ns hy.ns hsw (fun hs=>hM' ((hasS_iff _).2 ⟨y,by simp,hs⟩)) hw' hr) h.1
  rcases List.mem_cons.1 hz with rfl | hz
  · exact hx.late
  · rcases List.mem_cons.1 hz with rfl | hz
    · exact hy.late
    · exact hlf z hz
 refine ⟨now,?_⟩
 rcases h.2 with ⟨v,hv,hA⟩ | ⟨hax,hB⟩
 · rcases hA.2 with ⟨u,hu,hr⟩ | ⟨hay,hr⟩
   · have hu':=(quietV_put hy.ns h1).1 hu
     refine .inl ⟨u,hu',quiet_past hfk hfs hy hMy hw hu' now,.inl ⟨v,(quietV_put hx.ns h3).2 hv,?_⟩⟩
     rw [←Act.put_comm a v u h2]; exact hr
   · refine .inr ⟨(acts_put h1).1 hay,fun w hMw=>Yr.mono ?_ ((yields_put hy.ns h1).1 (hr w hMw))⟩
     rintro u w' ⟨M',hM',hk,hr'⟩
     have hv':=(quietV_put (d:=y.o.dst) (u:=u) hx.ns h3).2 hv
     rw [Act.put_comm a v u h2] at hr'
     exact ⟨M',hM',hk,quiet_back hfk hfs hx ⟨w',hM'⟩ hv' (wpFlo_now hr'),.inl ⟨v,hv',hr'⟩⟩
 · obtain ⟨w0,hw0⟩:=hw
   obtain ⟨v0,w0',M0,hM0,hk0,h0⟩:=(hB w0 hw0).ex
   have hyq:∃ u,quietV P ops C y a u:=by
    rcases h0.2 with ⟨u,hu,_⟩ | ⟨hay,_⟩
    · exact ⟨u,(quietV_put hy.ns h1).1 hu⟩
    · exact absurd ⟨hax.2,hay.2⟩ hsw.ne
   obtain ⟨u,hu⟩:=hyq
   refine .inl ⟨u,hu,quiet_past hfk hfs hy hMy ⟨w0,hw0⟩ hu now,.inr ⟨(acts_put h3).2 hax,fun w hMw=>Yr.mono ?_ ((yields_put hx.ns h3).2 (hB w hMw))⟩⟩
   rintro v w' ⟨M',hM',hk,hr⟩
   rcases hr.2 with ⟨u',hu',hr⟩ | ⟨hay,_⟩
   · have hu2:=(quietV_put hy.ns h1).1 hu'
     obtain rfl:u=u':=quietV_det (w:=w) (fun hs=>hMy hs w hMw) hu hu2
     refine ⟨M',hM',hk,?_⟩
     rw [←Act.put_comm a v u h2]; exact hr
   · exact absurd ⟨hax.2,hay.2⟩ hsw.ne
theorem wpFlo_push {x:Tg} {r r':List Tg} {M:World→Prop} {a:Act} (hfk:f.k=.e) (hlx:∀ z ∈ r++l2,Late x z) (hlf:∀ z ∈ x::(r++l2),Late f z) (hM:hasS (x::(r++l2))=true→∀ w,M w→C w) (hw:∃ w,M w)
 (hr1:∀ (M':World→Prop) (a':Act),(hasS (r++l2)=true→∀ w,M' w→C w)→(∃ w,M' w)→wpMix P ops C Q (r++l2) M' a'→wpMix P ops C Q (r'++l2) M' a')
 (hr2:∀ (M':World→Prop) (a':Act),(hasS (r++l2)=true→∀ w,M' w→C w)→(∃ w,M' w)→wpFlo P ops C Q f l2 r M' a'→wpFlo P ops C Q f l2 r' M' a')
 (h:wpFlo P ops C Q f l2 (x::r) M a):wpFlo P ops C Q f l2 (x::r') M a:=by
 refine ⟨?_,?_⟩
 · exact wpMix_push hlf (fun hs=>hM (by rw [hasS_e hfk] at hs; exact hs)) hw (fun M' a' hM' hw' hr=>wpMix_push hlx hM' hw' hr1 hr) h.1
 rcases h.2 with ⟨v,hv,h⟩ | ⟨hax,h⟩
 · exact .inl ⟨v,hv,hr2 M _ (fun hs=>hM (by simp [hasS,hs])) hw h⟩
 · refine .inr ⟨hax,fun w hMw=>Yr.mono ?_ (h w hMw)⟩
   rintro v w' ⟨M',hM',hk,h'⟩
   refine ⟨M',hM',hk,hr2 M' _ (fun hs=>?_) ⟨w',hM'⟩ h'⟩
   cases hnc:x.nc with
   | true=>exact hk hnc
   | false=>
     obtain ⟨y,hy,hys⟩:=(hasS_iff _).1 hs
     exact absurd hys (hlx y hy hax.2 hnc)
theorem wpFlo_front {i:Tg} {l3:List Tg} (hfk:f.k=.e) (hfs:∀ cs b,f.o.op≠.select cs b) (hl2f:∀ z ∈ l2,Late f z) (hl2s:∀ z ∈ l2,∀ cs b,z.o.op≠.select cs b):∀ (l1:List Tg) (M:World→Prop) (a:Act),(∀ t ∈ l1++i::l3,Fl ops f t)→((l1++i::l3)++l2).Pairwise Late→(∀ x ∈ l1,Sw ops x i)→
 (hasS ((l1++i::l3)++l2)=true→∀ w,M w→C w)→(∃ w,M w)→wpFlo P ops C Q f l2 (l1++i::l3) M a→wpFlo P ops C Q f l2 (i::(l1++l3)) M a
 | [],_,_,_,_,_,_,_,h=>h
 | x::l1,M,a,hfl,hpw,hsw,hM,hw,h=>by
   have e1:(l1++i::l3)++l2=l1++i::(l3++l2):=by simp
   have e2:(i::(l1++l3))++l2=i::(l1++(l3++l2)):=by simp
   rw [List.cons_append,List.cons_append,List.pairwise_cons] at hpw
   have hx:=hfl x (by simp)
   have hi:=hfl i (by simp)
   have hall:∀ z ∈ (l1++i::l3)++l2,Late f z:=fun z hz=>by
    rcases List.mem_append.1 hz with hz | hz
    · exact (hfl z (List.mem_cons_of_mem _ hz)).late
    · exact hl2f z hz
   have h':wpFlo P ops C Q f l2 (x::(i::(l1++l3))) M a:=by
    refine wpFlo_push hfk hpw.1 (fun z hz=>?_) hM hw (fun M' a' hM' hw' hr=>?_) (fun M' a' hM' hw' hr=>?_) h
    · rcases List.mem_cons.1 hz with rfl | hz
      · exact hx.late
      · exact hall z hz
    · rw [e1] at hr hM'
      rw [e2]
      refine wpMix_front l1 M' a' (fun t ht=>?_) (by rw [←e1]; exact hpw.2) (fun y hy=>hsw y (List.mem_cons_of_mem _ hy)) hM' hw' hr
      rw [←e1] at ht
      rcases List.mem_append.1 ht with ht | ht
      · exact (hfl t (List.mem_cons_of_mem _ ht)).ns
      · exact hl2s t ht
    · exact wpFlo_front hfk hfs hl2f hl2s l1 M' a' (fun t ht=>hfl t (List.mem_cons_of_mem _ ht)) hpw.2 (fun y hy=>hsw y (List.mem_cons_of_mem _ hy)) hM' hw' hr
   refine wpFlo_swap hfk hfs hx hi (fun z hz=>hall z ?_) (hsw x (by simp)) (fun hs=>hM ?_) hw h'
   · rw [e1]
     rcases List.mem_append.1 hz with hz | hz
     · rcases List.mem_append.1 hz with hz | hz
       · simp [hz]
       · simp [hz]
     · simp [hz]
   · obtain ⟨u,hu,hk⟩:=(hasS_iff _).1 hs
     refine (hasS_iff _).2 ⟨u,?_,hk⟩
     simp only [List.append_eq,List.mem_cons,List.mem_append] at hu ⊢
     rcases hu with hu | hu | (hu | hu) | hu <;> simp [hu]
theorem wpAny_of_flo {rd:Option Nat} {ms:List Nat} {Q':Post} (hq:∀ a w,Q a w→Q' .normal a w) (hns:∀ (j:Nat) (o:Oper) cs b,ops[j]? = some o→o.op≠.select cs b)
 (hs:∀ i o,ops[i]? = some o→(∀ e ∈ o.after,Region.binds .any e=true→e.on < i)∧∀ x,anc ms i x=true→∃ e ∈ o.after,Region.binds .any e=true∧(e.on=x∨anc ms e.on x=true))
 (hfk:f.k=.e) (hfg:f.o.guard=none) (hl2f:∀ z ∈ l2,Late f z) (hl2a:∀ z ∈ l2,anc ms z.i f.i=true) :
 ∀ (n:Nat) (l:List Tg) (listed:Array Bool) (M:World→Prop) (a:Act) (w:World),l.length=n→listed.size=ops.size→Closed ops listed→(∀ t ∈ l++f::l2,ops[t.i]? = some t.o)→((l++f::l2).map (·.i)).Nodup→(∀ j,j < ops.size→(listed.getD j true=false↔j ∈ (l++f::l2).map (·.i)))→
  ((l++f::l2).map (·.i)).Pairwise (· < ·)→(l++l2).Pairwise (fun x y=>(anc ms y.i x.i=true∨Sw ops x y)∧Late x y)→(∀ t ∈ l,Fl ops f t)→(hasS (l++l2)=true→∀ w,M w→C w)→M w→wpFlo P ops C Q f l2 l M a→wpAnyIn (fenceR rd) 0 P .any ops Q' (n+(l2.length+1)) listed a w:=by
 intro n
 induction n using Nat.strongRecOn with
 | _ n ih=>
   intro l listed M a w hn hsz hc ho hnd hl hlt hpw hfl hM hw h
   have hof:=ho f (by simp)
   have hfs:∀ cs b,f.o.op≠.select cs b:=fun cs b=>hns f.i f.o cs b hof
   show wpAnyIn (fenceR rd) 0 P .any ops Q' ((n+l2.length)+1) listed a w
   have hset:∀ (t:Tg) (l':List Tg),t ∈ l++f::l2→t.i ∈ Region.ready .any ops listed→l'.Sublist (l++f::l2)→t.i ∉ l'.map (·.i)→(∀ u ∈ l++f::l2,u=t∨u ∈ l')→
    (listed.setIfInBounds t.i true).size=ops.size∧Closed ops (listed.setIfInBounds t.i true)∧(∀ u ∈ l',ops[u.i]? = some u.o)∧(l'.map (·.i)).Nodup∧(∀ j,j < ops.size→((listed.setIfInBounds t.i true).getD j true=false↔j ∈ l'.map (·.i)))∧(l'.map (·.i)).Pairwise (· < ·):=by
    intro t l' ht hrd hsub htn hcov
    obtain ⟨h0,o,hoj,hall⟩:=mem_ready.1 hrd
    have hot:ops[t.i]? = some t.o:=ho t ht
    obtain rfl:o=t.o:=by rw [hoj] at hot; cases hot; rfl
    refine ⟨by simpa using hsz,fun j o ho' hj' e he hb=>?_,fun u hu=>ho u (hsub.mem hu),hnd.sublist (hsub.map _),fun j hjs=>?_,hlt.sublist (hsub.map _)⟩
    · by_cases hji:t.i=j
      · subst hji
        rw [hoj] at ho'; cases ho'
        exact getD_set_true (hall e he hb)
      · rw [getD_set_ne true hji] at hj'
        exact getD_set_true (hc j o ho' hj' e he hb)
    · by_cases hji:t.i=j
      · subst hji
        have:(listed.setIfInBounds t.i true).getD t.i true=true:=by
         simp [Array.getD,hsz,hjs]
        rw [this]
        exact ⟨fun h=>(by cases h),fun h=>absurd h htn⟩
      · rw [getD_set_ne true hji,hl j hjs]
        constructor
        · intro hm
          obtain ⟨u,hu,rfl⟩:=List.mem_map.1 hm
          rcases hcov u hu with rfl | hu'
          · exact absurd rfl hji
          · exact List.mem_map.2 ⟨u,hu',rfl⟩
        · intro hm
          obtain ⟨u,hu,rfl⟩:=List.mem_map.1 hm
          exact List.mem_map.2 ⟨u,hsub.mem hu,rfl⟩
   refine ⟨fun hr=>?_,fun j hj=>?_⟩
   · exfalso
     obtain ⟨t,l',hl'⟩:∃ t l',l++f::l2=t::l':=by
      cases l with
      | nil=>exact ⟨f,l2,rfl⟩
      | cons t l'=>exact ⟨t,l'++f::l2,rfl⟩
     rw [hl'] at ho hl hlt
     have hot:=ho t (by simp)
     have htlt:t.i < ops.size:=(Array.getElem?_eq_some_iff.1 hot).1
     have:t.i ∈ Region.ready .any ops listed:=mem_ready.2 ⟨(hl t.i htlt).2 (by simp),t.o,hot,fun e he hb=>by
      have he1:=(hs t.i t.o hot).1 e he hb
      have hnot:¬ listed.getD e.on true=false:=fun hf=>by
       have hm:=(hl e.on (by omega)).1 hf
       rw [List.map_cons,List.pairwise_cons] at hlt
       rw [List.map_cons,List.mem_cons] at hm
       rcases hm with hm | hm
       · omega
       · have:=hlt.1 _ hm; omega
      have hlt3:e.on < listed.size:=by omega
      simp only [Array.getD,hlt3,dite_true] at hnot ⊢
      simpa using hnot⟩
     rw [hr] at this
     cases this
   · obtain ⟨h0,o,hoj,hall⟩:=mem_ready.1 hj
     have hjlt:=(Array.getElem?_eq_some_iff.1 hoj).1
     obtain ⟨t,ht,rfl⟩:=List.mem_map.1 ((hl j hjlt).1 h0)
     have hot:ops[t.i]? = some t.o:=ho t ht
     obtain rfl:o=t.o:=by rw [hoj] at hot; cases hot; rfl
     have hpend:∀ u ∈ l++f::l2,anc ms t.i u.i=true→False:=fun u hu hanc=>by
      have:=anc_listed hs hsz hc (t.i+1) t.i (by omega) t.o hoj hall u.i hanc
      have huo:=ho u hu
      have hul:u.i < ops.size:=(Array.getElem?_eq_some_iff.1 huo).1
      have hf:=(hl u.i hul).2 (List.mem_map.2 ⟨u,hu,rfl⟩)
      have hlt3:u.i < listed.size:=by omega
      simp only [Array.getD,hlt3,dite_true] at hf this
      rw [hf] at this; cases this
     unfold wpOpIn
     rw [hoj]
     simp only []
     rcases List.mem_append.1 ht with htl | htf
     ·
      obtain ⟨l1,l3,rfl⟩:=List.append_of_mem htl
      have hpw':=hpw
      have e1:(l1++t::l3)++l2=l1++t::(l3++l2):=by simp
      rw [e1,List.pairwise_append] at hpw
      have hsw:∀ x ∈ l1,Sw ops x t:=fun x hx=>by
       rcases (hpw.2.2 x hx t (by simp)).1 with hanc | hsw
       · exact (hpend x (by simp [hx]) hanc).elim
       · exact hsw
      have hfront:=wpFlo_front (C:=C) (Q:=Q) (P:=P) (ops:=ops) hfk hfs hl2f (fun z hz cs b=>hns z.i z.o cs b (ho z (by simp [hz]))) l1 M a hfl (hpw'.imp fun h=>h.2) hsw hM ⟨w,hw⟩ h
      have hlen:(l1++l3).length=n - 1∧1≤n:=by simp at hn ⊢; omega
      have hsub:((l1++l3)++f::l2).Sublist ((l1++t::l3)++f::l2):=((List.Sublist.refl l1).append (List.sublist_cons_self t l3)).append (List.Sublist.refl _)
      have hsub2:((l1++l3)++l2).Sublist ((l1++t::l3)++l2):=((List.Sublist.refl l1).append (List.sublist_cons_self t l3)).append (List.Sublist.refl _)
      have htn:t.i ∉ ((l1++l3)++f::l2).map (·.i):=by
       have hq2:((l1++t::l3)++f::l2).Perm (t::((l1++l3)++f::l2)):=by
        have:(l1++t::l3)++f::l2=l1++t::(l3++f::l2):=by simp
        rw [this,List.append_assoc]
        exact List.perm_middle
       have:=(hq2.map (·.i)).nodup_iff.1 hnd
       rw [List.map_cons,List.nodup_cons] at this
       exact this.1
      obtain ⟨g1,g2,g3,g4,g5,g6⟩:=hset t _ ht hj hsub htn (fun u hu=>by
       simp only [List.mem_append,List.mem_cons] at hu ⊢
       rcases hu with (hu | hu | hu) | hu | hu <;> simp [hu])
      have hMsub:hasS ((l1++l3)++l2)=true→∀ w,M w→C w:=fun h=>hM ((hasS_iff _).2 (let ⟨u,hu,hk⟩:=(hasS_iff _).1 h; ⟨u,hsub2.mem hu,hk⟩))
      have next:∀ (M':World→Prop) (a':Act) (w':World),(hasS ((l1++l3)++l2)=true→∀ w,M' w→C w)→M' w'→wpFlo P ops C Q f l2 (l1++l3) M' a'→wpAnyIn (fenceR rd) 0 P .any ops Q' (n+l2.length) (listed.setIfInBounds t.i true) a' w':=
       fun M' a' w' hM' hw' h'=>by
        have:=ih (n - 1) (by omega) (l1++l3) _ M' a' w' hlen.1 g1 g2 g3 g4 g5 g6 (hpw'.sublist hsub2) (fun u hu=>hfl u (by
         rcases List.mem_append.1 hu with hu | hu <;> simp [hu])) hM' hw' h'
        rw [show n - 1+(l2.length+1)=n+l2.length by omega] at this
        exact this
      rcases hfront.2 with ⟨v,hv,hr⟩ | ⟨hat,hr⟩
      · rcases hv with ⟨hwant,hne,hrun⟩ | ⟨hwant,rfl⟩
        · rw [if_pos hwant]
          refine wpIn_of_yields (yields_of_run (R:=fun u w'=>u=v∧w'=w) (hrun w (fun hks=>hM ((hasS_iff _).2 ⟨t,by simp,hks⟩) w hw)) ⟨rfl,rfl⟩) ?_
          rintro u w' ⟨rfl,rfl⟩
          exact next M _ w' hMsub hw hr
        · rw [if_neg (by simp [hwant])]
          exact ⟨fun _ _=>trivial,next M _ w hMsub hw hr⟩
      · rw [if_pos hat.1]
        refine wpIn_of_yields (hr w hw) ?_
        rintro v w' ⟨M',hM',hk,h'⟩
        refine next M' _ w' (fun hs=>?_) hM' h'
        cases hnc:t.nc with
        | true=>exact hk hnc
        | false=>
          exfalso
          obtain ⟨u,hu,hus⟩:=(hasS_iff _).1 hs
          rw [List.append_assoc] at hu
          rcases List.mem_append.1 hu with hu | hu
          · have:=(hsw u hu).nc hus hat.2
            rw [hnc] at this; cases this
          · have hp2:=hpw.2.1
            rw [List.pairwise_cons] at hp2
            exact (hp2.1 u hu).2 hat.2 hnc hus
     · rcases List.mem_cons.1 htf with rfl | htl2
       ·
        have hnow:=wpFlo_now h
        have hsub:(l++l2).Sublist (l++t::l2):=(List.Sublist.refl l).append (List.sublist_cons_self t l2)
        have htn:t.i ∉ (l++l2).map (·.i):=by
         have:=((List.perm_middle (l₁:=l) (a:=t) (l₂:=l2)).map (·.i)).nodup_iff.1 hnd
         rw [List.map_cons,List.nodup_cons] at this
         exact this.1
        obtain ⟨g1,g2,g3,g4,g5,g6⟩:=hset t _ ht hj hsub htn (fun u hu=>by
         simp only [List.mem_append,List.mem_cons] at hu ⊢
         rcases hu with hu | hu | hu <;> simp [hu])
        have hlen:(l++l2).length=n+l2.length:=by simp [hn]
        rcases hnow with ⟨v,hv,_⟩ | ⟨hat,hr⟩
        · exact absurd hfk (quiet_ne hfg hv)
        · rw [if_pos hat.1]
          refine wpIn_of_yields (hr w hw) ?_
          rintro v w' ⟨M',hM',hk,h'⟩
          have:=wpAny_of_mix (rd:=rd) (P:=P) (ops:=ops) (C:=C) (Q:=Q) (ms:=ms) (Q':=Q') hq hns hs (l++l2) (listed.setIfInBounds t.i true) M' (a.put t.o.dst v) w' g1 g2 g3 g4 g5 g6 hpw (fun hs=>?_) hM' h'
          · rw [hlen] at this
            exact this
          · cases hnc:t.nc with
            | true=>exact hk hnc
            | false=>
              exfalso
              obtain ⟨u,hu,hus⟩:=(hasS_iff _).1 hs
              rcases List.mem_append.1 hu with hu | hu
              · have:=(hfl u hu).nc hus
                rw [hnc] at this; cases this
              · exact hl2f u hu hfk hnc hus
       · exact (hpend f (by simp) (hl2a t htl2)).elim
def isAlloc:Op→Bool | .alloc _=>true | .box _ _=>true | _=>false
def mixF (k:Nat) (l:List Oper):Bool:=
 Region.noSelect l.toArray && soundB (masks l []) l 0 && pwB (pairB l.toArray (masks l [])) ((tags l).take k++(tags l).drop (k+1)) &&
 (match (tags l)[k]? with
  | some f=>f.k.isE && f.o.guard.isNone && ((tags l).take k).all (fun t=>t.o.guard.isNone && t.o.apart l.toArray f.o && f.o.apart l.toArray t.o && (!t.k.isS || f.nc)) && ((tags l).drop (k+1)).all (fun z=>anc (masks l []) z.i f.i && (!z.k.isS || f.nc))
  | none=>false)
theorem wp_region_flo {rd:Option Nat} {P:Program} {C:World→Prop} {Q':Post} {l:List Oper} {id:Nat} {a:Act} {w:World} {M:World→Prop} (k:Nat) {f:Tg} (hf:(tags l)[k]? = some f) (hm:P.follows .mixedOrders=true) (hB:mixF k l=true)
 (hC:∀ w,M w→C w) (hw:M { w with drawn:=w.drawn+1 })
 (h:(∀ t ∈ (tags l).take k,Fl l.toArray f t)→f.k=.e→wpFlo P l.toArray C (fun a w=>Q' .normal a w) f ((tags l).drop (k+1)) ((tags l).take k) M a):(Code.region id l.toArray true).wpIn (fenceR rd) 0 P Q' a w:=by
 have hsplit:(tags l).take k++f::(tags l).drop (k+1)=tags l:=by
  have hlt:=(List.getElem?_eq_some_iff.1 hf).1
  have he:=(List.getElem?_eq_some_iff.1 hf).2
  rw [←he,←List.drop_eq_getElem_cons hlt,List.take_append_drop]
 simp only [mixF,hf,Bool.and_eq_true] at hB
 obtain ⟨⟨⟨h1,h2⟩,h4⟩,⟨⟨h5,h6⟩,h7⟩,h8⟩:=hB
 have hfk:=(isE_iff _).1 h5
 have hfg:f.o.guard=none:=by simpa using h6
 have hs:=soundB_spec l 0 h2
 simp only [Nat.zero_add] at hs
 have hmem:∀ t ∈ tags l,l.toArray[t.i]? = some t.o:=fun t ht=>by
  have:=(tag_mem l 0 t ht).2
  simpa using this
 have hns:∀ t ∈ tags l,∀ cs b,t.o.op≠.select cs b:=fun t ht cs b=>Region.noSelect_spec h1 t.i t.o cs b (hmem t ht)
 have hidx:(tags l).map (·.i)=List.range' 0 l.length:=tag_idx l 0
 have hfl:∀ t ∈ (tags l).take k,Fl l.toArray f t:=fun t ht=>by
  have:=List.all_eq_true.1 h7 t ht
  simp only [Bool.and_eq_true,Bool.or_eq_true,Bool.not_eq_true'] at this
  obtain ⟨⟨⟨g1,g2⟩,g3⟩,g4⟩:=this
  refine ⟨hns t (List.mem_of_mem_take ht),by simpa using g1,g2,g3,fun hk=>?_⟩
  rcases g4 with g4 | g4
  · rw [(isS_iff _).2 hk] at g4; cases g4
  · exact g4
 have h8':∀ z ∈ (tags l).drop (k+1),anc (masks l []) z.i f.i=true∧Late f z:=fun z hz=>by
  have:=List.all_eq_true.1 h8 z hz
  simp only [Bool.and_eq_true,Bool.or_eq_true,Bool.not_eq_true'] at this
  refine ⟨this.1,fun _ hn hk=>?_⟩
  rcases this.2 with g4 | g4
  · rw [(isS_iff _).2 hk] at g4; cases g4
  · rw [g4] at hn; cases hn
 refine wpIn_region_any hm ?_
 have hlen0:(tags l).length=l.length:=by simp [tags,tag_length]
 have hlt:=(List.getElem?_eq_some_iff.1 hf).1
 have key:=wpAny_of_flo (rd:=rd) (P:=P) (ops:=l.toArray) (C:=C) (Q:=fun a w=>Q' .normal a w) (ms:=masks l []) (Q':=Q') (f:=f) (l2:=(tags l).drop (k+1)) (fun _ _ h=>h) (fun j o cs b ho=>Region.noSelect_spec h1 j o cs b ho)
  (fun i o ho=>⟨(hs i o (by simpa using ho)).1,fun x hx=>(hs i o (by simpa using ho)).2 x hx⟩) hfk hfg (fun z hz=>(h8' z hz).2) (fun z hz=>(h8' z hz).1)
  k ((tags l).take k) (Array.replicate l.toArray.size false) M a { w with drawn:=w.drawn+1 } (by rw [List.length_take]; omega) (by simp)
  (fun j o ho hj=>by
   have:=(Array.getElem?_eq_some_iff.1 ho).1
   simp only [List.size_toArray] at this
   simp [Array.getD,this] at hj)
  (by rw [hsplit]; exact hmem) (by rw [hsplit,hidx]; exact List.nodup_range' ..) (fun j hj=>by
   simp only [List.size_toArray] at hj
   rw [hsplit,hidx]
   simp [Array.getD,hj,List.mem_range'_1]) (by rw [hsplit,hidx]; exact List.pairwise_lt_range') ((pwB_spec _ h4).imp fun h=>pairB_spec h) hfl (fun _=>hC) hw (h hfl hfk)
 have hlen:k+(((tags l).drop (k+1)).length+1)=l.toArray.size:=by rw [List.length_drop,List.size_toArray]; omega
 rw [hlen] at key
 exact key
end
structure WF (x:Cx) (Hc:HL) (K:Post) (ops:Array Oper) (f:Tg) (l2:List Tg) (l:List Tg) (env:Env) (H:HL):Prop where
 run:(∀ t ∈ l,Fl ops f t)→f.k=.e→(∀ cs b,f.o.op≠.select cs b)→∀ a,Ev x env a→(∃ w,CC x H w)→wpFlo x.P ops (CC x Hc) (fun a w=>K .normal a w) f l2 l (CC x H) a
section
variable {x:Cx} {K:Post} {env:Env} {H Hc:HL} {ops:Array Oper} {f:Tg} {l2 rest:List Tg}
theorem WF.nil (h:WD x Hc K ops (f::l2) env H):WF x Hc K ops f l2 [] env H:=⟨fun _ _ _ a he _=>h.run a he⟩
theorem WF.p {d i:Nat} {nc:Bool} {op:Op} {ty:TypeId} {pos:String} {aft:Array Edge} {v:Value} (hn:Nat.blt d x.n=true) (h:Pu x env ⟨some d,op,ty,pos,aft,none⟩ v) (next:WF x Hc K ops f l2 rest ((d,v)::env) H) :
 WF x Hc K ops f l2 (⟨.p,i,⟨some d,op,ty,pos,aft,none⟩,nc⟩::rest) env H:=⟨fun hfl hfk hfs a he hw=>by
 have hq:quietV x.P ops (CC x Hc) ⟨.p,i,⟨some d,op,ty,pos,aft,none⟩,nc⟩ a v:=.inl ⟨by simp [Region.wanted],(fun h=>by cases h),fun w _=>h.run a he w⟩
 have hr:=next.run (fun t ht=>hfl t (List.mem_cons_of_mem _ ht)) hfk hfs _ (he.put (Nat.le_of_ble_eq_true hn) v) hw
 exact ⟨quiet_back hfk hfs (hfl _ (List.mem_cons_self ..)) hw hq (wpFlo_now hr),.inl ⟨v,hq,hr⟩⟩⟩
theorem WF.s {d i:Nat} {nc:Bool} {op:Op} {ty:TypeId} {pos:String} {aft:Array Edge} {v:Value} (hn:Nat.blt d x.n=true) (h:Rd x env Hc ⟨some d,op,ty,pos,aft,none⟩ v) (next:WF x Hc K ops f l2 rest ((d,v)::env) H) :
 WF x Hc K ops f l2 (⟨.s,i,⟨some d,op,ty,pos,aft,none⟩,nc⟩::rest) env H:=⟨fun hfl hfk hfs a he hw=>by
 have hq:quietV x.P ops (CC x Hc) ⟨.s,i,⟨some d,op,ty,pos,aft,none⟩,nc⟩ a v:=.inl ⟨by simp [Region.wanted],(fun h=>by cases h),fun w hw=>h.run a w he (hw rfl).1⟩
 have hr:=next.run (fun t ht=>hfl t (List.mem_cons_of_mem _ ht)) hfk hfs _ (he.put (Nat.le_of_ble_eq_true hn) v) hw
 exact ⟨quiet_back hfk hfs (hfl _ (List.mem_cons_self ..)) hw hq (wpFlo_now hr),.inl ⟨v,hq,hr⟩⟩⟩
theorem WF.e {d i:Nat} {nc:Bool} {op:Op} {ty:TypeId} {pos:String} {aft:Array Edge} {R:Value→HL→Prop} (hn:Nat.blt d x.n=true) (h:Ef x env H ⟨some d,op,ty,pos,aft,none⟩ R)
 (next:∀ v H',R v H'→(nc=false∨∀ w,In x.F H' w→In x.F Hc w)∧WF x Hc K ops f l2 rest ((d,v)::env) H')
 (now:WD x Hc K ops (f::⟨.e,i,⟨some d,op,ty,pos,aft,none⟩,nc⟩::(rest++l2)) env H) :
 WF x Hc K ops f l2 (⟨.e,i,⟨some d,op,ty,pos,aft,none⟩,nc⟩::rest) env H:=⟨fun hfl hfk hfs a he hw=>
 ⟨now.run a he,.inr ⟨⟨by simp [Region.wanted],rfl⟩,fun w hw=>Yr.mono (fun v w'=>by
  rintro ⟨H',hR,hi,hs⟩
  obtain ⟨hk,hn'⟩:=next v H' hR
  have hcc:CC x H' w':=⟨hi,hw.2.trans hs⟩
  exact ⟨CC x H',hcc,fun hnc w hw=>⟨hk.resolve_left (by simp [show nc=true from hnc]) w hw.1,hw.2⟩,hn'.run (fun t ht=>hfl t (List.mem_cons_of_mem _ ht)) hfk hfs _ (he.put (Nat.le_of_ble_eq_true hn) v) ⟨w',hcc⟩⟩) (h.run a w he hw.1)⟩⟩⟩
theorem WF.pA {rest:List Tg} {i:Nat} {nc:Bool} {d:Nat} {op:Op} {ty:TypeId} {pos:String} {aft:Array Edge} {v:Value} (next:WF x Hc K ops f l2 rest ((d,v)::env) H) (hn:Nat.blt d x.n=true:=by exact rfl) (h:Pu x env ⟨some d,op,ty,pos,aft,none⟩ v:=by first | exact Pu.mv rfl | exact Pu.asg rfl | exact Pu.fa rfl | exact Pu.bin rfl rfl rfl | exact Pu.ext rfl rfl | exact Pu.nilCk rfl | exact Pu.notB rfl | exact Pu.pick_t rfl rfl | exact Pu.pick_f rfl rfl | exact Pu.cvI rfl | exact Pu.lenS rfl | exact Pu.fv rfl rfl | exact Pu.fva rfl rfl | exact Pu.eqB rfl rfl | exact Pu.eqN rfl rfl | exact Pu.neN rfl rfl | exact Pu.neB rfl rfl | exact Pu.eqSN rfl rfl | exact Pu.neSN rfl rfl | exact Pu.bld rfl rfl | exact Pu.min2 rfl rfl | exact Pu.xorU rfl | exact Pu.shr rfl rfl (by decide) | exact Pu.ia rfl rfl (by assumption) | exact Pu.mkF rfl rfl):WF x Hc K ops f l2 (⟨.p,i,⟨some d,op,ty,pos,aft,none⟩,nc⟩::rest) env H:=WF.p hn h next
theorem WF.sA {rest:List Tg} {i:Nat} {nc:Bool} {d:Nat} {op:Op} {ty:TypeId} {pos:String} {aft:Array Edge} {v:Value} (next:WF x Hc K ops f l2 rest ((d,v)::env) H) (hn:Nat.blt d x.n=true:=by exact rfl) (h:Rd x env Hc ⟨some d,op,ty,pos,aft,none⟩ v:=by first | exact Rd.ld rfl (by (repeat (first | exact CellAt.here rfl | exact CellAt.here (by assumption) | apply CellAt.there | apply CellAt.right)); first | done | fail) | exact Rd.lda rfl (by (repeat (first | exact CutAt.here rfl | apply CutAt.there | apply CutAt.right)); first | done | fail) | exact Rd.ldC rfl (by assumption) | exact Rd.ldaC rfl rfl (by assumption) | exact Rd.ldC0 rfl (by assumption) | exact Rd.ldaC0 rfl (by assumption) (by exact rfl) | exact Pu.rd (Pu.cvI rfl) | exact Pu.rd (Pu.lenS rfl)):WF x Hc K ops f l2 (⟨.s,i,⟨some d,op,ty,pos,aft,none⟩,nc⟩::rest) env H:=WF.s hn h next
end
end Go.Sl
namespace Go.Sl
open Go
def kindE (es:List Nat) (n:Nat) (op:Op):Kd:=if es.contains n then .e else kindOf op
def sMaskE (es:List Nat):List Oper→Nat→Nat
 | [],_=>0
 | o::l,n=>(if (kindE es n o.op).isS then 1 <<< n else 0) ||| sMaskE es l (n+1)
def tagE (es:List Nat) (ms:List Nat) (sm:Nat):List Oper→Nat→List Tg
 | [],_=>[]
 | o::l,n=>⟨kindE es n o.op,n,o,(sm &&& ms.getD n 0) != sm⟩::tagE es ms sm l (n+1)
def tagsE (es:List Nat) (l:List Oper):List Tg:=tagE es (masks l []) (sMaskE es l 0) l 0
def mixE (es:List Nat) (l:List Oper):Bool:=
 Region.noSelect l.toArray && soundB (masks l []) l 0 && pwB (pairB l.toArray (masks l [])) (tagsE es l)
theorem tagE_mem {es ms:List Nat} {sm:Nat}:∀ (l:List Oper) (n:Nat) (t:Tg),t ∈ tagE es ms sm l n→n≤t.i∧l[t.i - n]? = some t.o
 | [],_,_,h=>by cases h
 | o::l,n,t,h=>by
   rw [tagE,List.mem_cons] at h
   rcases h with rfl | h
   · exact ⟨Nat.le_refl _,by simp⟩
   · obtain ⟨h1,h2⟩:=tagE_mem l (n+1) t h
     refine ⟨by omega,?_⟩
     have:t.i - n=(t.i - (n+1))+1:=by omega
     rw [this]; simpa using h2
theorem tagE_idx {es ms:List Nat} {sm:Nat}:∀ (l:List Oper) (n:Nat),(tagE es ms sm l n).map (·.i)=List.range' n l.length
 | [],_=>rfl
 | o::l,n=>by rw [tagE,List.map_cons,tagE_idx l (n+1)]; rfl
theorem tagE_length {es ms:List Nat} {sm:Nat} (l:List Oper) (n:Nat):(tagE es ms sm l n).length=l.length:=by
 have:=congrArg List.length (tagE_idx (es:=es) (ms:=ms) (sm:=sm) l n); simpa using this
theorem wp_region_mixE {rd:Option Nat} {P:Program} {C:World→Prop} {Q':Post} {l:List Oper} {id:Nat} {a:Act} {w:World} {M:World→Prop} (es:List Nat) (hm:P.follows .mixedOrders=true) (hB:mixE es l=true)
 (hC:∀ w,M w→C w) (hw:M { w with drawn:=w.drawn+1 })
 (h:wpMix P l.toArray C (fun a w=>Q' .normal a w) (tagsE es l) M a):(Code.region id l.toArray true).wpIn (fenceR rd) 0 P Q' a w:=by
 simp only [mixE,Bool.and_eq_true] at hB
 obtain ⟨⟨h1,h2⟩,h4⟩:=hB
 have hs:=soundB_spec l 0 h2
 simp only [Nat.zero_add] at hs
 have hmem:∀ t ∈ tagsE es l,l.toArray[t.i]? = some t.o:=fun t ht=>by
  have:=(tagE_mem l 0 t ht).2
  simpa using this
 have hidx:(tagsE es l).map (·.i)=List.range' 0 l.length:=tagE_idx l 0
 refine wpIn_region_any hm ?_
 have key:=wpAny_of_mix (rd:=rd) (P:=P) (ops:=l.toArray) (C:=C) (Q:=fun a w=>Q' .normal a w) (ms:=masks l []) (Q':=Q') (fun _ _ h=>h) (fun j o cs b ho=>Region.noSelect_spec h1 j o cs b ho)
  (fun i o ho=>⟨(hs i o (by simpa using ho)).1,fun x hx=>(hs i o (by simpa using ho)).2 x hx⟩)
  (tagsE es l) (Array.replicate l.toArray.size false) M a { w with drawn:=w.drawn+1 } (by simp)
  (fun j o ho hj=>by
   have:=(Array.getElem?_eq_some_iff.1 ho).1
   simp only [List.size_toArray] at this
   simp [Array.getD,this] at hj)
  hmem (by rw [hidx]; exact List.nodup_range' ..) (fun j hj=>by
   simp only [List.size_toArray] at hj
   rw [hidx]
   simp [Array.getD,hj,List.mem_range'_1]) (by rw [hidx]; exact List.pairwise_lt_range') ((pwB_spec _ h4).imp fun h=>pairB_spec h) (fun _=>hC) hw h
 have hlen:(tagsE es l).length=l.toArray.size:=by simp [tagsE,tagE_length]
 rw [hlen] at key
 exact key
section
variable {x:Cx} {K:Post} {env:Env} {H Hc:HL} {ops:Array Oper} {rest:List Tg}
theorem W.drawE {id:Nat} {l:List Oper} (es:List Nat) (Hc:HL) (hm:x.P.follows .mixedOrders=true) (hB:mixE es l=true) (hc:∀ w,In x.F H w→In x.F Hc w) (h:WD x Hc K l.toArray (tagsE es l) env H):W x K (.region id l.toArray true) env H:=
 ⟨fun a _w s=>wp_region_mixE es hm hB (fun w h=>⟨hc w h.1,h.2⟩) (M:=CC x H) ⟨⟨s.hin.nd,s.hin.own,s.hin.fr,s.hin.dj⟩,⟨s.same.os,s.same.tape,s.same.output,s.same.size,s.same.drawn.up⟩⟩ (h.run a s.ev)⟩
theorem Rd.ef {o:Oper} {v:Value} (h:Rd x env H o v):Ef x env H o (fun u H'=>u=v∧H'=H):=⟨fun a w he hi=>yields_of_run (h.run a w he hi) ⟨H,⟨rfl,rfl⟩,hi,Same.refl w⟩⟩
end
theorem Tr.more {P:Program} {f:FuncId} {args:Array Value} {F:Nat→Option Obj} {H Hr:HL} {R:Value→HL→Prop} (h:Tr P f args (addF F Hr) H R):Tr P f args F (H++Hr) (fun v H'=>∃ H1,R v H1∧H'=H1++Hr):=fun _w hw=>
 (Tr.frame h hw).mono fun _ _ ⟨v,H',he,hR,hi,hs⟩=>⟨v,H'++Hr,he,⟨H',hR,rfl⟩,hi,hs⟩
theorem Tr.weak {P:Program} {f:FuncId} {args:Array Value} {F:Nat→Option Obj} {H:HL} {R R':Value→HL→Prop} (h:Tr P f args F H R) (hr:∀ v H',R v H'→∃ H'',R' v H''∧∀ w,In F H' w→In F H'' w):Tr P f args F H R':=
 fun w hw=>(h w hw).mono fun _ _ ⟨v,H',he,hR,hi,hs⟩=>let ⟨H'',h1,h2⟩:=hr v H' hR; ⟨v,H'',he,h1,h2 _ hi,hs⟩
section
variable {x:Cx} {env:Env} {H:HL} {dst:Option Tmp} {ty:TypeId} {pos:String} {aft:Array Edge} {gd:Option (Nat × Bool)}
theorem Ef.callW {f:FuncId} {args:List Operand} {tys:Array TypeId} {vals:List Value} {c Hr:HL} {R:Value→HL→Prop} [bd:Body x.P f] (hargs:args.map (ev env)=vals.map some) (hs:Sub c H Hr)
 (tr:∀ F',(∀ w,In F' [] w→In x.F Hr w)→Tr x.P f vals.toArray F' c R):Ef x env H ⟨dst,.call ⟨.value (.func f),args.toArray,tys⟩,ty,pos,aft,gd⟩ (fun v H'=>∃ H1,R v H1∧H'=H1++Hr):=⟨fun a w he hi=>
 (Ef.call (dst:=dst) (tys:=tys) (ty:=ty) (pos:=pos) (aft:=aft) (gd:=gd) hargs hs (tr (addF x.F Hr) (fun _ h=>In.unfocus (H:=c) (hi.perm hs.perm') h))).run a w he hi⟩
end
theorem Tr.callW {P:Program} {f:FuncId} {args:Array Value} {F:Nat→Option Obj} {c Hr:HL} {R:Value→HL→Prop} (tr:∀ F',(∀ w,In F' [] w→In F Hr w)→Tr P f args F' c R):Tr P f args F (c++Hr) (fun v H'=>∃ H1,R v H1∧H'=H1++Hr):=fun w hw=>
 (Tr.more (tr (addF F Hr) (fun _ h=>In.unfocus (H:=c) hw h))) w hw
end Go.Sl
namespace Go.Sl
open Go
section
variable {x:Cx} {K:Post} {env:Env} {H Hc:HL} {ops:Array Oper} {f:Tg} {l2 rest:List Tg}
theorem W.drawG {id:Nat} {l:List Oper} (k:Nat) (Hc:HL) (hc:∀ w,In x.F H w→In x.F Hc w) (h:WF x Hc K l.toArray ((tags l)[k]?.getD ⟨.p,0,⟨none,.nilCheck (.tmp 0),0,"",#[],none⟩,false⟩) ((tags l).drop (k+1)) ((tags l).take k) env H) (hk:Nat.blt k (tags l).length=true:=by kernel_rfl) (hfs:isAlloc ((tags l)[k]?.getD ⟨.p,0,⟨none,.nilCheck (.tmp 0),0,"",#[],none⟩,false⟩).o.op=true:=by kernel_rfl)
 (hm:x.P.follows .mixedOrders=true:=by kernel_rfl) (hB:mixF k l=true:=by kernel_rfl):W x K (.region id l.toArray true) env H:=
 ⟨fun a w s=>by
  have hlt:k < (tags l).length:=Nat.le_of_ble_eq_true hk
  have hf:(tags l)[k]? = some ((tags l)[k]?.getD ⟨.p,0,⟨none,.nilCheck (.tmp 0),0,"",#[],none⟩,false⟩):=by rw [List.getElem?_eq_getElem hlt]; rfl
  have hM:CC x H { w with drawn:=w.drawn+1 }:=⟨⟨s.hin.nd,s.hin.own,s.hin.fr,s.hin.dj⟩,⟨s.same.os,s.same.tape,s.same.output,s.same.size,s.same.drawn.up⟩⟩
  exact wp_region_flo k hf hm hB (fun w h=>⟨hc w h.1,h.2⟩) (M:=CC x H) hM (fun hfl hfk=>h.run hfl hfk (fun cs b he=>by rw [he] at hfs; cases hfs) a s.ev ⟨_,hM⟩)⟩
end
end Go.Sl
namespace Go.Sl
open Go
section
variable {x:Cx} {K:Post} {env:Env} {H:HL} {c:Code}
theorem Fin.weak {e:Exit} {env':Env} {H':HL} (he:∀ t v,look env' t=some v→look env t=some v) (hH:∀ w,In x.F H w→In x.F H' w) (h:Fin x K e env' H'):Fin x K e env H:=
 ⟨fun a w s=>h.run a w ⟨s.ev.sub he,hH w s.hin,s.same⟩⟩
theorem W.cut {G:Type} (E:G→Env) (Hp:G→HL) (ok:G→Prop) (h1:∀ K':Post,(∀ g,ok g→Fin x K' .normal (E g) (Hp g))→(∀ e env H,e≠.normal→Fin x K e env H→Fin x K' e env H)→W x K' c env H)
 (h2:∀ g,ok g→Fin x K .normal (E g) (Hp g)):W x K c env H:=h1 K h2 (fun _ _ _ _ h=>h)
theorem Fin.cut {K':Post} {G:Type} {E:G→Env} {Hp:G→HL} {ok:G→Prop} (hK:∀ g,ok g→Fin x K' .normal (E g) (Hp g)) (g:G) (h0:ok g) (he:∀ t v,look (E g) t=some v→look env t=some v) (hH:∀ w,In x.F H w→In x.F (Hp g) w):Fin x K' .normal env H:=
 Fin.weak he hH (hK g h0)
end
end Go.Sl
namespace Go.Sl
open Go
section
variable {x:Cx} {K:Post} {env:Env} {H Hc:HL} {ops:Array Oper}
theorem WL.pB {rest:List Oper} {d:Nat} {op:Op} {ty:TypeId} {pos:String} {aft:Array Edge} {v:Value} (next:WL x K ops rest ((d,v)::env) H) (hn:Nat.blt d x.n=true:=by exact rfl) (h:Pu x env ⟨some d,op,ty,pos,aft,none⟩ v:=by first | exact Pu.max2 rfl rfl | exact Pu.quo rfl rfl (by decide) | exact Pu.rem rfl rfl (by decide) | exact Pu.shl rfl rfl (by decide) | exact Pu.neg rfl):WL x K ops (⟨some d,op,ty,pos,aft,none⟩::rest) env H:=WL.p hn h next
theorem WD.pB {rest:List Tg} {i:Nat} {nc:Bool} {d:Nat} {op:Op} {ty:TypeId} {pos:String} {aft:Array Edge} {v:Value} (next:WD x Hc K ops rest ((d,v)::env) H) (hn:Nat.blt d x.n=true:=by exact rfl) (h:Pu x env ⟨some d,op,ty,pos,aft,none⟩ v:=by first | exact Pu.max2 rfl rfl | exact Pu.quo rfl rfl (by decide) | exact Pu.rem rfl rfl (by decide) | exact Pu.shl rfl rfl (by decide) | exact Pu.neg rfl):WD x Hc K ops (⟨.p,i,⟨some d,op,ty,pos,aft,none⟩,nc⟩::rest) env H:=WD.p hn h next
end
theorem S2b {g n:Prop} (h:n) (s:n→g:=by first
 | exact W.seq | exact W.region | exact W.block | exact W.skip | exact W.exit | exact W.ret | exact W.cond_t rfl | exact W.cond_f rfl | exact WL.nil | exact WD.nil | exact Fin.next | exact Fin.seq_exit | exact Fin.seq_ret | exact Fin.then_exit | exact Fin.then_ret | exact Fin.block_normal | exact Fin.block_ret | exact Fin.block_exit | exact Fin.block_other rfl
 | exact fun h=>WL.pA h | exact fun h=>WD.pA h | exact fun h=>WL.sA h | exact fun h=>WD.sA h | exact WL.g_yes rfl rfl | exact WL.g_no rfl rfl rfl rfl | exact WL.g_undef rfl rfl rfl | exact WD.g_yes rfl rfl | exact WD.g_no rfl rfl rfl rfl | exact WD.g_undef rfl rfl rfl
 | exact fun h=>WL.e0A h | exact fun h=>WD.e0A h | exact fun h=>WL.pB h | exact fun h=>WD.pB h):g:=s h
end Go.Sl
namespace Go.Sl
open Go
section
variable {x:Cx} {env:Env} {dst:Option Tmp} {ty:TypeId} {pos:String} {aft:Array Edge} {gd:Option (Nat × Bool)}
theorem Pu.andNot {T T':TypeId} {p q:Operand} {k:IntKind} {m n:Int} (hp:ev env p=some (.int k m)) (hq:ev env q=some (.int k n)) :
 Pu x env ⟨dst,.binOp .andNot T p q T',ty,pos,aft,gd⟩ (.int k (k.wrap (BitVec.ofInt k.bits m &&& ~~~(BitVec.ofInt k.bits n)).toNat)):=⟨fun a he w=>by
 simp [execOp,he.eval hp,he.eval hq,eqGuard,binOp,Op.intArith,Op.intCmp,Op.intBits]⟩
end
theorem strike3 {n:Int} (h:0≤n∧n < 9223372036854775808):IntKind.i64.wrap (BitVec.ofInt IntKind.i64.bits n &&& ~~~(BitVec.ofInt IntKind.i64.bits 3)).toNat=n / 4 * 4:=by
 obtain ⟨m,rfl⟩:∃ m:Nat,n=m:=⟨n.toNat,by omega⟩
 have hm:m < 2 ^ 63:=by omega
 have e:(BitVec.ofInt 64 (m:Int) &&& ~~~(BitVec.ofInt 64 3)).toNat=m / 4 * 4:=by
  have h1:∀ v:BitVec 64,(v &&& ~~~(BitVec.ofInt 64 3))=(v >>> 2) <<< 2:=fun v=>by
   refine BitVec.eq_of_getLsbD_eq (fun i hi=>?_)
   rw [BitVec.getLsbD_and,BitVec.getLsbD_not,BitVec.getLsbD_shiftLeft,BitVec.getLsbD_ushiftRight]
   have h3:(BitVec.ofInt 64 3).getLsbD i=decide (i < 2):=by
    rw [show BitVec.ofInt 64 3=3#64 from rfl,BitVec.getLsbD_ofNat]
    match i,hi with
    | 0,_=>rfl
    | 1,_=>rfl
    | i+2,hi=>
      have:(3:Nat).testBit (i+2)=false:=by rw [Nat.testBit_succ,Nat.testBit_succ]; exact Nat.zero_testBit i
      rw [this]; simp
   rw [h3]
   by_cases h:i < 2
   · simp [h]
   · simp [h,hi,show 2+(i - 2)=i by omega]
  rw [h1,BitVec.toNat_shiftLeft,BitVec.toNat_ushiftRight,BitVec.toNat_ofInt]
  simp only [Nat.shiftLeft_eq,Nat.shiftRight_eq_div_pow]
  have:((m:Int) % ((2 ^ 64:Nat):Int)).toNat=m:=by omega
  rw [this]
  omega
 show IntKind.i64.wrap ((BitVec.ofInt 64 (m:Int) &&& ~~~(BitVec.ofInt 64 3)).toNat:Int)=_
 rw [e,i64_id (by omega) (by omega)]
 omega
theorem Lst.part {F:Nat→Option Obj} {H:HL} {xs:List Value} {sa:Option Addr} {n c:Nat} (h:Lst F H 1 xs sa n c) {lo up:Nat} (h1:lo≤up) (h2:up≤n) :
 Lst F H 1 ((xs.drop lo).take (up - lo)) (if c=lo then sa else sa.map (·.add (lo * 1))) (up - lo) (c - lo):=by
 have hl:=h.len; have hc:=h.cap
 refine ⟨by simp; omega,by omega,fun h0=>?_,fun h0=>?_⟩
 · obtain ⟨b,off,rfl,hcan⟩:=h.can (by omega)
   refine ⟨b,off+lo,by rw [if_neg (by omega)]; simp [add_lit],fun w hw j u hu=>?_⟩
   have hj:j < up - lo:=by
    have:=(List.getElem?_eq_some_iff.1 hu).1
    simp at this
    omega
   have:=hcan w hw (lo+j) u (by rw [List.getElem?_take_of_lt hj,List.getElem?_drop] at hu; exact hu)
   rw [show off+lo+j=off+(lo+j) by omega]
   exact this
 · by_cases hlo:c=lo
   · omega
   · rw [if_neg hlo] at h0
     have:=h.ok (by cases sa with | none=>rfl | some a=>cases h0)
     omega
theorem wpMix_weak {P:Program} {ops:Array Oper} {C:World→Prop} {Q:Act→World→Prop}:∀ {l:List Tg} {M M':World→Prop} {a:Act},(∀ w,M' w→M w)→wpMix P ops C Q l M a→wpMix P ops C Q l M' a
 | [],_,_,_,h,k=>fun w hw=>k w (h w hw)
 | _::_,_,_,_,h,.inl ⟨v,hq,k⟩=>.inl ⟨v,hq,wpMix_weak h k⟩
 | _::_,_,_,_,h,.inr ⟨ha,k⟩=>.inr ⟨ha,fun w hw=>k w (h w hw)⟩
theorem WD.weak {x:Cx} {K:Post} {env:Env} {H H' Hc:HL} {ops:Array Oper} {l:List Tg} (hH:∀ w,In x.F H w→In x.F H' w) (h:WD x Hc K ops l env H'):WD x Hc K ops l env H:=
 ⟨fun a he=>wpMix_weak (fun _ hw=>⟨hH _ hw.1,hw.2⟩) (h.run a he)⟩
end Go.Sl
namespace Go.Sl
open Go
theorem C1 {a b c:Prop} (h:a→b) (s:b→c:=by first
 | exact W.seq | exact W.region | exact W.block | exact W.skip | exact W.exit | exact W.ret | exact W.cond_t rfl | exact W.cond_f rfl | exact WL.nil | exact WD.nil | exact Fin.next | exact Fin.seq_exit | exact Fin.seq_ret | exact Fin.then_exit | exact Fin.then_ret | exact Fin.block_normal | exact Fin.block_ret | exact Fin.block_exit | exact Fin.block_other rfl
 | exact fun h=>WL.pA h | exact fun h=>WD.pA h | exact fun h=>WL.sA h | exact fun h=>WD.sA h | exact WL.g_yes rfl rfl | exact WL.g_no rfl rfl rfl rfl | exact WL.g_undef rfl rfl rfl | exact WD.g_yes rfl rfl | exact WD.g_no rfl rfl rfl rfl | exact WD.g_undef rfl rfl rfl
 | exact fun h=>WL.e0A h | exact fun h=>WD.e0A h | exact fun h=>WL.pB h | exact fun h=>WD.pB h):a→c:=fun x=>s (h x)
theorem C0 {a b c:Prop} (h:a→b) (s:b→c:=by first
 | exact W.seq | exact W.region | exact W.block | exact W.skip | exact W.exit | exact W.ret | exact W.cond_t rfl | exact W.cond_f rfl | exact WL.nil | exact WD.nil | exact Fin.next | exact Fin.seq_exit | exact Fin.seq_ret | exact Fin.then_exit | exact Fin.then_ret | exact Fin.block_normal | exact Fin.block_ret | exact Fin.block_exit | exact Fin.block_other rfl
 | exact fun h=>WL.pA h | exact fun h=>WD.pA h | exact fun h=>WL.sA h | exact fun h=>WD.sA h | exact WL.g_yes rfl rfl | exact WL.g_no rfl rfl rfl rfl | exact WL.g_undef rfl rfl rfl | exact WD.g_yes rfl rfl | exact WD.g_no rfl rfl rfl rfl | exact WD.g_undef rfl rfl rfl
 | exact fun h=>WL.e0A h | exact fun h=>WD.e0A h):a→c:=fun x=>s (h x)
theorem C2 {a b c:Prop} (h:a→b) (s:b→c:=by first
 | exact W.seq | exact W.region | exact W.block | exact W.skip | exact W.exit | exact W.ret | exact W.cond_t rfl | exact W.cond_f rfl | exact WL.nil | exact WD.nil | exact Fin.next | exact Fin.seq_exit | exact Fin.seq_ret | exact Fin.then_exit | exact Fin.then_ret | exact Fin.block_normal | exact Fin.block_ret | exact Fin.block_exit | exact Fin.block_other rfl
 | exact fun h=>WL.pA h | exact fun h=>WD.pA h | exact fun h=>WL.sA h | exact fun h=>WD.sA h | exact WL.g_yes rfl rfl | exact WL.g_no rfl rfl rfl rfl | exact WL.g_undef rfl rfl rfl | exact WD.g_yes rfl rfl | exact WD.g_no rfl rfl rfl rfl | exact WD.g_undef rfl rfl rfl
 | exact fun h=>WL.pB h | exact fun h=>WD.pB h):a→c:=fun x=>s (h x)
theorem CL {a b c:Prop} (h:a→b) (s:b→c:=by first | exact fun h=>WL.s rfl (Rd.ldC rfl (Sl.Can.mono (by assumption) (fun _ h=>h.sublist findA))) h | exact fun h=>WD.s rfl (Rd.ldC rfl (Sl.Can.mono (by assumption) (fun _ h=>h.sublist findA))) h):a→c:=fun x=>s (h x)
theorem CD {a b c:Prop} (h:a→b) (s:b→c:=by exact fun h=>W.drawA h):a→c:=fun x=>s (h x)
theorem CA {n m:Nat→Prop} {c:Prop} (h:∀ b,n b→m b) (s:(∀ b,m b)→c:=by first | exact fun h=>WL.aA h | exact fun h=>WD.aA h):(∀ b,n b)→c:=fun x=>s fun b=>h b (x b)
theorem CG1 {x:Cx} {K:Post} {env:Env} {H:HL} {ops:Array Oper} {rest:List Oper} {dst:Option Nat} {op:Op} {ty:TypeId} {pos:String} {aft:Array Edge} {j t:Nat} {b c:Bool} {n1 n2:Prop}
 (h1:n1→WL x K ops (⟨dst,op,ty,pos,aft,some (j,b)⟩::rest) ((t,.bool true)::env) H) (h2:n2→WL x K ops (⟨dst,op,ty,pos,aft,some (j,b)⟩::rest) ((t,.bool false)::env) H) (hj:gslot ops j=some t:=by exact rfl) (hv:look env t=some (.bool c):=by exact rfl) :
 ((c=true→n1)∧(c=false→n2))→WL x K ops (⟨dst,op,ty,pos,aft,some (j,b)⟩::rest) env H:=fun z=>WL.g_split hj hv (fun e=>h1 (z.1 e)) (fun e=>h2 (z.2 e))
theorem CG2 {x:Cx} {K:Post} {env:Env} {H Hc:HL} {ops:Array Oper} {rest:List Tg} {i:Nat} {nc:Bool} {k:Kd} {dst:Option Nat} {op:Op} {ty:TypeId} {pos:String} {aft:Array Edge} {j t:Nat} {b c:Bool} {n1 n2:Prop}
 (h1:n1→WD x Hc K ops (⟨k,i,⟨dst,op,ty,pos,aft,some (j,b)⟩,nc⟩::rest) ((t,.bool true)::env) H) (h2:n2→WD x Hc K ops (⟨k,i,⟨dst,op,ty,pos,aft,some (j,b)⟩,nc⟩::rest) ((t,.bool false)::env) H) (hj:gslot ops j=some t:=by exact rfl) (hv:look env t=some (.bool c):=by exact rfl) :
 ((c=true→n1)∧(c=false→n2))→WD x Hc K ops (⟨k,i,⟨dst,op,ty,pos,aft,some (j,b)⟩,nc⟩::rest) env H:=fun z=>WD.g_split hj hv (fun e=>h1 (z.1 e)) (fun e=>h2 (z.2 e))
theorem CG3 {x:Cx} {K:Post} {env:Env} {H:HL} {c:Operand} {p q:Code} {b:Bool} {n1 n2:Prop} (ht:n1→W x K p env H) (hf:n2→W x K q env H) (hc:ev env c=some (.bool b):=by exact rfl):((b=true→n1)∧(b=false→n2))→W x K (.cond c p q) env H:=fun z=>W.cond hc (fun e=>ht (z.1 e)) (fun e=>hf (z.2 e))
abbrev Imp (a b:Prop):Prop:=a→b
theorem SPS {g n:Prop} (h:n) (s:n→g:=by
 repeat' (show Imp _ _; first | refine' C0 ?_ | refine' CD ?_ | refine' CA (fun _=>?_) | refine' CG1 ?_ ?_ | refine' CG2 ?_ ?_ | refine' CG3 ?_ ?_)
 any_goals exact fun h=>h):g:=s h
theorem SPN {g n:Prop} (h:n) (s:n→g:=by
 repeat' (show Imp _ _; first | refine' C0 ?_ | refine' CA (fun _=>?_) | refine' CG1 ?_ ?_ | refine' CG2 ?_ ?_ | refine' CG3 ?_ ?_)
 any_goals exact fun h=>h):g:=s h
theorem SPM {g n:Prop} (h:n) (s:n→g:=by
 repeat' (show Imp _ _; first | refine' C0 ?_ | refine' CA (fun _=>?_) | refine' CG1 ?_ ?_ | refine' CG2 ?_ ?_ | refine' CG3 ?_ ?_ | refine' CL ?_)
 any_goals exact fun h=>h):g:=s h
theorem SPU {g n:Prop} (h:n) (s:n→g:=by
 repeat' (show Imp _ _; first | refine' C1 ?_ | refine' CD ?_ | refine' CA (fun _=>?_) | refine' CG1 ?_ ?_ | refine' CG2 ?_ ?_ | refine' CG3 ?_ ?_)
 any_goals exact fun h=>h):g:=s h
theorem SPZ {g n:Prop} (h:n) (s:n→g:=by
 repeat' (show Imp _ _; first | refine' C2 ?_ | refine' CA (fun _=>?_) | refine' CG1 ?_ ?_ | refine' CG2 ?_ ?_ | refine' CG3 ?_ ?_ | refine' CL ?_)
 any_goals exact fun h=>h):g:=s h
theorem SPQ {g n:Prop} (h:n) (s:n→g:=by
 repeat' (show Imp _ _; first | refine' C1 ?_ | refine' CA (fun _=>?_) | refine' CG1 ?_ ?_ | refine' CG2 ?_ ?_ | refine' CL ?_)
 any_goals exact fun h=>h):g:=s h
theorem SPY {g n:Prop} (h:n) (s:n→g:=by
 repeat' (show Imp _ _; first | refine' C1 ?_ | refine' CA (fun _=>?_) | refine' CG1 ?_ ?_ | refine' CG2 ?_ ?_ | refine' CG3 ?_ ?_ | refine' CL ?_)
 any_goals exact fun h=>h):g:=s h
theorem SPX {g n:Prop} (h:n) (s:n→g:=by
 repeat' (show Imp _ _; first | refine' C1 ?_ | refine' CD ?_ | refine' CA (fun _=>?_) | refine' CG1 ?_ ?_ | refine' CG2 ?_ ?_ | refine' CG3 ?_ ?_ | refine' CL ?_)
 any_goals exact fun h=>h):g:=s h
end Go.Sl
namespace Go.Spn
open Go
abbrev u32 (n:Int):Int:=IntKind.u32.wrap n
theorem u32_eq (n:Int):u32 n=n % 4294967296:=by simp [u32,IntKind.wrap,IntKind.bits,IntKind.signed]
def far (b x:Int):Nat:=(u32 (x - b)).toNat
theorem far_lt (b x:Int):far b x < 4294967296:=by unfold far; rw [u32_eq]; omega
theorem far_int (b x:Int):((far b x:Nat):Int)=u32 (x - b):=by unfold far; rw [u32_eq]; omega
def inW (d:Nat):Bool:=decide (0 < d) && decide (d≤4096)
structure S where
 b:Int
 p:Nat→Bool
def has (s:S) (x:Int):Bool:=inW (far s.b x) && s.p (far s.b x)
def add (s:S) (x:Int):S:=if inW (far s.b x) then ⟨s.b,fun d=>decide (d=far s.b x) || s.p d⟩ else s
def shift (s:S) (n:Nat):S:=⟨u32 (s.b+n),fun d=>inW d && s.p (d+n)⟩
def lead (p:Nat→Bool):Nat→Nat→Nat
 | 0,_=>0
 | n+1,d=>if p (d+1) then lead p n (d+1)+1 else 0
def fol (s:S):Nat:=lead s.p 4096 0
def settle (s:S):S:=shift s (fol s)
def move (s:S) (x:Int):S:=if inW (far s.b x) then settle (shift s (far s.b x)) else s
def dist (p:Nat→Bool):List Nat:=(List.range 4097).filter p
def count (s:S):Nat:=(dist s.p).length
def last (s:S):Int:=u32 (s.b+((dist s.p).getLast?.getD 0:Nat))
def runs (most:Int):List (Nat × Nat)→List Nat→List (Nat × Nat)
 | acc,[]=>acc
 | acc,d::ds=>match acc.getLast? with
   | some (f,t)=>if t+1=d then runs most (acc.dropLast++[(f,d)]) ds else if (acc.length:Int)=most then acc else runs most (acc++[(d,d)]) ds
   | none=>if (acc.length:Int)=most then acc else runs most (acc++[(d,d)]) ds
def gaps (s:S) (most:Int):List (Nat × Nat):=if most < 1 then [] else runs most [] (dist s.p)
def S.ok (s:S):Prop:=(0≤s.b∧s.b < 4294967296)∧∀ d,s.p d=true→1≤d∧d≤4096
theorem S.ext {s t:S} (h1:s.b=t.b) (h2:∀ d,s.p d=t.p d):s=t:=by
 cases s; cases t; simp at h1 h2; subst h1; congr 1; exact funext h2
end Go.Spn
namespace Go.Flt
open Go Go.Spn
structure Rc where
 tsn:Int
 stream:Int
 ssn:Int
 un:Bool
 fi:Bool
 la:Bool
 bs:List UInt8
 path:Int
 id:Int
 miss:Int
 at_:Int
 acked:Bool
 lost:Bool
 gone:Bool
 again:Bool
structure S where
 L:List Rc
 c:Int
 paths:Int
def away (r:Rc):Bool:=!r.acked && !r.lost && !r.gone
def openR (r:Rc):Bool:=r.lost && !r.acked && !r.gone
def byP (p:Int) (r:Rc):Bool:=decide (r.path=p) && away r
def ofId (i:Int) (r:Rc):Bool:=decide (r.id=i) && !r.acked && !r.gone
def unack (r:Rc):Bool:=!r.acked
def isAck (r:Rc):Bool:=r.acked
def low1 (r:Rc):Bool:=!r.acked && !r.gone
def sumB (q:Rc→Bool) (L:List Rc):Nat:=((L.filter q).map (fun r=>r.bs.length)).sum
def cntB (q:Rc→Bool) (L:List Rc):Nat:=(L.filter q).length
def sel (q:Rc→Bool) (f:Rc→Rc) (L:List Rc):List Rc:=L.map (fun r=>if q r then f r else r)
def half (q:Rc→Bool) (f:Rc→Rc) (L:List Rc) (i:Nat):List Rc:=sel q f (L.take i)++L.drop i
def setLost (r:Rc):Rc:={ r with lost:=true }
def setGone (r:Rc):Rc:={ r with gone:=true }
def out (s:S) (p:Int):Nat:=sumB (byP p) s.L
def openB (s:S):Nat:=sumB unack s.L
def lostL (s:S):List Int:=(s.L.filter openR).map (·.tsn)
def markN (s:S) (p:Int):Nat:=cntB (byP p) s.L
def mark (s:S) (p:Int):S:={ s with L:=sel (byP p) setLost s.L }
def abandonN (s:S) (i:Int):Nat:=cntB (ofId i) s.L
def abandon (s:S) (i:Int):S:={ s with L:=sel (ofId i) setGone s.L }
theorem sumB_snoc (q:Rc→Bool) {L:List Rc} {i:Nat} {r:Rc} (h:L[i]? = some r):sumB q (L.take (i+1))=sumB q (L.take i)+if q r then r.bs.length else 0:=by
 unfold sumB
 rw [List.take_add_one,h,List.filter_append]
 cases hq:q r <;> simp [hq]
theorem cntB_snoc (q:Rc→Bool) {L:List Rc} {i:Nat} {r:Rc} (h:L[i]? = some r):cntB q (L.take (i+1))=cntB q (L.take i)+if q r then 1 else 0:=by
 unfold cntB
 rw [List.take_add_one,h,List.filter_append]
 cases hq:q r <;> simp [hq]
theorem cntB_le (q:Rc→Bool) (L:List Rc):cntB q L≤L.length:=List.length_filter_le _ _
theorem sumB_append (q:Rc→Bool) (L M:List Rc):sumB q (L++M)=sumB q L+sumB q M:=by
 unfold sumB
 rw [List.filter_append,List.map_append,List.sum_append]
theorem sumB_take (q:Rc→Bool) (L:List Rc) (i:Nat):sumB q (L.take i)≤sumB q L:=by
 have:=sumB_append q (L.take i) (L.drop i)
 rw [List.take_append_drop] at this
 omega
theorem half_len (q:Rc→Bool) (f:Rc→Rc) (L:List Rc) (i:Nat):(half q f L i).length=L.length:=by
 unfold half sel
 rw [List.length_append,List.length_map,←List.length_append,List.take_append_drop]
theorem half_get (q:Rc→Bool) (f:Rc→Rc) {L:List Rc} {i:Nat} {r:Rc} (h:L[i]? = some r):(half q f L i)[i]? = some r:=by
 have hi:=(List.getElem?_eq_some_iff.1 h).1
 unfold half sel
 rw [List.getElem?_append_right (by simp; omega)]
 simp only [List.length_map,List.length_take]
 rw [List.getElem?_drop,show i+(i - min i L.length)=i by omega]
 exact h
theorem half_zero (q:Rc→Bool) (f:Rc→Rc) (L:List Rc):half q f L 0=L:=rfl
theorem half_all (q:Rc→Bool) (f:Rc→Rc) (L:List Rc):half q f L L.length=sel q f L:=by
 unfold half
 rw [List.take_length,List.drop_length,List.append_nil]
theorem half_succ (q:Rc→Bool) (f:Rc→Rc) {L:List Rc} {i:Nat} {r:Rc} (h:L[i]? = some r):half q f L (i+1)=(half q f L i).set i (if q r then f r else r):=by
 have hi:=(List.getElem?_eq_some_iff.1 h).1
 have hd:L.drop i=r::L.drop (i+1):=by
  rw [List.drop_eq_getElem_cons hi]
  have:=(List.getElem?_eq_some_iff.1 h).2
  rw [this]
 unfold half sel
 rw [List.take_add_one,h,hd,List.map_append,List.set_append_right _ _ (by simp; omega)]
 have:i - ((L.take i).map (fun r=>if q r then f r else r)).length=0:=by simp; omega
 rw [this]
 simp
structure Dt where
 tsn:Int
 stream:Int
 ssn:Int
 un:Bool
 fi:Bool
 la:Bool
 bs:List UInt8
def Rc.d (r:Rc):Dt:=⟨r.tsn,r.stream,r.ssn,r.un,r.fi,r.la,r.bs⟩
def atI (c:Int) (n:Nat) (t:Int):Option Nat:=if 0 < Spn.far c t∧Spn.far c t≤n then some (Spn.far c t - 1) else none
def getD (s:S) (t:Int):Option (Dt × Int):=match atI s.c s.L.length t with
 | some i=>(s.L[i]?).map (fun r=>(r.d,r.path))
 | none=>none
def setAgain (path now:Int) (r:Rc):Rc:={ r with path:=path,at_:=now,lost:=false,again:=true }
def again (s:S) (t path now:Int):S × Int:=if path < 0∨s.paths≤path then (s,1) else match atI s.c s.L.length t with
 | none=>(s,11)
 | some i=>match s.L[i]? with
   | none=>(s,11)
   | some r=>if openR r then ({ s with L:=s.L.set i (setAgain path now r) },0) else (s,11)
def newT (s:S):Int:=Spn.u32 (Spn.u32 (s.c+1)+Spn.u32 s.L.length)
def newR (s:S) (d:Dt) (path now id:Int):Rc:=⟨newT s,d.stream,d.ssn,d.un,d.fi,d.la,d.bs,path,id,0,now,false,false,false,false⟩
def addE (s:S) (d:Dt) (path:Int):Int:=if path < 0∨s.paths≤path∨d.bs=[] then 1 else if 2048≤s.L.length then 6 else 0
def add (s:S) (d:Dt) (path now id:Int):S:=if addE s d path=0 then { s with L:=s.L++[newR s d path now id] } else s
def ptL (L:List Rc):List Dt:=(L.takeWhile (·.gone)).map Rc.d
end Go.Flt
