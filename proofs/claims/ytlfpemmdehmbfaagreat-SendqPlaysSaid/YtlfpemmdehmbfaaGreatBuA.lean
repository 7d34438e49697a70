/- Some texts as one. A small program logic over the model's wp: the heap that a call owns is a list of blocks, the rest is a frame that it may read. No conditions: laws only. The logic's rules for single operations: what each yields, over owned blocks and over the frame. No conditions: laws only. -/
import Derived.Calls
import Derived.Tactics
import Derived.Orders
import Derived.Laws.Sem
import Derived.RangeFuncLeaves
import Derived.RangeFuncCalls
import Derived.TacticsIn
import Derived.Laws.Rows
import Derived.Laws.CopyRow
import Derived.Laws.Entries
namespace Go.Sl
open Go
abbrev Env:=List (Nat × Value)
abbrev HL:=List (Nat × Obj)
def look:Env→Nat→Option Value
 | [],_=>none
 | (k,v)::r,t=>match Nat.beq k t with
   | true=>some v
   | false=>look r t
def Drn (_ _:World):Prop:=True
theorem Drn.any {w w':World}:Drn w w':=trivial
theorem Drn.of {w w':World} (_:w.drawn≤w'.drawn):Drn w w':=trivial
theorem Drn.tr {a b c:World} (_:Drn a b) (_:Drn b c):Drn a c:=trivial
theorem Drn.up {w w':World} {n:Nat} (_:Drn w w'):Drn w { w' with drawn:=w'.drawn+n }:=trivial
structure Same (w w':World):Prop where
 os:w'.os=w.os
 tape:w'.tape=w.tape
 output:w'.output=w.output
 size:w.heap.size≤w'.heap.size
 drawn:Drn w w'
theorem Same.refl (w:World):Same w w:=⟨rfl,rfl,rfl,Nat.le_refl _,.of (Nat.le_refl _)⟩
theorem Same.trans {a b c:World} (h:Same a b) (k:Same b c):Same a c:=
 ⟨k.os.trans h.os,k.tape.trans h.tape,k.output.trans h.output,Nat.le_trans h.size k.size,h.drawn.tr k.drawn⟩
structure In (F:Nat→Option Obj) (H:HL) (w:World):Prop where
 nd:(H.map (·.1)).Nodup
 own:∀ p ∈ H,w.heap[p.1]? = some p.2
 fr:∀ b o,F b=some o→w.heap[b]? = some o
 dj:∀ p ∈ H,F p.1=none
structure Cx where
 P:Program
 n:Nat
 w0:World
 F:Nat→Option Obj
 rd:Option Nat:=none
 df:List Deferred:=[]
def fenceR (rd:Option Nat):Fence:={ Fence.wide with round:=rd }
abbrev Cx.fc (x:Cx):Fence:=fenceR x.rd
structure Ev (x:Cx) (env:Env) (a:Act):Prop where
 size:a.tmps.size=x.n
 defers:a.defers=x.df
 env:∀ t v,look env t=some v→a.tmps[t]? = some v
structure St (x:Cx) (env:Env) (H:HL) (a:Act) (w:World):Prop where
 ev:Ev x env a
 hin:In x.F H w
 same:Same x.w0 w
def ev (env:Env):Operand→Option Value
 | .tmp t=>look env t
 | .const v=>some v
 | .global g=>some (.pointer (some ⟨g,0,none⟩))
 | .func f=>some (.func (.func f) #[] #[])
theorem Ev.eval {x:Cx} {env:Env} {a:Act} (h:Ev x env a) {o:Operand} {v:Value} (ho:ev env o=some v):a.eval o=v:=by
 cases o with
 | tmp t=>have:=h.env t v ho; simp [Act.eval,this]
 | const u=>simpa [ev,Act.eval] using ho
 | global g=>simpa [ev,Act.eval] using ho
 | func f=>simpa [ev,Act.eval] using ho
theorem look_cons (k:Nat) (v:Value) (env:Env) (t:Nat):look ((k,v)::env) t=if k=t then some v else look env t:=by
 by_cases h:k=t
 · subst h; simp [look]
 · have:Nat.beq k t=false:=by
    cases hb:Nat.beq k t with
    | false=>rfl
    | true=>exact absurd (Nat.eq_of_beq_eq_true hb) h
   simp [look,this,h]
theorem Ev.put {x:Cx} {env:Env} {a:Act} (h:Ev x env a) {d:Nat} (hd:d < x.n) (v:Value):Ev x ((d,v)::env) (a.put (some d) v):=by
 refine ⟨by simp [Act.put,h.size],by simp [Act.put,h.defers],fun t u hu=>?_⟩
 rw [look_cons] at hu
 by_cases hk:d=t
 · subst hk
   simp at hu
   subst hu
   simp [Act.put,h.size,hd]
 · simp only [if_neg hk] at hu
   simp [Act.put,Array.getElem?_setIfInBounds_ne hk,h.env t u hu]
theorem Ev.sub {x:Cx} {env env':Env} {a:Act} (h:Ev x env a) (hs:∀ t v,look env' t=some v→look env t=some v):Ev x env' a:=
 ⟨h.size,h.defers,fun t v hv=>h.env t v (hs t v hv)⟩
abbrev Post:=Exit→Act→World→Prop
structure W (x:Cx) (K:Post) (c:Code) (env:Env) (H:HL):Prop where
 run:∀ a w,St x env H a w→c.wpIn x.fc 0 x.P K a w
structure WL (x:Cx) (K:Post) (ops:Array Oper) (l:List Oper) (env:Env) (H:HL):Prop where
 run:∀ a w,St x env H a w→wpListIn x.fc 0 x.P ops K l a w
structure Fin (x:Cx) (K:Post) (e:Exit) (env:Env) (H:HL):Prop where
 run:∀ a w,St x env H a w→K e a w
section
variable {x:Cx} {K:Post} {env:Env} {H:HL}
def Kseq (x:Cx) (q:Code) (K:Post):Post:=Exit.then (q.wpIn x.fc 0 x.P K) K
theorem W.seq {p q:Code} (h:W x (Kseq x q K) p env H):W x K (.seq p q) env H:=⟨fun a w s=>wpIn_seq (h.run a w s)⟩
theorem W.block {id:Nat} {c:Code} (h:W x (Exit.inBlock id K) c env H):W x K (.block id c) env H:=⟨fun a w s=>wpIn_block (h.run a w s)⟩
theorem W.skip (h:Fin x K .normal env H):W x K .skip env H:=⟨fun a w s=>wpIn_skip (h.run a w s)⟩
theorem W.exit {id:Nat} (h:Fin x K (.exit id) env H):W x K (.exit id) env H:=⟨fun a w s=>wpIn_exit (h.run a w s)⟩
theorem W.ret (h:Fin x K .ret env H):W x K .ret env H:=⟨fun a w s=>wpIn_ret (h.run a w s)⟩
theorem W.region {id:Nat} {l:List Oper} (h:WL x K l.toArray l env H):W x K (.region id l.toArray false) env H:=⟨fun a w s=>wpIn_region_lit (h.run a w s)⟩
theorem W.cond {c:Operand} {p q:Code} {b:Bool} (hc:ev env c=some (.bool b)) (ht:b=true→W x K p env H) (hf:b=false→W x K q env H):W x K (.cond c p q) env H:=
 ⟨fun a w s=>wpIn_cond_split (s.ev.eval hc) (fun h=>(ht h).run a w s) (fun h=>(hf h).run a w s)⟩
theorem W.cond_t {c:Operand} {p q:Code} (hc:ev env c=some (.bool true)) (ht:W x K p env H):W x K (.cond c p q) env H:=
 ⟨fun a w s=>wpIn_cond_true (s.ev.eval hc) (ht.run a w s)⟩
theorem W.cond_f {c:Operand} {p q:Code} (hc:ev env c=some (.bool false)) (ht:W x K q env H):W x K (.cond c p q) env H:=
 ⟨fun a w s=>wpIn_cond_false (s.ev.eval hc) (ht.run a w s)⟩
theorem WL.nil {ops:Array Oper} (h:Fin x K .normal env H):WL x K ops [] env H:=⟨h.run⟩
theorem Fin.next {q:Code} (h:W x K q env H):Fin x (Kseq x q K) .normal env H:=⟨h.run⟩
theorem Fin.seq_exit {q:Code} {id:Nat} (h:Fin x K (.exit id) env H):Fin x (Kseq x q K) (.exit id) env H:=⟨h.run⟩
theorem Fin.seq_ret {q:Code} (h:Fin x K .ret env H):Fin x (Kseq x q K) .ret env H:=⟨h.run⟩
theorem Fin.then_exit {n:Act→World→Prop} {id:Nat} (h:Fin x K (.exit id) env H):Fin x (Exit.then n K) (.exit id) env H:=⟨h.run⟩
theorem Fin.then_ret {n:Act→World→Prop} (h:Fin x K .ret env H):Fin x (Exit.then n K) .ret env H:=⟨h.run⟩
theorem Fin.block_normal {id:Nat} (h:Fin x K .normal env H):Fin x (Exit.inBlock id K) .normal env H:=⟨h.run⟩
theorem Fin.block_ret {id:Nat} (h:Fin x K .ret env H):Fin x (Exit.inBlock id K) .ret env H:=⟨h.run⟩
theorem Fin.block_exit {id:Nat} (h:Fin x K .normal env H):Fin x (Exit.inBlock id K) (.exit id) env H:=⟨fun a w s=>by
 simp only [Exit.inBlock,if_true]; exact h.run a w s⟩
theorem Fin.block_other {id id':Nat} (hne:Nat.beq id' id=false) (h:Fin x K (.exit id') env H):Fin x (Exit.inBlock id K) (.exit id') env H:=⟨fun a w s=>by
 have:id'≠id:=fun e=>by subst e; simp at hne
 simp only [Exit.inBlock,if_neg this]; exact h.run a w s⟩
theorem W.weak {c:Code} {env':Env} {H':HL} (he:∀ t v,look env' t=some v→look env t=some v) (hH:∀ w,In x.F H w→In x.F H' w) (h:W x K c env' H'):W x K c env H:=
 ⟨fun a w s=>h.run a w ⟨s.ev.sub he,hH w s.hin,s.same⟩⟩
theorem WL.weak {ops:Array Oper} {l:List Oper} {H':HL} (hH:∀ w,In x.F H w→In x.F H' w) (h:WL x K ops l env H'):WL x K ops l env H:=
 ⟨fun a w s=>h.run a w ⟨s.ev,hH w s.hin,s.same⟩⟩
end
theorem In.perm {F:Nat→Option Obj} {H H':HL} {w:World} (hp:H.Perm H') (h:In F H w):In F H' w:=
 ⟨(hp.map _).nodup_iff.1 h.nd,fun p hp'=>h.own p (hp.mem_iff.2 hp'),h.fr,fun p hp'=>h.dj p (hp.mem_iff.2 hp')⟩
theorem In.sublist {F:Nat→Option Obj} {H H':HL} {w:World} (hp:H'.Sublist H) (h:In F H w):In F H' w:=
 ⟨h.nd.sublist (hp.map _),fun p hp'=>h.own p (hp.mem hp'),h.fr,fun p hp'=>h.dj p (hp.mem hp')⟩
theorem In.right {F:Nat→Option Obj} {H H':HL} {w:World} (h:In F (H++H') w):In F H' w:=h.sublist (List.sublist_append_right _ _)
theorem In.left {F:Nat→Option Obj} {H H':HL} {w:World} (h:In F (H++H') w):In F H w:=h.sublist (List.sublist_append_left _ _)
def addF (F:Nat→Option Obj) (H:HL) (b:Nat):Option Obj:=match H.find? (fun p=>p.1 == b) with | some p=>some p.2 | none=>F b
theorem find?_of_mem {H:HL} (hn:(H.map (·.1)).Nodup) {p:Nat × Obj} (hp:p ∈ H):H.find? (fun q=>q.1 == p.1)=some p:=by
 induction H with
 | nil=>cases hp
 | cons q H ih=>
   simp only [List.map_cons,List.nodup_cons] at hn
   cases hp with
   | head=>simp
   | tail _ hp=>
     have hne:q.1≠p.1:=fun e=>hn.1 (List.mem_map.2 ⟨p,hp,e.symm⟩)
     rw [List.find?_cons_of_neg (by simpa using hne)]
     exact ih hn.2 hp
theorem addF_ro {F:Nat→Option Obj} {H:HL} (hd:∀ p ∈ H,F p.1=none) {b:Nat} {o:Obj} (h:F b=some o):addF F H b=some o:=by
 unfold addF
 cases hf:H.find? (fun p=>p.1 == b) with
 | none=>exact h
 | some p=>
   have h1:=List.mem_of_find?_eq_some hf
   have h2:p.1=b:=by simpa using List.find?_some hf
   have:=hd p h1
   rw [h2,h] at this
   cases this
theorem In.focus {F:Nat→Option Obj} {H Hr:HL} {w:World} (h:In F (H++Hr) w):In (addF F Hr) H w:=by
 have hnd:=h.nd
 rw [List.map_append,List.nodup_append] at hnd
 refine ⟨hnd.1,fun p hp=>h.own p (List.mem_append_left _ hp),fun b o hb=>?_,fun p hp=>?_⟩
 · unfold addF at hb
   split at hb
   · rename_i p hf
     cases hb
     have h1:=List.mem_of_find?_eq_some hf
     have h2:p.1=b:=by simpa using List.find?_some hf
     rw [←h2]; exact h.own p (List.mem_append_right _ h1)
   · exact h.fr b o hb
 · unfold addF
   split
   · rename_i q hf
     have h1:=List.mem_of_find?_eq_some hf
     have h2:q.1=p.1:=by simpa using List.find?_some hf
     exact absurd h2.symm (hnd.2.2 p.1 (List.mem_map.2 ⟨p,hp,rfl⟩) q.1 (List.mem_map.2 ⟨q,h1,rfl⟩))
   · exact h.dj p (List.mem_append_left _ hp)
theorem In.unfocus {F:Nat→Option Obj} {H' Hr:HL} {w w':World} {H:HL} (h0:In F (H++Hr) w) (h:In (addF F Hr) H' w'):In F (H'++Hr) w':=by
 have hr:In F Hr w:=h0.right
 have key:∀ p ∈ Hr,addF F Hr p.1=some p.2:=fun p hp=>by
  unfold addF; rw [find?_of_mem hr.nd hp]
 refine ⟨?_,fun p hp=>?_,fun b o hb=>h.fr b o (addF_ro hr.dj hb),fun p hp=>?_⟩
 · rw [List.map_append,List.nodup_append]
   refine ⟨h.nd,hr.nd,fun a ha b hb e=>?_⟩
   subst e
   obtain ⟨p,hp,rfl⟩:=List.mem_map.1 ha
   obtain ⟨q,hq,he⟩:=List.mem_map.1 hb
   have h1:=h.dj p hp
   rw [←he,key q hq] at h1
   cases h1
 · rcases List.mem_append.1 hp with hp | hp
   · exact h.own p hp
   · exact h.fr _ _ (key p hp)
 · rcases List.mem_append.1 hp with hp | hp
   · have h1:=h.dj p hp
     cases hF:F p.1 with
     | none=>rfl
     | some o=>rw [addF_ro hr.dj hF] at h1; cases h1
   · exact hr.dj p hp
def RR (F:Nat→Option Obj) (w0:World) (R:Value→HL→Prop):Ending→World→Prop:=fun e w'=>∃ v H',e=.returned v∧R v H'∧In F H' w'∧Same w0 w'
def Tr (P:Program) (f:FuncId) (args:Array Value) (F:Nat→Option Obj) (H:HL) (R:Value→HL→Prop):Prop:=
 ∀ w,In F H w→Calls P f args w (RR F w R)
theorem Tr.mono {P:Program} {f:FuncId} {args:Array Value} {F:Nat→Option Obj} {H:HL} {R R':Value→HL→Prop} (h:Tr P f args F H R) (hr:∀ v H',R v H'→R' v H'):Tr P f args F H R':=
 fun w hw=>(h w hw).mono fun _ _ ⟨v,H',he,hR,hi,hs⟩=>⟨v,H',he,hr v H' hR,hi,hs⟩
theorem Tr.frame {P:Program} {f:FuncId} {args:Array Value} {F:Nat→Option Obj} {H Hr:HL} {R:Value→HL→Prop} (h:Tr P f args (addF F Hr) H R) {w:World} (hw:In F (H++Hr) w) :
 Calls P f args w fun e w'=>∃ v H',e=.returned v∧R v H'∧In F (H'++Hr) w'∧Same w w':=
 (h w hw.focus).mono fun _ _ ⟨v,H',he,hR,hi,hs⟩=>⟨v,H',he,hR,hw.unfocus hi,hs⟩
def argsEnv:List Value→Nat→Env
 | [],_=>[]
 | v::r,i=>(i,v)::argsEnv r (i+1)
theorem look_argsEnv (l:List Value) (i t:Nat) (v:Value) (h:look (argsEnv l i) t=some v):i≤t∧l[t - i]? = some v:=by
 induction l generalizing i with
 | nil=>simp [argsEnv,look] at h
 | cons u r ih=>
   rw [argsEnv,look_cons] at h
   by_cases hk:i=t
   · subst hk; simp at h; subst h; simp
   · simp only [if_neg hk] at h
     obtain ⟨h1,h2⟩:=ih (i+1) h
     refine ⟨by omega,?_⟩
     have:t - i=(t - (i+1))+1:=by omega
     rw [this]; simpa using h2
theorem Tr.enter {P:Program} {f:FuncId} {fn:Func} {c:Code} {n:Nat} {vals:List Value} {F:Nat→Option Obj} {H:HL} {R:Value→HL→Prop}
 (hf:P.funcs[f]? = some fn) (hb:fn.body=some c) (hn:fn.ntmps=n) (hl:Nat.ble vals.length n=true)
 (h:∀ w0,W ⟨P,n,w0,F,none,[]⟩ (bodyPost P fn (RR F w0 R)) c (argsEnv vals 0) H):Tr P f vals.toArray F H R:=by
 intro w hw
 refine calls_of_wp hf hb (wpIn_wide.1 ((h w).run _ w ⟨⟨?_,rfl,fun t v hv=>?_⟩,hw,Same.refl w⟩))
 · have:=Nat.le_of_ble_eq_true hl
   simp [hn]; omega
 · obtain ⟨_,h2⟩:=look_argsEnv vals 0 t v hv
   simp only [Nat.sub_zero] at h2
   have hlt:t < vals.length:=(List.getElem?_eq_some_iff.1 h2).1
   rw [Array.getElem?_append_left (by simpa using hlt)]
   simpa using h2
theorem Fin.ret_tmp {x:Cx} {fn:Func} {R:Value→HL→Prop} {env:Env} {H:HL} {t:Nat} {v:Value} (hr:fn.results = #[.tmp t]) (hv:look env t=some v) (h:R v H) (hd:x.df=[]:=by rfl):Fin x (bodyPost x.P fn (RR x.F x.w0 R)) .ret env H:=
 ⟨fun a w s=>⟨s.ev.defers.trans hd,v,by have:=s.ev.env t v hv; simp [results,hr,this],v,H,rfl,h,s.hin,s.same⟩⟩
theorem wp_loop_ghost {F:Fence} {m:Nat} {P:Program} {Q:Post} {c:Code} {G:Type} (I:G→Act→World→Prop) (μ:G→Nat) (round:∀ g a w,I g a w→c.wpIn F m P (Exit.then (fun a' w'=>∃ g',I g' a' w'∧μ g' < μ g) Q) a w) :
 ∀ g a w,I g a w→(Code.loop c).wpIn F m P Q a w:=by
 intro g a w h0 b k cs hro hb hr
 have key:∀ n g a w,μ g=n→I g a w→∃ e a' w',Q e a' w'∧ArrivesIn (Machine.fenced P F) P (lone (b.atR a (.code c::.inLoop c::k)) cs w) b k cs e a' w':=by
  intro n
  induction n using Nat.strongRecOn with
  | _ n ih=>
    intro g a w hn hI
    obtain ⟨e,a₁,w₁,hq,harr⟩:=round g a w hI b (.inLoop c::k) cs hro hb hr
    cases e with
    | normal=>
      obtain ⟨g',hI₁,hlt⟩:=hq
      obtain ⟨e₂,a₂,w₂,hq₂,harr₂⟩:=ih (μ g') (hn ▸ hlt) g' a₁ w₁ rfl hI₁
      exact ⟨e₂,a₂,w₂,hq₂,.of_steps (StepsIn.trans harr (.one (fenced_calm hb hr rfl) stepR_inLoop)) harr₂⟩
    | exit id=>exact ⟨_,a₁,w₁,hq,.pass (x:=.inLoop c) rfl (fun _ _=>.inl (by simp)) harr⟩
    | goto l=>exact ⟨_,a₁,w₁,hq,.pass (x:=.inLoop c) rfl (fun _ _=>.inl (by simp)) harr⟩
    | ret=>exact ⟨_,a₁,w₁,hq,.pass (x:=.inLoop c) rfl (fun _ _=>.inl (by simp)) harr⟩
    | panic ch=>exact ⟨_,a₁,w₁,hq,.pass (x:=.inLoop c) rfl (fun _ _=>.inl (by simp)) harr⟩
    | outgrown=>exact ⟨_,a₁,w₁,hq,.pass (x:=.inLoop c) rfl (fun _ _=>.inl (by simp)) harr⟩
 obtain ⟨e,a',w',hq,harr⟩:=key _ g a w rfl h0
 exact ⟨e,a',w',hq,.of_steps (.one (fenced_calm hb hr rfl) stepR_loop) harr⟩
theorem W.loop {x:Cx} {K:Post} {env:Env} {H:HL} {c:Code} {G:Type} (E:G→Env) (Hp:G→HL) (ok:G→Prop) (μ:G→Nat) (g0:G) (h0:ok g0)
 (he:∀ t v,look (E g0) t=some v→look env t=some v) (hH:∀ w,In x.F H w→In x.F (Hp g0) w)
 (round:∀ g,ok g→W x (Exit.then (fun a w=>∃ g',ok g'∧St x (E g') (Hp g') a w∧μ g' < μ g) K) c (E g) (Hp g)):W x K (.loop c) env H:=
 ⟨fun a w s=>wp_loop_ghost (fun g a w=>ok g∧St x (E g) (Hp g) a w) μ
  (fun g a w ⟨hk,hs⟩=>Code.wpIn_mono (fun e a w q=>by
   cases e with
   | normal=>obtain ⟨g',h1,h2,h3⟩:=q; exact ⟨g',⟨h1,h2⟩,h3⟩
   | _=>exact q) ((round g hk).run a w hs)) g0 a w ⟨h0,s.ev.sub he,hH w s.hin,s.same⟩⟩
theorem Fin.round {x:Cx} {K:Post} {env:Env} {H:HL} {G:Type} {E:G→Env} {Hp:G→HL} {ok:G→Prop} {μ:G→Nat} {n:Nat} (g':G) (h0:ok g')
 (he:∀ t v,look (E g') t=some v→look env t=some v) (hH:∀ w,In x.F H w→In x.F (Hp g') w) (hm:μ g' < n) :
 Fin x (Exit.then (fun a w=>∃ g',ok g'∧St x (E g') (Hp g') a w∧μ g' < n) K) .normal env H:=
 ⟨fun _ w s=>⟨g',h0,⟨s.ev.sub he,hH w s.hin,s.same⟩,hm⟩⟩
def subEnv (small big:Env):Prop:=∀ p ∈ small,look big p.1=some p.2
theorem sub_of {small big:Env} (h:subEnv small big):∀ t v,look small t=some v→look big t=some v:=by
 intro t v hv
 have:∀ (l:Env),look l t=some v→(t,v) ∈ l:=by
  intro l
  induction l with
  | nil=>intro h; simp [look] at h
  | cons p l ih=>
    obtain ⟨k,u⟩:=p
    intro h
    rw [look_cons] at h
    by_cases hk:k=t
    · subst hk; simp at h; subst h; exact List.mem_cons_self
    · simp only [if_neg hk] at h; exact List.mem_cons_of_mem _ (ih h)
 exact h _ (this small hv)
theorem subEnv.nil {big:Env}:subEnv [] big:=fun _ h=>nomatch h
theorem subEnv.cons {t:Nat} {v:Value} {s big:Env} (h:look big t=some v) (hs:subEnv s big):subEnv ((t,v)::s) big:=fun p hp=>by
 cases hp with
 | head=>exact h
 | tail _ hp=>exact hs p hp
end Go.Sl
namespace Go.Sl
open Go
def Yr (P:Program) (R:Value→World→Prop):Result Next→Prop
 | .ok (.value v) w=>R v w
 | .ok .skip w=>R undef w
 | .ok (.enter f args) w=>Calls P f args w (fun e w'=>∃ v,e=.returned v∧R v w')
 | .ok (.round l f tmps as bd) w=>RoundIn Fence.wide 0 P l f tmps as bd w (fun e w'=>∃ v,e=.returned v∧R v w')
 | _=>False
def yields (P:Program) (o:Oper) (a:Act) (w:World) (R:Value→World→Prop):Prop:=Yr P R ((execOp a.eval o).run P w)
theorem Yr.mono {P:Program} {R R':Value→World→Prop} (h:∀ v w,R v w→R' v w) {r:Result Next} (hy:Yr P R r):Yr P R' r:=by
 cases r with
 | ok n w=>
   cases n <;> simp only [Yr] at hy ⊢ <;> first
    | exact h _ _ hy
    | exact Calls.mono hy (fun e w' ⟨v,he,hR⟩=>⟨v,he,h v w' hR⟩)
    | exact RoundIn.mono hy (fun e w' ⟨v,he,hR⟩=>⟨v,he,h v w' hR⟩)
 | halt y w=>simp only [Yr] at hy
theorem Yr.ex {P:Program} {R:Value→World→Prop} {r:Result Next} (hy:Yr P R r):∃ v w,R v w:=by
 cases r with
 | ok n w=>
   cases n <;> simp only [Yr] at hy <;> first
    | exact ⟨_,_,hy⟩
    | (obtain ⟨e,w',fr,⟨v,he,hR⟩,_⟩:=hy []; exact ⟨v,w',hR⟩)
    | (obtain ⟨e,w',⟨v,he,hR⟩,_⟩:=hy.2 default [] (fun _ h=>by cases h); exact ⟨v,w',hR⟩)
 | halt y w=>simp only [Yr] at hy
structure Pu (x:Cx) (env:Env) (o:Oper) (v:Value):Prop where
 run:∀ a,Ev x env a→∀ w,(execOp a.eval o).run x.P w=.ok (.value v) w
structure Rd (x:Cx) (env:Env) (H:HL) (o:Oper) (v:Value):Prop where
 run:∀ a w,Ev x env a→In x.F H w→(execOp a.eval o).run x.P w=.ok (.value v) w
structure Ef (x:Cx) (env:Env) (H:HL) (o:Oper) (R:Value→HL→Prop):Prop where
 run:∀ a w,Ev x env a→In x.F H w→yields x.P o a w (fun v w'=>∃ H',R v H'∧In x.F H' w'∧Same w w')
theorem Pu.rd {x:Cx} {env:Env} {H:HL} {o:Oper} {v:Value} (h:Pu x env o v):Rd x env H o v:=⟨fun a w he _=>h.run a he w⟩
theorem yields_of_run {P:Program} {o:Oper} {a:Act} {w w':World} {R:Value→World→Prop} {v:Value} (hr:(execOp a.eval o).run P w=.ok (.value v) w') (h:R v w'):yields P o a w R:=by
 unfold yields; rw [hr]; exact h
theorem yields_of_skip {P:Program} {o:Oper} {a:Act} {w w':World} {R:Value→World→Prop} (hr:(execOp a.eval o).run P w=.ok .skip w') (h:R undef w'):yields P o a w R:=by
 unfold yields; rw [hr]; exact h
section
variable {x:Cx} {K:Post} {env:Env} {H:HL} {ops:Array Oper} {rest:List Oper}
theorem semAt_yields {P:Program} {rd:Option Nat} {o:Oper} {a:Act} {w:World} {R:Value→World→Prop} (hy:yields P o a w R):o.semAt (fenceR rd).round a.eval=execOp a.eval o:=by
 cases hr:(fenceR rd).round with
 | none=>rfl
 | some l=>
   refine Oper.semAt_some l a.eval o (fun c hc=>?_)
   obtain ⟨dst,op,ty,pos,aft,gd⟩:=o
   simp only at hc
   subst hc
   unfold yields at hy
   simp only [execOp,Sem.run_bind] at hy
   cases hd:(resolve a.eval c ty).run P w with
   | ok d w'=>rw [hd] at hy; exact hy
   | halt y w'=>rw [hd] at hy; exact hy
theorem wpIn_of_yields {P:Program} {rd:Option Nat} {o:Oper} {a:Act} {w:World} {K':Act→World→Prop} {Q:Post} {R:Value→World→Prop} (hy:yields P o a w R) (h:∀ v w',R v w'→K' (a.put o.dst v) w'):o.wpIn (fenceR rd) 0 P a w K' Q:=by
 refine ⟨fun _ _=>trivial,?_⟩
 rw [semAt_yields hy]
 unfold yields at hy
 generalize (execOp a.eval o).run P w=r at hy ⊢
 cases r with
 | ok n w'=>
   cases n <;> simp only [Yr] at hy <;> simp only [Oper.uponIn] <;> first
    | exact h _ _ hy
    | exact ⟨(fun h=>by cases h),(callsIn_wide (n:=0 - 1)).2 (Calls.mono hy (fun e w'' ⟨v,he,hR⟩=>by subst he; exact h v w'' hR))⟩
    | exact ⟨(fun h=>by cases h),RoundIn.mono (F:=Fence.wide) (n:=0) hy (fun e w'' ⟨v,he,hR⟩=>by subst he; exact h v w'' hR)⟩
 | halt y w'=>simp only [Yr] at hy
theorem wpList_yields {o:Oper} {a:Act} {w:World} (hg:o.guard=none) {R:Value→World→Prop} (hy:yields x.P o a w R) (h:∀ v w',R v w'→wpListIn x.fc 0 x.P ops K rest (a.put o.dst v) w'):wpListIn x.fc 0 x.P ops K (o::rest) a w:=
 wpListIn_plain hg fun _ hK=>wpIn_of_yields hy fun v w' hR=>hK _ _ (h v w' hR)
theorem WL.p {d:Nat} {op:Op} {ty:TypeId} {pos:String} {aft:Array Edge} {v:Value} (hn:Nat.blt d x.n=true) (h:Pu x env ⟨some d,op,ty,pos,aft,none⟩ v) (next:WL x K ops rest ((d,v)::env) H) :
 WL x K ops (⟨some d,op,ty,pos,aft,none⟩::rest) env H:=⟨fun a w s=>
 wpList_yields rfl (R:=fun u w'=>u=v∧w'=w) (yields_of_run (h.run a s.ev w) ⟨rfl,rfl⟩) (by
  rintro u w' ⟨rfl,rfl⟩
  exact next.run _ _ ⟨s.ev.put (Nat.le_of_ble_eq_true hn) u,s.hin,s.same⟩)⟩
theorem WL.s {d:Nat} {op:Op} {ty:TypeId} {pos:String} {aft:Array Edge} {v:Value} (hn:Nat.blt d x.n=true) (h:Rd x env H ⟨some d,op,ty,pos,aft,none⟩ v) (next:WL x K ops rest ((d,v)::env) H) :
 WL x K ops (⟨some d,op,ty,pos,aft,none⟩::rest) env H:=⟨fun a w s=>
 wpList_yields rfl (R:=fun u w'=>u=v∧w'=w) (yields_of_run (h.run a w s.ev s.hin) ⟨rfl,rfl⟩) (by
  rintro u w' ⟨rfl,rfl⟩
  exact next.run _ _ ⟨s.ev.put (Nat.le_of_ble_eq_true hn) u,s.hin,s.same⟩)⟩
theorem WL.e {d:Nat} {op:Op} {ty:TypeId} {pos:String} {aft:Array Edge} {R:Value→HL→Prop} (hn:Nat.blt d x.n=true) (h:Ef x env H ⟨some d,op,ty,pos,aft,none⟩ R) (next:∀ v H',R v H'→WL x K ops rest ((d,v)::env) H') :
 WL x K ops (⟨some d,op,ty,pos,aft,none⟩::rest) env H:=⟨fun a w s=>
 wpList_yields rfl (h.run a w s.ev s.hin) (by
  rintro u w' ⟨H',hR,hi,hs⟩
  exact (next u H' hR).run _ _ ⟨s.ev.put (Nat.le_of_ble_eq_true hn) u,hi,s.same.trans hs⟩)⟩
theorem WL.e0 {op:Op} {ty:TypeId} {pos:String} {aft:Array Edge} {R:Value→HL→Prop} (h:Ef x env H ⟨none,op,ty,pos,aft,none⟩ R) (next:∀ v H',R v H'→WL x K ops rest env H') :
 WL x K ops (⟨none,op,ty,pos,aft,none⟩::rest) env H:=⟨fun a w s=>
 wpList_yields rfl (h.run a w s.ev s.hin) (by
  rintro u w' ⟨H',hR,hi,hs⟩
  exact (next u H' hR).run _ _ ⟨s.ev,hi,s.same.trans hs⟩)⟩
def gslot (ops:Array Oper) (j:Nat):Option Nat:=(ops[j]?).bind (·.dst)
theorem yielded_of {a:Act} (he:Ev x env a) {j t:Nat} {v:Value} (hj:gslot ops j=some t) (hv:look env t=some v):yielded ops a.tmps j=(match v with | .bool b=>some b | _=>none):=by
 have hj':(ops[j]?).bind (·.dst)=some t:=hj
 have:=he.env t v hv
 unfold yielded
 rw [hj']
 simp only [Option.bind_some,this]
 cases v <;> rfl
theorem WL.g_yes {dst:Option Nat} {op:Op} {ty:TypeId} {pos:String} {aft:Array Edge} {j t:Nat} {b:Bool} (hj:gslot ops j=some t) (hv:look env t=some (.bool b))
 (next:WL x K ops (⟨dst,op,ty,pos,aft,none⟩::rest) env H):WL x K ops (⟨dst,op,ty,pos,aft,some (j,b)⟩::rest) env H:=⟨fun a w s=>by
 have h:=next.run a w s
 have hw:Region.wanted ⟨dst,op,ty,pos,aft,some (j,b)⟩ (yielded ops a.tmps)=true:=by simp [Region.wanted,yielded_of s.ev hj hv]
 unfold wpListIn at h ⊢
 rw [if_pos (by simp [Region.wanted])] at h
 rw [if_pos hw]
 exact h⟩
theorem WL.g_no {d:Nat} {op:Op} {ty:TypeId} {pos:String} {aft:Array Edge} {j t:Nat} {b c:Bool} (hn:Nat.blt d x.n=true) (hj:gslot ops j=some t) (hv:look env t=some (.bool c)) (hc:c=!b)
 (next:WL x K ops rest ((d,undef)::env) H):WL x K ops (⟨some d,op,ty,pos,aft,some (j,b)⟩::rest) env H:=⟨fun a w s=>by
 have hw:Region.wanted ⟨some d,op,ty,pos,aft,some (j,b)⟩ (yielded ops a.tmps)=false:=by
  simp only [Region.wanted,yielded_of s.ev hj hv,hc]; cases b <;> rfl
 unfold wpListIn
 rw [if_neg (by simp [hw])]
 exact ⟨fun _ _=>trivial,next.run _ _ ⟨s.ev.put (Nat.le_of_ble_eq_true hn) undef,s.hin,s.same⟩⟩⟩
theorem WL.g_undef {d:Nat} {op:Op} {ty:TypeId} {pos:String} {aft:Array Edge} {j t:Nat} {b:Bool} (hn:Nat.blt d x.n=true) (hj:gslot ops j=some t) (hv:look env t=some undef)
 (next:WL x K ops rest ((d,undef)::env) H):WL x K ops (⟨some d,op,ty,pos,aft,some (j,b)⟩::rest) env H:=⟨fun a w s=>by
 have hw:Region.wanted ⟨some d,op,ty,pos,aft,some (j,b)⟩ (yielded ops a.tmps)=false:=by
  simp only [Region.wanted,yielded_of s.ev hj hv]; rfl
 unfold wpListIn
 rw [if_neg (by simp [hw])]
 exact ⟨fun _ _=>trivial,next.run _ _ ⟨s.ev.put (Nat.le_of_ble_eq_true hn) undef,s.hin,s.same⟩⟩⟩
theorem WL.split {l:List Oper} {t:Nat} {b:Bool} (hv:look env t=some (.bool b)) (h1:b=true→WL x K ops l ((t,.bool true)::env) H) (h2:b=false→WL x K ops l ((t,.bool false)::env) H):WL x K ops l env H:=⟨fun a w s=>by
 have key:∀ c,b=c→St x ((t,.bool c)::env) H a w:=fun c hc=>⟨⟨s.ev.size,s.ev.defers,fun u v hu=>by
  rw [look_cons] at hu
  by_cases hk:t=u
  · subst hk; simp at hu; subst hu; rw [←hc]; exact s.ev.env t _ hv
  · simp only [if_neg hk] at hu; exact s.ev.env u v hu⟩,s.hin,s.same⟩
 cases hb:b with
 | true=>exact (h1 hb).run a w (key true hb)
 | false=>exact (h2 hb).run a w (key false hb)⟩
end
theorem WL.g_split {x:Cx} {K:Post} {env:Env} {H:HL} {ops:Array Oper} {rest:List Oper} {dst:Option Nat} {op:Op} {ty:TypeId} {pos:String} {aft:Array Edge} {j t:Nat} {b c:Bool} (hj:gslot ops j=some t) (hv:look env t=some (.bool c))
 (h1:c=true→WL x K ops (⟨dst,op,ty,pos,aft,some (j,b)⟩::rest) ((t,.bool true)::env) H) (h2:c=false→WL x K ops (⟨dst,op,ty,pos,aft,some (j,b)⟩::rest) ((t,.bool false)::env) H) :
 WL x K ops (⟨dst,op,ty,pos,aft,some (j,b)⟩::rest) env H:=have:=hj; WL.split hv h1 h2
inductive Foc (b:Nat) (o:Obj):HL→(Obj→HL)→Prop
 | here (H:HL):Foc b o ((b,o)::H) (fun o'=>(b,o')::H)
 | there (p:Nat × Obj) {H:HL} {k:Obj→HL}:Foc b o H k→Foc b o (p::H) (fun o'=>p::k o')
 | left {H1 H2:HL} {k:Obj→HL}:Foc b o H1 k→Foc b o (H1++H2) (fun o'=>k o'++H2)
 | right {H1 H2:HL} {k:Obj→HL}:Foc b o H2 k→Foc b o (H1++H2) (fun o'=>H1++k o')
theorem Foc.split {b:Nat} {o:Obj} {H:HL} {k:Obj→HL} (h:Foc b o H k):∃ H1 H2,H=H1++(b,o)::H2∧∀ o',k o'=H1++(b,o')::H2:=by
 induction h with
 | here H=>exact ⟨[],H,rfl,fun _=>rfl⟩
 | there p _ ih=>obtain ⟨H1,H2,h1,h2⟩:=ih; exact ⟨p::H1,H2,by rw [h1]; rfl,fun o'=>by show p::_=_; rw [h2]; rfl⟩
 | @left A B _ _ ih=>obtain ⟨H1,H2,h1,h2⟩:=ih; exact ⟨H1,H2++B,by rw [h1]; simp,fun o'=>by show _++B=_; rw [h2]; simp⟩
 | @right A B _ _ ih=>obtain ⟨H1,H2,h1,h2⟩:=ih; exact ⟨A++H1,H2,by rw [h1]; simp,fun o'=>by show A++_=_; rw [h2]; simp⟩
theorem Foc.heap {b:Nat} {o:Obj} {H:HL} {k:Obj→HL} (h:Foc b o H k) {F:Nat→Option Obj} {w:World} (hi:In F H w):w.heap[b]? = some o:=by
 obtain ⟨H1,H2,rfl,_⟩:=h.split
 exact hi.own (b,o) (by simp)
structure Upd (w w':World) (b:Nat) (o:Obj):Prop where
 same:Same w w'
 this:w'.heap[b]? = some o
 other:∀ k,k≠b→w'.heap[k]? = w.heap[k]?
theorem In.upd {b:Nat} {o o':Obj} {H:HL} {k:Obj→HL} (h:Foc b o H k) {F:Nat→Option Obj} {w w':World} (hi:In F H w) (hu:Upd w w' b o'):In F (k o') w':=by
 obtain ⟨H1,H2,rfl,hk⟩:=h.split
 rw [hk]
 have hnd:=hi.nd
 simp only [List.map_append,List.map_cons] at hnd
 have hF:F b=none:=hi.dj (b,o) (by simp)
 refine ⟨by simpa using hnd,fun p hp=>?_,fun c oc hc=>?_,fun p hp=>?_⟩
 · rw [List.nodup_append] at hnd
   obtain ⟨_,hb,hne⟩:=hnd
   rw [List.nodup_cons] at hb
   have ho:∀ p ∈ H1++H2,p.1≠b:=fun p hp e=>by
    rcases List.mem_append.1 hp with h1 | h1
    · exact hne p.1 (List.mem_map.2 ⟨p,h1,rfl⟩) b (by simp) e
    · exact hb.1 (List.mem_map.2 ⟨p,h1,e⟩)
   rcases List.mem_append.1 hp with h1 | h1
   · rw [hu.other _ (ho p (List.mem_append_left _ h1))]; exact hi.own p (by simp [h1])
   · cases h1 with
     | head=>exact hu.this
     | tail _ h1=>rw [hu.other _ (ho p (List.mem_append_right _ h1))]; exact hi.own p (List.mem_append_right _ (List.mem_cons_of_mem _ h1))
 · have hne:c≠b:=fun e=>by subst e; rw [hF] at hc; cases hc
   rw [hu.other c hne]; exact hi.fr c oc hc
 · rcases List.mem_append.1 hp with h1 | h1
   · exact hi.dj p (by simp [h1])
   · cases h1 with
     | head=>exact hF
     | tail _ h1=>exact hi.dj p (List.mem_append_right _ (List.mem_cons_of_mem _ h1))
theorem In.fresh {F:Nat→Option Obj} {H:HL} {w w':World} {b:Nat} {o:Obj} (hi:In F H w) (hb:w.heap.size≤b) (ho:w'.heap[b]? = some o) (hold:∀ k,k < w.heap.size→w'.heap[k]? = w.heap[k]?):In F ((b,o)::H) w':=by
 have hlt:∀ k (o:Obj),w.heap[k]? = some o→k < w.heap.size:=fun k o h=>(Array.getElem?_eq_some_iff.1 h).1
 refine ⟨?_,fun p hp=>?_,fun c oc hc=>?_,fun p hp=>?_⟩
 · simp only [List.map_cons,List.nodup_cons]
   refine ⟨fun hm=>?_,hi.nd⟩
   obtain ⟨p,hp,he⟩:=List.mem_map.1 hm
   have:=hlt _ _ (hi.own p hp)
   omega
 · cases hp with
   | head=>exact ho
   | tail _ hp=>rw [hold _ (hlt _ _ (hi.own p hp))]; exact hi.own p hp
 · have:=hi.fr c oc hc
   rw [hold _ (hlt _ _ this)]; exact this
 · cases hp with
   | head=>
     cases hF:F b with
     | none=>rfl
     | some q=>have:=hlt _ _ (hi.fr b q hF); omega
   | tail _ hp=>exact hi.dj p hp
theorem In.alloc {F:Nat→Option Obj} {H:HL} {w:World} (hi:In F H w) (o:Obj):In F ((w.heap.size,o)::H) (w.alloc o):=
 hi.fresh (Nat.le_refl _) (by show (w.heap.push o)[w.heap.size]? = _; simp) (fun k hk=>by show (w.heap.push o)[k]? = _; rw [Array.getElem?_push,if_neg (by omega)])
theorem Same.alloc (w:World) (o:Obj):Same w (w.alloc o):=⟨rfl,rfl,rfl,by show _≤(w.heap.push o).size; simp,.of (Nat.le_refl _)⟩
theorem Upd.setRow {w:World} {b:Nat} {old c:Array Value} {T:TypeId} {fr:Nat × Nat} (h:w.heap[b]? = some (.cells old T fr)):Upd w (w.setRow b c) b (.cells c T fr):=
 ⟨⟨rfl,rfl,rfl,by simp,.of (Nat.le_refl _)⟩,setRow_heap w b old c T fr h,fun k hk=>setRow_other w b k c hk⟩
def takeK:Nat→List Value→(List Value→Option (List Value))→Option (List Value)
 | 0,_,k=>k []
 | _+1,[],_=>none
 | n+1,x::xs,k=>takeK n xs (fun r=>k (x::r))
def dropK:Nat→List Value→(List Value→Option (List Value))→Option (List Value)
 | 0,l,k=>k l
 | _+1,[],_=>none
 | n+1,_::xs,k=>dropK n xs k
def cut (l:List Value) (off n:Nat):Option (List Value):=dropK off l (fun l'=>takeK n l' some)
def spliceK:List Value→Nat→List Value→(List Value→Option (List Value))→Option (List Value)
 | l,0,[],k=>k l
 | _x::l,0,v::vs,k=>spliceK l 0 vs (fun r=>k (v::r))
 | [],0,_::_,_=>none
 | x::l,n+1,vs,k=>spliceK l n vs (fun r=>k (x::r))
 | [],_+1,_,_=>none
theorem takeK_eq (n:Nat) (l:List Value) (k:List Value→Option (List Value)):takeK n l k=if n≤l.length then k (l.take n) else none:=by
 induction n generalizing l k with
 | zero=>simp [takeK]
 | succ n ih=>
   cases l with
   | nil=>simp [takeK]
   | cons x xs=>simp [takeK,ih]
theorem dropK_eq (n:Nat) (l:List Value) (k:List Value→Option (List Value)):dropK n l k=if n≤l.length then k (l.drop n) else none:=by
 induction n generalizing l k with
 | zero=>simp [dropK]
 | succ n ih=>
   cases l with
   | nil=>simp [dropK]
   | cons x xs=>simp [dropK,ih]
theorem cut_eq {l:List Value} {off n:Nat} {r:List Value} (h:cut l off n=some r):r=(l.drop off).take n∧off+n≤l.length:=by
 unfold cut at h
 rw [dropK_eq] at h
 by_cases h1:off≤l.length
 · rw [if_pos h1,takeK_eq] at h
   by_cases h2:n≤(l.drop off).length
   · rw [if_pos h2] at h
     simp at h h2
     exact ⟨h.symm,by omega⟩
   · rw [if_neg h2] at h; cases h
 · rw [if_neg h1] at h; cases h
theorem spliceK_eq (l:List Value) (n:Nat) (vs:List Value) (k:List Value→Option (List Value)):spliceK l n vs k=if n+vs.length≤l.length then k (l.take n++vs++l.drop (n+vs.length)) else none:=by
 induction n generalizing l vs k with
 | zero=>
   induction vs generalizing l k with
   | nil=>simp [spliceK]
   | cons v vs ih=>
     cases l with
     | nil=>simp [spliceK]
     | cons x l=>rw [spliceK,ih]; simp [Nat.add_comm]
 | succ n ih=>
   cases l with
   | nil=>simp [spliceK]
   | cons x l=>
     rw [spliceK,ih]
     have e:n+1+vs.length=(n+vs.length)+1:=by omega
     simp [e]
theorem splice_eq {l:List Value} {n:Nat} {vs r:List Value} (h:spliceK l n vs some=some r):r=l.take n++vs++l.drop (n+vs.length)∧n+vs.length≤l.length:=by
 rw [spliceK_eq] at h
 by_cases h1:n+vs.length≤l.length
 · rw [if_pos h1] at h; simp at h; exact ⟨by rw [←h]; simp,h1⟩
 · rw [if_neg h1] at h; cases h
def scalB (P:Program) (T:TypeId):Bool:=
 (match P.underlying T with | some (.struct _) | some (.array _ _) | none=>false | _=>true) && (P.info? T).map (·.size) == some 1
def aggS (P:Program) (T:TypeId):Option Nat:=
 match P.underlying T with | some (.struct _) | some (.array _ _)=>(P.info? T).map (·.size) | _=>none
def fldO (P:Program) (T i:Nat):Option Nat:=
 match P.underlying T with
 | some (.struct fs)=>match fs[i]? with
   | some f=>match P.info? f.type with
     | some inf=>if inf.size=0 then none else some f.offset
     | none=>none
   | none=>none
 | _=>none
def fldV (P:Program) (T i:Nat):Option (Nat × Bool × Nat):=
 match P.underlying T with
 | some (.struct fs)=>match fs[i]? with
   | some f=>match P.underlying f.type,P.info? f.type with
     | some (.struct _),some inf | some (.array _ _),some inf=>some (f.offset,true,inf.size)
     | some _,some inf=>some (f.offset,false,inf.size)
     | _,_=>none
   | none=>none
 | _=>none
class IntT (P:Program) (T:TypeId) (k:outParam IntKind):Prop where h:P.underlying T=some (.int k)
class BoolT (P:Program) (T:TypeId):Prop where h:P.underlying T=some .bool
class StrT (P:Program) (T:TypeId):Prop where h:P.underlying T=some .string
class PtrT (P:Program) (T:TypeId):Prop where h:∃ e,P.underlying T=some (.pointer e)
class ScalT (P:Program) (T:TypeId):Prop where h:scalB P T=true
class AggT (P:Program) (T:TypeId) (n:outParam Nat):Prop where h:aggS P T=some n
class FldT (P:Program) (T i:Nat) (off:outParam Nat):Prop where h:fldO P T i=some off
class FldV (P:Program) (T i:Nat) (off:outParam Nat) (agg:outParam Bool) (sz:outParam Nat):Prop where h:fldV P T i=some (off,agg,sz)
class ZeroT (P:Program) (T:TypeId) (z:outParam (List Value)):Prop where h:((P.info? T).bind (·.zero)).map (·.cells)=some z.toArray
class MapT (P:Program) (T:TypeId) (k:outParam TypeId) (e:outParam TypeId):Prop where h:P.underlying T=some (.map k e)
class ArrT (P:Program) (T:TypeId) (n:outParam Nat) (e:outParam TypeId) (sz:outParam Nat):Prop where
 h:P.underlying T=some (.array n e)
 i:(P.info? e).map (·.size)=some sz
class SliceT (P:Program) (T:TypeId) (e:outParam TypeId) (sz:outParam Nat) (by_:outParam Nat):Prop where
 h:P.underlying T=some (.slice e)
 i:(P.info? e).map (fun i=>(i.size,i.bytes))=some (sz,by_)
def bodyB (P:Program) (f:FuncId):Bool:=match P.funcs[f]? with | some fn=>!(fn.name == "runtime.NumGoroutine") && fn.body.isSome | none=>false
class Body (P:Program) (f:FuncId):Prop where h:bodyB P f=true
theorem info_of_map {P:Program} {T n:Nat} (h:(P.info? T).map (·.size)=some n):∃ i,P.info? T=some i∧i.size=n:=by
 cases hi:P.info? T with
 | none=>simp [hi] at h
 | some i=>exact ⟨i,rfl,by simpa [hi] using h⟩
theorem run_isAgg_scal {P:Program} {T:TypeId} (h:scalB P T=true) (w:World):(isAgg T).run P w=.ok false w:=by
 unfold scalB at h
 rw [Bool.and_eq_true] at h
 unfold isAgg
 cases hu:P.underlying T with
 | none=>simp [hu] at h
 | some d=>
   rw [Sem.run_bind,run_underlying hu w]
   rw [hu] at h
   cases d <;> simp_all
theorem run_isAgg_agg {P:Program} {T n:Nat} (h:aggS P T=some n) (w:World):(isAgg T).run P w=.ok true w:=by
 unfold aggS at h
 unfold isAgg
 cases hu:P.underlying T with
 | none=>simp [hu] at h
 | some d=>
   rw [Sem.run_bind,run_underlying hu w]
   rw [hu] at h
   cases d <;> simp_all
theorem aggS_info {P:Program} {T n:Nat} (h:aggS P T=some n):∃ i,P.info? T=some i∧i.size=n:=by
 unfold aggS at h
 split at h
 · exact info_of_map h
 · exact info_of_map h
 · cases h
theorem run_loadVar_scal {P:Program} {T:TypeId} (h:scalB P T=true) {w:World} {a:Addr} {v:Value} (hc:w.cell? a=some v):(loadVar T a).run P w=.ok v w:=by
 unfold loadVar
 simp [run_isAgg_scal h w,hc]
theorem run_loadVar_agg {P:Program} {T n:Nat} (h:aggS P T=some n) {w:World} {b off:Nat} {l r:List Value} {T':TypeId} {fr:Nat × Nat} (hg:w.heap[b]? = some (.cells l.toArray T' fr)) (hc:cut l off n=some r) :
 (loadVar T ⟨b,off,none⟩).run P w=.ok (.agg r.toArray) w:=by
 obtain ⟨i,hi,hs⟩:=aggS_info h
 obtain ⟨hr,hle⟩:=cut_eq hc
 have hlen:r.length=n:=by rw [hr]; simp; omega
 have hl:=run_loadCells_list (P:=P) w ⟨b,off,none⟩ r (fun j v hv=>by
  have hadd:(⟨b,off,none⟩:Addr).add j=⟨b,off+j,none⟩:=by unfold Addr.add; split <;> simp_all
  rw [hadd,cell_of_row w b (off+j) l.toArray T' fr hg]
  rw [hr,List.getElem?_take] at hv
  split at hv
  · simpa using hv
  · cases hv)
 rw [hlen] at hl
 unfold loadVar
 simp [run_isAgg_agg h w,sizeOf,typeInfo,hi,hs,hl]
theorem scalB_info {P:Program} {T:TypeId} (h:scalB P T=true):∃ i,P.info? T=some i∧i.size=1:=by
 unfold scalB at h
 rw [Bool.and_eq_true] at h
 exact info_of_map (by simpa using h.2)
theorem run_storeVar_at {P:Program} {T:TypeId} {w:World} {b off:Nat} {l r:List Value} {T':TypeId} {v:Value} (hi:∃ i,P.info? T=some i∧i.size=v.cells.size) (hg:w.heap[b]? = some (.cells l.toArray T' (0,0)))
 (h1:v.cells.toList.all (·.oneCell')=true) (hc:spliceK l off v.cells.toList some=some r):(storeVar T ⟨b,off,none⟩ v).run P w=.ok () (w.setRow b r.toArray):=by
 obtain ⟨i,hi,hs⟩:=hi
 obtain ⟨hr,hle⟩:=splice_eq hc
 have hst:=run_storeCells_at P b off T' v.cells.toList 0 l.toArray w hg (by simpa using hle) (fun u hu=>by simpa using List.all_eq_true.1 h1 u hu)
 unfold storeVar
 simp only [Nat.add_zero] at hst
 simp [sizeOf,typeInfo,hi,hs,hst,hr]
section
variable {x:Cx} {env:Env} {H:HL} {dst:Option Tmp} {ty:TypeId} {pos:String} {aft:Array Edge} {gd:Option (Nat × Bool)}
theorem Pu.mv {p:Operand} {v:Value} (h:ev env p=some v):Pu x env ⟨dst,.move p,ty,pos,aft,gd⟩ v:=⟨fun a he w=>by
 simp [execOp,he.eval h]⟩
theorem Pu.asg {p:Operand} {v:Value} (h:ev env p=some v):Pu x env ⟨dst,.assign p,ty,pos,aft,gd⟩ v:=⟨fun a he w=>by
 simp [execOp,he.eval h]⟩
theorem Pu.pick_t {c p q:Operand} {v:Value} (hc:ev env c=some (.bool true)) (h:ev env p=some v):Pu x env ⟨dst,.pick c p q,ty,pos,aft,gd⟩ v:=⟨fun a he w=>by
 simp [execOp,he.eval h,he.eval hc,asBool]⟩
theorem Pu.pick_f {c p q:Operand} {v:Value} (hc:ev env c=some (.bool false)) (h:ev env q=some v):Pu x env ⟨dst,.pick c p q,ty,pos,aft,gd⟩ v:=⟨fun a he w=>by
 simp [execOp,he.eval h,he.eval hc,asBool]⟩
theorem Pu.notB {T:TypeId} {p:Operand} {b:Bool} (h:ev env p=some (.bool b)):Pu x env ⟨dst,.unOp .not T p,ty,pos,aft,gd⟩ (.bool (!b)):=⟨fun a he w=>by
 simp [execOp,he.eval h,Op.unary]⟩
theorem Pu.neg {T:TypeId} {p:Operand} {k:IntKind} {n:Int} (h:ev env p=some (.int k n)):Pu x env ⟨dst,.unOp .neg T p,ty,pos,aft,gd⟩ (.int k (k.wrap (0 - n))):=⟨fun a he w=>by
 simp [execOp,he.eval h,Op.unary,Op.intArith]⟩
theorem Pu.xorU {T:TypeId} {p:Operand} {k:IntKind} {n:Int} (h:ev env p=some (.int k n)) :
 Pu x env ⟨dst,.unOp .xor T p,ty,pos,aft,gd⟩ (.int k (k.wrap (BitVec.ofInt k.bits (if k.signed then -1 else k.max) ^^^ BitVec.ofInt k.bits n).toNat)):=⟨fun a he w=>by
 simp [execOp,he.eval h,Op.unary,Op.intBits]⟩
theorem Pu.nilCk {p:Operand} {ad:Addr} (h:ev env p=some (.pointer (some ad))):Pu x env ⟨dst,.nilCheck p,ty,pos,aft,gd⟩ (.pointer (some ad)):=⟨fun a he w=>by
 simp [execOp,he.eval h]⟩
theorem Pu.ext {p:Operand} {vs:List Value} {i:Nat} {v:Value} (h:ev env p=some (.tuple vs.toArray)) (hv:vs[i]? = some v):Pu x env ⟨dst,.extract p i,ty,pos,aft,gd⟩ v:=⟨fun a he w=>by
 simp [execOp,he.eval h,Instr.extract,hv]⟩
theorem Pu.fa {T f:Nat} {p:Operand} {b off fo:Nat} [ft:FldT x.P T f fo] (h:ev env p=some (.pointer (some ⟨b,off,none⟩))):Pu x env ⟨dst,.fieldAddr T p f,ty,pos,aft,gd⟩ (.pointer (some ⟨b,off+fo,none⟩)):=⟨fun a he w=>by
 have hf:=ft.h
 unfold fldO at hf
 split at hf
 · rename_i fs hu
   split at hf
   · rename_i f' hf'
     split at hf
     · rename_i inf hinf
       split at hf
       · cases hf
       · rename_i hz
         cases hf
         have hadd:(⟨b,off,none⟩:Addr).add f'.offset=⟨b,off+f'.offset,none⟩:=by unfold Addr.add; split <;> simp_all
         simp [execOp,he.eval h,Instr.fieldAt,run_underlying hu,hf',Instr.sureAddr,fieldPlace,sizeOf,typeInfo,hinf,hz,hadd]
     · cases hf
   · cases hf
 · cases hf⟩
theorem Pu.fv {T f:Nat} {p:Operand} {l:List Value} {off sz:Nat} {v:Value} [ft:FldV x.P T f off false sz] (h:ev env p=some (.agg l.toArray)) (hv:l[off]? = some v):Pu x env ⟨dst,.field T p f,ty,pos,aft,gd⟩ v:=⟨fun a he w=>by
 have hf:=ft.h
 unfold fldV at hf
 split at hf
 · rename_i fs hu
   split at hf
   · rename_i f' hf'
     split at hf
     · simp at hf
     · simp at hf
     · rename_i d inf hd1 hd2 hd hinf
       simp only [Option.some.injEq,Prod.mk.injEq,true_and] at hf
       have hagg:(isAgg f'.type).run x.P w=.ok false w:=by
        unfold isAgg
        rw [Sem.run_bind,run_underlying hd w]
        cases d <;> first | rfl | (exact absurd rfl (hd1 _)) | (exact absurd rfl (hd2 _ _))
       simp [execOp,he.eval h,Instr.field,run_underlying hu,hf',asAgg,part,hagg,hf.1,hv]
     · cases hf
   · cases hf
 · cases hf⟩
theorem Pu.fva {T f:Nat} {p:Operand} {l r:List Value} {off sz:Nat} [ft:FldV x.P T f off true sz] (h:ev env p=some (.agg l.toArray)) (hv:cut l off sz=some r):Pu x env ⟨dst,.field T p f,ty,pos,aft,gd⟩ (.agg r.toArray):=⟨fun a he w=>by
 have hf:=ft.h
 obtain ⟨hr,hle⟩:=cut_eq hv
 unfold fldV at hf
 split at hf
 · rename_i fs hu
   split at hf
   · rename_i f' hf'
     split at hf
     · rename_i q inf hd hinf
       simp only [Option.some.injEq,Prod.mk.injEq,true_and] at hf
       have hagg:(isAgg f'.type).run x.P w=.ok true w:=by
        unfold isAgg; rw [Sem.run_bind,run_underlying hd w]; rfl
       simp [execOp,he.eval h,Instr.field,run_underlying hu,hf',asAgg,part,hagg,sizeOf,typeInfo,hinf,hf.1,hf.2,hr]
     · rename_i q q' inf hd hinf
       simp only [Option.some.injEq,Prod.mk.injEq,true_and] at hf
       have hagg:(isAgg f'.type).run x.P w=.ok true w:=by
        unfold isAgg; rw [Sem.run_bind,run_underlying hd w]; rfl
       simp [execOp,he.eval h,Instr.field,run_underlying hu,hf',asAgg,part,hagg,sizeOf,typeInfo,hinf,hf.1,hf.2,hr]
     · simp at hf
     · cases hf
   · cases hf
 · cases hf⟩
def binI:BinOp→IntKind→Int→Int→Option Value
 | .add,k,a,b=>some (.int k (k.wrap (a+b)))
 | .sub,k,a,b=>some (.int k (k.wrap (a - b)))
 | .mul,k,a,b=>some (.int k (k.wrap (a * b)))
 | .and,k,a,b=>some (.int k (k.wrap (BitVec.ofInt k.bits a &&& BitVec.ofInt k.bits b).toNat))
 | .or,k,a,b=>some (.int k (k.wrap (BitVec.ofInt k.bits a ||| BitVec.ofInt k.bits b).toNat))
 | .xor,k,a,b=>some (.int k (k.wrap (BitVec.ofInt k.bits a ^^^ BitVec.ofInt k.bits b).toNat))
 | .eql,_,a,b=>some (.bool (a == b))
 | .neq,_,a,b=>some (.bool (a != b))
 | .lss,_,a,b=>some (.bool (decide (a < b)))
 | .leq,_,a,b=>some (.bool (decide (a≤b)))
 | .gtr,_,a,b=>some (.bool (decide (a > b)))
 | .geq,_,a,b=>some (.bool (decide (a≥b)))
 | _,_,_,_=>none
theorem Pu.bin {op:BinOp} {T T':TypeId} {p q:Operand} {k:IntKind} {m n:Int} {v:Value} (hp:ev env p=some (.int k m)) (hq:ev env q=some (.int k n)) (hv:binI op k m n=some v) :
 Pu x env ⟨dst,.binOp op T p q T',ty,pos,aft,gd⟩ v:=⟨fun a he w=>by
 cases op <;> simp [binI] at hv <;> subst hv <;> simp [execOp,he.eval hp,he.eval hq,eqGuard,binOp,Op.intArith,Op.intCmp,Op.intBits]⟩
theorem Pu.shr {T T':TypeId} {p q:Operand} {k k':IntKind} {m n:Int} (hp:ev env p=some (.int k m)) (hq:ev env q=some (.int k' n)) (hn:0≤n) :
 Pu x env ⟨dst,.binOp .shr T p q T',ty,pos,aft,gd⟩ (.int k (m.fdiv (2 ^ (min n.toNat k.bits)))):=⟨fun a he w=>by
 have:¬ n < 0:=by omega
 simp [execOp,he.eval hp,he.eval hq,eqGuard,binOp,Op.shift,this]⟩
theorem Pu.shl {T T':TypeId} {p q:Operand} {k k':IntKind} {m n:Int} (hp:ev env p=some (.int k m)) (hq:ev env q=some (.int k' n)) (hn:0≤n) :
 Pu x env ⟨dst,.binOp .shl T p q T',ty,pos,aft,gd⟩ (.int k (k.wrap (m * 2 ^ (min n.toNat k.bits)))):=⟨fun a he w=>by
 have:¬ n < 0:=by omega
 simp [execOp,he.eval hp,he.eval hq,eqGuard,binOp,Op.shift,this]⟩
theorem Pu.quo {T T':TypeId} {p q:Operand} {k:IntKind} {m n:Int} (hp:ev env p=some (.int k m)) (hq:ev env q=some (.int k n)) (hn:n≠0) :
 Pu x env ⟨dst,.binOp .quo T p q T',ty,pos,aft,gd⟩ (.int k (k.wrap (m.tdiv n))):=⟨fun a he w=>by
 simp [execOp,he.eval hp,he.eval hq,eqGuard,binOp,Op.intDiv,hn]⟩
theorem Pu.rem {T T':TypeId} {p q:Operand} {k:IntKind} {m n:Int} (hp:ev env p=some (.int k m)) (hq:ev env q=some (.int k n)) (hn:n≠0) :
 Pu x env ⟨dst,.binOp .rem T p q T',ty,pos,aft,gd⟩ (.int k (m.tmod n)):=⟨fun a he w=>by
 simp [execOp,he.eval hp,he.eval hq,eqGuard,binOp,Op.intDiv,hn]⟩
theorem run_equal_bool {P:Program} {T:TypeId} (h:P.underlying T=some .bool) (m n:Bool) (w:World):(Op.equal T (.bool m) (.bool n)).run P w=.ok (m == n) w:=by
 show (Op.equalIn (9999+1) T (.bool m) (.bool n)).run P w=_
 rw [Op.equalIn,Sem.run_bind,run_underlying h]
 rfl
theorem run_equal_nil {P:Program} {T e:TypeId} (h:P.underlying T=some (.pointer e)) (m:Option Addr) (w:World):(Op.equal T (.pointer m) (.pointer none)).run P w=.ok m.isNone w:=by
 show (Op.equalIn (9999+1) T (.pointer m) (.pointer none)).run P w=_
 rw [Op.equalIn,Sem.run_bind,run_underlying h]
 cases m <;> rfl
theorem Pu.eqB {T T':TypeId} {p q:Operand} {m n:Bool} [bt:BoolT x.P T] (hp:ev env p=some (.bool m)) (hq:ev env q=some (.bool n)) :
 Pu x env ⟨dst,.binOp .eql T p q T',ty,pos,aft,gd⟩ (.bool (m == n)):=⟨fun a he w=>by
 simp [execOp,he.eval hp,he.eval hq,eqGuard,binOp,run_equal_bool bt.h]⟩
theorem Pu.neB {T T':TypeId} {p q:Operand} {m n:Bool} [bt:BoolT x.P T] (hp:ev env p=some (.bool m)) (hq:ev env q=some (.bool n)) :
 Pu x env ⟨dst,.binOp .neq T p q T',ty,pos,aft,gd⟩ (.bool (!(m == n))):=⟨fun a he w=>by
 simp [execOp,he.eval hp,he.eval hq,eqGuard,binOp,run_equal_bool bt.h]⟩
theorem Pu.eqS {T T':TypeId} {p q:Operand} {m n:ByteArray} (hp:ev env p=some (.string m)) (hq:ev env q=some (.string n)) :
 Pu x env ⟨dst,.binOp .eql T p q T',ty,pos,aft,gd⟩ (.bool (m.toList == n.toList)):=⟨fun a he w=>by
 simp [execOp,he.eval hp,he.eval hq,eqGuard,binOp,Op.stringOp]⟩
theorem Pu.eqN {T T':TypeId} {p q:Operand} {m:Option Addr} [pt:PtrT x.P T] (hp:ev env p=some (.pointer m)) (hq:ev env q=some (.pointer none)) :
 Pu x env ⟨dst,.binOp .eql T p q T',ty,pos,aft,gd⟩ (.bool m.isNone):=⟨fun a he w=>by
 obtain ⟨e,hu⟩:=pt.h
 cases m <;> simp [execOp,he.eval hp,he.eval hq,eqGuard,binOp,run_equal_nil hu]⟩
theorem Pu.neN {T T':TypeId} {p q:Operand} {m:Option Addr} [pt:PtrT x.P T] (hp:ev env p=some (.pointer m)) (hq:ev env q=some (.pointer none)) :
 Pu x env ⟨dst,.binOp .neq T p q T',ty,pos,aft,gd⟩ (.bool (!m.isNone)):=⟨fun a he w=>by
 obtain ⟨e,hu⟩:=pt.h
 cases m <;> simp [execOp,he.eval hp,he.eval hq,eqGuard,binOp,run_equal_nil hu]⟩
theorem Pu.cvI {S T:TypeId} {p:Operand} {k k':IntKind} {n:Int} [st:IntT x.P S k'] [tt:IntT x.P T k] (hp:ev env p=some (.int k' n)):Pu x env ⟨dst,.convert S T p,ty,pos,aft,gd⟩ (.int k (k.wrap n)):=⟨fun a he w=>by
 simp [execOp,he.eval hp,convert,run_underlying st.h,run_underlying tt.h,Conv.intToInt]⟩
theorem Pu.lenS {T:TypeId} {e sz by_:Nat} {p:Operand} {ad:Option Addr} {n c:Nat} [st:SliceT x.P T e sz by_] (hp:ev env p=some (.slice ad n c)) :
 Pu x env ⟨dst,.call ⟨.builtin .len,#[p],#[T]⟩,ty,pos,aft,gd⟩ (.int .i64 n):=⟨fun a he w=>by
 simp [execOp,resolve,invoke,builtin,he.eval hp,Builtin.len_,run_underlying st.h,goInt]⟩
theorem Pu.min2 {T T':TypeId} {p q:Operand} {k:IntKind} {m n:Int} (hp:ev env p=some (.int k m)) (hq:ev env q=some (.int k n)) :
 Pu x env ⟨dst,.call ⟨.builtin .min,#[p,q],#[T,T']⟩,ty,pos,aft,gd⟩ (.int k (if n < m then n else m)):=⟨fun a he w=>by
 simp [execOp,resolve,invoke,builtin,he.eval hp,he.eval hq,Builtin.min_,Builtin.min2]⟩
theorem Pu.ia {T:TypeId} {e sz by_:Nat} {p q:Operand} {b off n c:Nat} {k:IntKind} {i:Int} [st:SliceT x.P T e sz by_] (hp:ev env p=some (.slice (some ⟨b,off,none⟩) n c)) (hq:ev env q=some (.int k i)) (h0:0≤i∧i < n) :
 Pu x env ⟨dst,.indexAddr T p q,ty,pos,aft,gd⟩ (.pointer (some ⟨b,off+i.toNat * sz,none⟩)):=⟨fun a he w=>by
 have hi:=st.i
 cases hq2:x.P.info? e with
 | none=>simp [hq2] at hi
 | some inf=>
   have hs:inf.size=sz:=by have:=hi; simp [hq2] at this; exact this.1
   have hadd:(⟨b,off,none⟩:Addr).add (i.toNat * sz)=⟨b,off+i.toNat * sz,none⟩:=by
    unfold Addr.add; split <;> simp_all
   simp [execOp,he.eval hp,he.eval hq,Instr.indexAt,asIntOf,run_underlying st.h,h0,sizeOf,typeInfo,hq2,hs,hadd]⟩
theorem cell_foc {b off:Nat} {l:List Value} {T:TypeId} {fr:Nat × Nat} {w:World} {v:Value} (hg:w.heap[b]? = some (.cells l.toArray T fr)) (hv:l[off]? = some v):w.cell? ⟨b,off,none⟩=some v:=by
 rw [cell_of_row w b off l.toArray T fr hg]; simpa using hv
inductive CellAt (b off:Nat) (v:Value):HL→Prop
 | here {l:List Value} {T:TypeId} {fr:Nat × Nat} {H:HL}:l[off]? = some v→CellAt b off v ((b,.cells l.toArray T fr)::H)
 | there {p:Nat × Obj} {H:HL}:CellAt b off v H→CellAt b off v (p::H)
 | left {H1 H2:HL}:CellAt b off v H1→CellAt b off v (H1++H2)
 | right {H1 H2:HL}:CellAt b off v H2→CellAt b off v (H1++H2)
inductive CutAt (b off n:Nat) (r:List Value):HL→Prop
 | here {l:List Value} {T:TypeId} {fr:Nat × Nat} {H:HL}:cut l off n=some r→CutAt b off n r ((b,.cells l.toArray T fr)::H)
 | there {p:Nat × Obj} {H:HL}:CutAt b off n r H→CutAt b off n r (p::H)
 | left {H1 H2:HL}:CutAt b off n r H1→CutAt b off n r (H1++H2)
 | right {H1 H2:HL}:CutAt b off n r H2→CutAt b off n r (H1++H2)
inductive PutAt (b off:Nat) (vs:List Value):HL→HL→Prop
 | here {l r:List Value} {T:TypeId} {H:HL}:spliceK l off vs some=some r→PutAt b off vs ((b,.cells l.toArray T (0,0))::H) ((b,.cells r.toArray T (0,0))::H)
 | there {p:Nat × Obj} {H H':HL}:PutAt b off vs H H'→PutAt b off vs (p::H) (p::H')
 | left {H1 H1' H2:HL}:PutAt b off vs H1 H1'→PutAt b off vs (H1++H2) (H1'++H2)
 | right {H1 H2 H2':HL}:PutAt b off vs H2 H2'→PutAt b off vs (H1++H2) (H1++H2')
theorem CellAt.foc {b off:Nat} {v:Value} {H:HL} (h:CellAt b off v H):∃ (l:List Value) (T:TypeId) (fr:Nat × Nat) (k:Obj→HL),Foc b (.cells l.toArray T fr) H k∧l[off]? = some v:=by
 induction h with
 | here h=>exact ⟨_,_,_,_,Foc.here _,h⟩
 | there _ ih=>obtain ⟨l,T,fr,k,hf,h⟩:=ih; exact ⟨l,T,fr,_,Foc.there _ hf,h⟩
 | left _ ih=>obtain ⟨l,T,fr,k,hf,h⟩:=ih; exact ⟨l,T,fr,_,Foc.left hf,h⟩
 | right _ ih=>obtain ⟨l,T,fr,k,hf,h⟩:=ih; exact ⟨l,T,fr,_,Foc.right hf,h⟩
theorem CutAt.foc {b off n:Nat} {r:List Value} {H:HL} (h:CutAt b off n r H):∃ (l:List Value) (T:TypeId) (fr:Nat × Nat) (k:Obj→HL),Foc b (.cells l.toArray T fr) H k∧cut l off n=some r:=by
 induction h with
 | here h=>exact ⟨_,_,_,_,Foc.here _,h⟩
 | there _ ih=>obtain ⟨l,T,fr,k,hf,h⟩:=ih; exact ⟨l,T,fr,_,Foc.there _ hf,h⟩
 | left _ ih=>obtain ⟨l,T,fr,k,hf,h⟩:=ih; exact ⟨l,T,fr,_,Foc.left hf,h⟩
 | right _ ih=>obtain ⟨l,T,fr,k,hf,h⟩:=ih; exact ⟨l,T,fr,_,Foc.right hf,h⟩
theorem PutAt.foc {b off:Nat} {vs:List Value} {H H':HL} (h:PutAt b off vs H H'):∃ (l r:List Value) (T:TypeId) (k:Obj→HL),Foc b (.cells l.toArray T (0,0)) H k∧spliceK l off vs some=some r∧H'=k (.cells r.toArray T (0,0)):=by
 induction h with
 | here h=>exact ⟨_,_,_,_,Foc.here _,h,rfl⟩
 | there _ ih=>obtain ⟨l,r,T,k,hf,h,rfl⟩:=ih; exact ⟨l,r,T,_,Foc.there _ hf,h,rfl⟩
 | left _ ih=>obtain ⟨l,r,T,k,hf,h,rfl⟩:=ih; exact ⟨l,r,T,_,Foc.left hf,h,rfl⟩
 | right _ ih=>obtain ⟨l,r,T,k,hf,h,rfl⟩:=ih; exact ⟨l,r,T,_,Foc.right hf,h,rfl⟩
theorem Rd.ld {T:TypeId} {p:Operand} {b off:Nat} {v:Value} [sc:ScalT x.P T] (hp:ev env p=some (.pointer (some ⟨b,off,none⟩))) (hc:CellAt b off v H):Rd x env H ⟨dst,.load T p,ty,pos,aft,gd⟩ v:=⟨fun a w he hi=>by
 obtain ⟨l,T',fr,k,hf,hv⟩:=hc.foc
 simp [execOp,he.eval hp,Instr.loadAt,Instr.sureAddr,run_loadVar_scal sc.h (cell_foc (hf.heap hi) hv)]⟩
theorem Rd.lda {T n:TypeId} {p:Operand} {b off:Nat} {r:List Value} [ag:AggT x.P T n] (hp:ev env p=some (.pointer (some ⟨b,off,none⟩))) (hc:CutAt b off n r H):Rd x env H ⟨dst,.load T p,ty,pos,aft,gd⟩ (.agg r.toArray):=⟨fun a w he hi=>by
 obtain ⟨l,T',fr,k,hf,hv⟩:=hc.foc
 simp [execOp,he.eval hp,Instr.loadAt,Instr.sureAddr,run_loadVar_agg ag.h (hf.heap hi) hv]⟩
theorem Ef.st {T:TypeId} {p q:Operand} {b off:Nat} {v:Value} {H1:HL} [sc:ScalT x.P T] (hp:ev env p=some (.pointer (some ⟨b,off,none⟩))) (hq:ev env q=some v) (h1:v.oneCell'=true) (hc:PutAt b off [v] H H1) :
 Ef x env H ⟨dst,.store T p q,ty,pos,aft,gd⟩ (fun v H'=>v=undef∧H'=H1):=⟨fun a w he hi=>by
 obtain ⟨l,r,T',k,hf,hv,rfl⟩:=hc.foc
 have hcs:v.cells = #[v]:=by cases v <;> first | rfl | (simp [Value.oneCell'] at h1)
 obtain ⟨i,hi1,hi2⟩:=scalB_info sc.h
 have hg:=hf.heap hi
 have hst:=run_storeVar_at (P:=x.P) (T:=T) (v:=v) (off:=off) (r:=r) ⟨i,hi1,by rw [hi2,hcs]; rfl⟩ hg (by rw [hcs]; simp [h1]) (by rw [hcs]; exact hv)
 refine yields_of_skip (w':=w.setRow b r.toArray) (by simp [execOp,he.eval hp,he.eval hq,Instr.storeAt,Instr.sureAddr,hst]) ⟨_,⟨rfl,rfl⟩,hi.upd hf (Upd.setRow hg),(Upd.setRow hg).same⟩⟩
theorem Ef.sta {T n:TypeId} {p q:Operand} {b off:Nat} {cs:List Value} {H1:HL} [ag:AggT x.P T n] (hp:ev env p=some (.pointer (some ⟨b,off,none⟩))) (hq:ev env q=some (.agg cs.toArray)) (hn:cs.length=n) (h1:cs.all (·.oneCell')=true) (hc:PutAt b off cs H H1) :
 Ef x env H ⟨dst,.store T p q,ty,pos,aft,gd⟩ (fun v H'=>v=undef∧H'=H1):=⟨fun a w he hi=>by
 obtain ⟨l,r,T',k,hf,hv,rfl⟩:=hc.foc
 obtain ⟨i,hi1,hi2⟩:=aggS_info ag.h
 have hg:=hf.heap hi
 have hst:=run_storeVar_at (P:=x.P) (T:=T) (v:=.agg cs.toArray) (off:=off) (r:=r) ⟨i,hi1,by simp [Value.cells,hi2,hn]⟩ hg (by simpa [Value.cells] using h1) (by simpa [Value.cells] using hv)
 refine yields_of_skip (w':=w.setRow b r.toArray) (by simp [execOp,he.eval hp,he.eval hq,Instr.storeAt,Instr.sureAddr,hst]) ⟨_,⟨rfl,rfl⟩,hi.upd hf (Upd.setRow hg),(Upd.setRow hg).same⟩⟩
theorem Ef.al {T:TypeId} {z:List Value} [zt:ZeroT x.P T z]:Ef x env H ⟨dst,.alloc T,ty,pos,aft,gd⟩ (fun v H'=>∃ b,v=.pointer (some ⟨b,0,none⟩)∧H'=(b,.cells z.toArray T (0,0))::H):=⟨fun a w he hi=>by
 have hz:=zt.h
 cases h1:x.P.info? T with
 | none=>simp [h1] at hz
 | some i=>
 cases h2:i.zero with
 | none=>simp [h1,h2] at hz
 | some v=>
 have h3:v.cells=z.toArray:=by simpa [h1,h2] using hz
 refine yields_of_run (v:=.pointer (some ⟨w.heap.size,0,none⟩)) (w':=w.alloc (.cells z.toArray T)) (by simp [execOp,Instr.alloc,zeroValue,typeInfo,h1,h2,newVar,newRow,h3]) ⟨_,⟨_,rfl,rfl⟩,hi.alloc _,Same.alloc w _⟩⟩
theorem Ef.bxa {T:TypeId} {p:Operand} {cs:List Value} (hp:ev env p=some (.agg cs.toArray)):Ef x env H ⟨dst,.box T p,ty,pos,aft,gd⟩ (fun v H'=>∃ b,v=.pointer (some ⟨b,0,none⟩)∧H'=(b,.cells cs.toArray T (0,0))::H):=⟨fun a w he hi=>by
 refine yields_of_run (v:=.pointer (some ⟨w.heap.size,0,none⟩)) (w':=w.alloc (.cells cs.toArray T)) (by simp [execOp,he.eval hp,Instr.box,newVar,newRow,Value.cells]) ⟨_,⟨_,rfl,rfl⟩,hi.alloc _,Same.alloc w _⟩⟩
theorem Ef.bx {T:TypeId} {p:Operand} {v:Value} (hp:ev env p=some v) (h1:v.oneCell'=true):Ef x env H ⟨dst,.box T p,ty,pos,aft,gd⟩ (fun u H'=>∃ b,u=.pointer (some ⟨b,0,none⟩)∧H'=(b,.cells [v].toArray T (0,0))::H):=⟨fun a w he hi=>by
 have hcs:v.cells=[v].toArray:=by cases v <;> first | rfl | (simp [Value.oneCell'] at h1)
 refine yields_of_run (v:=.pointer (some ⟨w.heap.size,0,none⟩)) (w':=w.alloc (.cells [v].toArray T)) (by simp [execOp,he.eval hp,Instr.box,newVar,newRow,hcs]) ⟨_,⟨_,rfl,rfl⟩,hi.alloc _,Same.alloc w _⟩⟩
inductive Ext1 (p:Nat × Obj):HL→HL→Prop
 | here {H:HL}:Ext1 p (p::H) H
 | there {q:Nat × Obj} {H Hr:HL}:Ext1 p H Hr→Ext1 p (q::H) (q::Hr)
 | left {H1 H2 Hr:HL}:Ext1 p H1 Hr→Ext1 p (H1++H2) (Hr++H2)
 | right {H1 H2 Hr:HL}:Ext1 p H2 Hr→Ext1 p (H1++H2) (H1++Hr)
inductive ExtL (L:HL):HL→HL→Prop
 | all:ExtL L L []
 | here {H:HL}:ExtL L (L++H) H
 | there {q:Nat × Obj} {H Hr:HL}:ExtL L H Hr→ExtL L (q::H) (q::Hr)
 | right {H1 H2 Hr:HL}:ExtL L H2 Hr→ExtL L (H1++H2) (H1++Hr)
theorem Ext1.perm {p:Nat × Obj} {H Hr:HL} (h:Ext1 p H Hr):H.Perm (p::Hr):=by
 induction h with
 | here=>exact List.Perm.refl _
 | @there q H Hr _ ih=>exact (ih.cons q).trans (List.Perm.swap p q Hr)
 | left _ ih=>exact ih.append_right _
 | @right H1 H2 Hr _ ih=>exact (ih.append_left H1).trans List.perm_middle
theorem ExtL.perm {L H Hr:HL} (h:ExtL L H Hr):H.Perm (L++Hr):=by
 induction h with
 | all=>simp
 | here=>exact List.Perm.refl _
 | @there q H Hr _ ih=>exact (ih.cons q).trans List.perm_middle.symm
 | @right H1 H2 Hr _ ih=>
   refine (ih.append_left H1).trans ?_
   rw [←List.append_assoc,←List.append_assoc]
   exact List.perm_append_comm.append_right Hr
inductive Sub:HL→HL→HL→Prop
 | nil (H:HL):Sub [] H H
 | one (L H:HL):Sub L (L++H) H
 | all (H:HL):Sub H H []
 | here {c H Hr:HL} (p:Nat × Obj):Sub c H Hr→Sub (p::c) (p::H) Hr
 | skip {c H Hr:HL} (p:Nat × Obj):Sub c H Hr→Sub c (p::H) (p::Hr)
 | hereL {c H Hr:HL} (L:HL):Sub c H Hr→Sub (L++c) (L++H) Hr
 | skipL {c H Hr:HL} (L:HL):Sub c H Hr→Sub c (L++H) (L++Hr)
 | perm {c c' H Hr:HL}:c'.Perm c→Sub c' H Hr→Sub c H Hr
 | pick {p:Nat × Obj} {c H H1 Hr:HL}:Ext1 p H H1→Sub c H1 Hr→Sub (p::c) H Hr
 | pickL {L c H H1 Hr:HL}:ExtL L H H1→Sub c H1 Hr→Sub (L++c) H Hr
 | last {L H Hr:HL}:ExtL L H Hr→Sub L H Hr
theorem Sub.perm' {c H Hr:HL} (h:Sub c H Hr):H.Perm (c++Hr):=by
 induction h with
 | nil H=>exact List.Perm.refl _
 | one L H=>exact List.Perm.refl _
 | all H=>simp
 | here p _ ih=>exact ih.cons p
 | @skip c H Hr p _ ih=>exact (ih.cons p).trans (List.perm_middle.symm)
 | hereL L _ ih=>rw [List.append_assoc]; exact ih.append_left L
 | @skipL c H Hr L _ ih=>
   refine (ih.append_left L).trans ?_
   rw [←List.append_assoc,←List.append_assoc]
   exact (List.perm_append_comm).append_right Hr
 | perm hp _ ih=>exact ih.trans (hp.append_right _)
 | pick he _ ih=>exact he.perm.trans (ih.cons _)
 | pickL he _ ih=>rw [List.append_assoc]; exact he.perm.trans (ih.append_left _)
 | last he=>exact he.perm
theorem In.of_sub {F:Nat→Option Obj} {c H Hr:HL} {w:World} (h:Sub c H Hr) (hi:In F H w):In F c w:=(hi.perm h.perm').left
theorem args_eval {a:Act} (he:Ev x env a):∀ (args:List Operand) (vals:List Value),args.map (ev env)=vals.map some→args.map a.eval=vals
 | [],[],_=>rfl
 | [],_::_,h=>by simp at h
 | _::_,[],h=>by simp at h
 | p::args,v::vals,h=>by
   simp only [List.map_cons,List.cons.injEq] at h ⊢
   exact ⟨he.eval h.1,args_eval he args vals h.2⟩
theorem Ef.call {f:FuncId} {args:List Operand} {tys:Array TypeId} {vals:List Value} {c Hr:HL} {R:Value→HL→Prop} [bd:Body x.P f] (hargs:args.map (ev env)=vals.map some) (hs:Sub c H Hr)
 (tr:Tr x.P f vals.toArray (addF x.F Hr) c R):Ef x env H ⟨dst,.call ⟨.value (.func f),args.toArray,tys⟩,ty,pos,aft,gd⟩ (fun v H'=>∃ H1,R v H1∧H'=H1++Hr):=⟨fun a w he hi=>by
 have hbb:=bd.h
 unfold bodyB at hbb
 cases hf:x.P.funcs[f]? with
 | none=>simp [hf] at hbb
 | some fn=>
 rw [hf] at hbb
 simp only [Bool.and_eq_true,Bool.not_eq_true'] at hbb
 obtain ⟨hname,hbody⟩:=hbb
 have hin:In x.F (c++Hr) w:=hi.perm hs.perm'
 have hrun:(execOp a.eval ⟨dst,.call ⟨.value (.func f),args.toArray,tys⟩,ty,pos,aft,gd⟩).run x.P w=.ok (.enter f vals.toArray) w:=by
  have hv:a.eval (.func f)=.func (.func f) #[] #[]:=rfl
  have hb:∃ c,fn.body=some c:=by cases hb2:fn.body with | none=>simp [hb2] at hbody | some c=>exact ⟨c,rfl⟩
  obtain ⟨c,hc⟩:=hb
  have hne:¬ fn.name = "runtime.NumGoroutine":=by simpa using hname
  simp [execOp,resolve,hv,Deferred.ofValue,invoke,callFunc,hf,hne,hc,args_eval he args vals hargs]
 unfold yields
 rw [hrun]
 refine (tr.frame hin).mono ?_
 rintro e w' ⟨v,H',rfl,hR,hi',hsm⟩
 exact ⟨v,rfl,H'++Hr,⟨H',hR,rfl⟩,hi',hsm⟩⟩
theorem Ef.callR {f:FuncId} {args:List Operand} {tys:Array TypeId} {vals:List Value} {c Hr:HL} {R:Value→Prop} [bd:Body x.P f] (hargs:args.map (ev env)=vals.map some) (hs:Sub c H Hr)
 (tr:Tr x.P f vals.toArray (addF x.F Hr) c (fun v H'=>R v∧H'=c)):Ef x env H ⟨dst,.call ⟨.value (.func f),args.toArray,tys⟩,ty,pos,aft,gd⟩ (fun v H'=>R v∧H'=H):=⟨fun a w he hi=>by
 refine Yr.mono ?_ ((Ef.call (dst:=dst) (tys:=tys) (ty:=ty) (pos:=pos) (aft:=aft) (gd:=gd) hargs hs tr).run a w he hi)
 rintro v w' ⟨H',⟨H1,⟨hR,rfl⟩,rfl⟩,hi',hsm⟩
 exact ⟨H,⟨hR,rfl⟩,hi'.perm hs.perm'.symm,hsm⟩⟩
end
end Go.Sl
