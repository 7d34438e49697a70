/- Some texts as one. A flight of pieces: an acknowledgement, record by record, as the document reckons it, in plain Lean. No conditions: laws. The document's flight of pieces, in memory; what it tells, walked. Conditions: it is well formed. The document's flight of pieces: Open, Out, Lost, Mark, Abandon, walked: they answer as the plain functions do. Conditions: it is well formed; the bytes are few. The document's flight of pieces: at, Again, Get, Add, Point, walked: they answer as the plain functions do. Conditions: it is well formed; the bytes are few. -/
import Derived.Test.YtlfpemmdehmbfaaGreatBuJ
import Derived.Test.YtlfpemmdehmbfaaGreatBuD
import Derived.Test.YtlfpemmdehmbfaaGreatBuI
import Derived.Test.YtlfpemmdehmbfaaGreatBuM
namespace Go.Flt
open Go
def inG (base:Nat) (gs:List (Nat × Nat)) (k:Nat):Bool:=gs.any (fun g=>decide (base+g.1≤k+1) && decide (k+1≤base+g.2))
def toldB (base:Nat) (gs:List (Nat × Nat)) (k:Nat):Bool:=decide (k < base) || inG base gs k
def rack (low:Q4 (Option Nat)) (base:Nat) (gs:List (Nat × Nat)) (k:AK) (i:Nat):AK:=if toldB base gs i then ack1 low k i else k
def rackN (low:Q4 (Option Nat)) (base:Nat) (gs:List (Nat × Nat)) (k:AK) (n:Nat):AK:=(List.range n).foldl (rack low base gs) k
theorem rackN_succ (low:Q4 (Option Nat)) (base:Nat) (gs:List (Nat × Nat)) (k:AK) (n:Nat):rackN low base gs k (n+1)=rack low base gs (rackN low base gs k n) n:=by
 unfold rackN
 rw [List.range_succ,List.foldl_append]
 rfl
theorem gap_range:∀ {n base last:Nat} {gs:List (Nat × Nat)},okG n base last gs=true→base+last≤n→(List.range' (base+last) (n - base - last)).filter (inG base gs)=(gs.map (fun g=>(base+g.1 - 1,base+g.2))).flatMap (fun g=>List.range' g.1 (g.2 - g.1))
 | n,base,last,[],_,_=>by
   rw [List.map_nil,List.flatMap_nil,List.filter_eq_nil_iff]
   intro a _
   simp [inG]
 | n,base,last,g::gs,h,hb=>by
   rw [okG] at h
   simp only [Bool.and_eq_true,Bool.not_eq_true',decide_eq_false_iff_not] at h
   obtain ⟨⟨⟨h1,h2⟩,h3⟩,h4⟩:=h
   have rest:∀ q ∈ gs,g.2+2≤q.1:=by
    have:∀ {l last:Nat} {gs:List (Nat × Nat)},okG n base last gs=true→l≤last→∀ q ∈ gs,l+2≤q.1:=fun {l last gs}=>by
     induction gs generalizing last with
     | nil=>intro _ _ q hq; cases hq
     | cons a gs ih=>
       intro h hl q hq
       rw [okG] at h
       simp only [Bool.and_eq_true,Bool.not_eq_true',decide_eq_false_iff_not] at h
       rcases List.mem_cons.1 hq with rfl | hq
       · omega
       · exact ih h.2 (by omega) q hq
    exact this h4 (Nat.le_refl _)
   rw [show n - base - last=(g.1 - 1 - last)+((g.2 - (g.1 - 1))+(n - base - g.2)) by omega,←List.range'_append_1,←List.range'_append_1,List.filter_append,List.filter_append]
   have f1:(List.range' (base+last) (g.1 - 1 - last)).filter (inG base (g::gs))=[]:=by
    rw [List.filter_eq_nil_iff]
    intro a ha
    rw [List.mem_range'_1] at ha
    unfold inG
    simp only [List.any_eq_true,not_exists,not_and]
    intro q hq
    rcases List.mem_cons.1 hq with rfl | hq
    · simp; omega
    · have:=rest q hq; simp; omega
   have f2:(List.range' (base+last+(g.1 - 1 - last)) (g.2 - (g.1 - 1))).filter (inG base (g::gs))=List.range' (base+last+(g.1 - 1 - last)) (g.2 - (g.1 - 1)):=by
    rw [List.filter_eq_self]
    intro a ha
    rw [List.mem_range'_1] at ha
    unfold inG
    rw [List.any_cons,Bool.or_eq_true]
    left
    simp
    omega
   have f3:(List.range' (base+last+(g.1 - 1 - last)+(g.2 - (g.1 - 1))) (n - base - g.2)).filter (inG base (g::gs))=(List.range' (base+g.2) (n - base - g.2)).filter (inG base gs):=by
    rw [show base+last+(g.1 - 1 - last)+(g.2 - (g.1 - 1))=base+g.2 by omega]
    refine List.filter_congr (fun a ha=>?_)
    rw [List.mem_range'_1] at ha
    unfold inG
    rw [List.any_cons]
    have:(decide (base+g.1≤a+1) && decide (a+1≤base+g.2))=false:=by simp; omega
    rw [this,Bool.false_or]
   rw [f1,f2,f3,gap_range h4 (by omega),List.map_cons,List.flatMap_cons,List.nil_append]
   congr 1
   congr 1 <;> (dsimp only; omega)
theorem told_range {n base:Nat} {gs:List (Nat × Nat)} (h:okG n base 0 gs=true) (hb:base≤n):(List.range n).filter (toldB base gs)=(spL base gs).flatMap (fun g=>List.range' g.1 (g.2 - g.1)):=by
 rw [List.range_eq_range',show n=base+(n - base) by omega,←List.range'_append_1,List.filter_append]
 have f1:(List.range' 0 base).filter (toldB base gs)=List.range' 0 base:=by
  rw [List.filter_eq_self]
  intro a ha
  rw [List.mem_range'_1] at ha
  unfold toldB
  rw [decide_eq_true (by omega),Bool.true_or]
 have f2:(List.range' (0+base) (n - base)).filter (toldB base gs)=(List.range' (base+0) (n - base - 0)).filter (inG base gs):=by
  rw [Nat.zero_add]
  refine List.filter_congr (fun a ha=>?_)
  rw [List.mem_range'_1] at ha
  unfold toldB
  rw [decide_eq_false (by omega),Bool.false_or]
 rw [f1,f2,gap_range h (by omega)]
 rfl
theorem rack_all {n base:Nat} {gs:List (Nat × Nat)} (h:okG n base 0 gs=true) (hb:base≤n) (low:Q4 (Option Nat)) (k:AK):rackN low base gs k n=ackAll low k (spL base gs):=by
 have e:ackAll low k (spL base gs)=((spL base gs).flatMap (fun g=>List.range' g.1 (g.2 - g.1))).foldl (ack1 low) k:=by
  rw [List.foldl_flatMap]
  rfl
 rw [e,←told_range h hb,List.foldl_filter]
 rfl
theorem toldN_len {n base:Nat} {gs:List (Nat × Nat)} (h:okG n base 0 gs=true) (hb:base≤n):toldN (spL base gs)=((List.range n).filter (toldB base gs)).length:=by
 rw [told_range h hb,List.length_flatMap]
 unfold toldN
 simp
theorem ack1_mono {low:Q4 (Option Nat)} {k:AK} {i j:Nat} (h:∀ r,k.L[j]? = some r→r.acked=true):∀ r,(ack1 low k i).L[j]? = some r→r.acked=true:=by
 intro r hr
 unfold ack1 at hr
 split at hr
 · exact h r hr
 · rename_i q hq
   split at hr
   · exact h r hr
   · dsimp only at hr
     by_cases hij:i=j
     · subst hij
       rw [List.getElem?_set_self (List.getElem?_eq_some_iff.1 hq).1] at hr
       cases hr
       rfl
     · rw [List.getElem?_set_ne hij] at hr
       exact h r hr
theorem ack1_this {low:Q4 (Option Nat)} {k:AK} {i:Nat}:∀ r,(ack1 low k i).L[i]? = some r→r.acked=true:=by
 intro r hr
 unfold ack1 at hr
 split at hr
 · rename_i h; rw [h] at hr; cases hr
 · rename_i q hq
   split at hr
   · rename_i ha
     rw [hq] at hr
     cases hr
     exact ha
   · dsimp only at hr
     rw [List.getElem?_set_self (List.getElem?_eq_some_iff.1 hq).1] at hr
     cases hr
     rfl
theorem rackN_told {low:Q4 (Option Nat)} {base:Nat} {gs:List (Nat × Nat)} {k:AK}:∀ {n i:Nat},i < n→toldB base gs i=true→∀ r,(rackN low base gs k n).L[i]? = some r→r.acked=true
 | 0,_,h,_=>by omega
 | n+1,i,h,ht=>by
   rw [rackN_succ]
   unfold rack
   by_cases hin:i=n
   · subst hin
     rw [if_pos ht]
     exact ack1_this
   · split
     · exact ack1_mono (rackN_told (by omega) ht)
     · exact rackN_told (by omega) ht
theorem miss1_ack (high:Q4 Int) (x:List Rc × Tld) (i:Nat):(miss1 high x i).1.map (·.acked)=x.1.map (·.acked):=by
 unfold miss1
 split
 · rfl
 · rename_i r h
   split
   · exact set_map (·.acked) h (by unfold missR; split <;> rfl)
   · rfl
theorem missF_ack (high:Q4 Int) (x:List Rc × Tld):∀ n,((List.range n).foldl (miss1 high) x).1.map (·.acked)=x.1.map (·.acked)
 | 0=>rfl
 | n+1=>by rw [miss_snoc,miss1_ack,missF_ack high x n]
def wholeB (base:Nat) (gs:List (Nat × Nat)) (M:List Rc) (n:Nat):Bool:=(List.range n).all (fun i=>!(match M[i]? with | some r=>decide (base=0) && r.acked && !toldB base gs i | none=>false))
theorem wholeB_succ (base:Nat) (gs:List (Nat × Nat)) (M:List Rc) (n:Nat):wholeB base gs M (n+1)=(wholeB base gs M n && !(match M[n]? with | some r=>decide (base=0) && r.acked && !toldB base gs n | none=>false)):=by
 unfold wholeB
 rw [List.range_succ,List.all_append]
 simp
theorem cnt_range (q:Rc→Bool) (M:List Rc):cntB q M=((List.range M.length).filter (fun i=>match M[i]? with | some r=>q r | none=>false)).length:=by
 unfold cntB
 have:∀ {α:Type} (p:α→Bool) (l:List α),(l.filter p).length=((l.map p).filter id).length:=fun p l=>by
  rw [List.filter_map,List.length_map]
  rfl
 rw [this q M,this _ (List.range M.length)]
 congr 2
 refine List.ext_getElem? (fun i=>?_)
 rw [List.getElem?_map,List.getElem?_map]
 by_cases hi:i < M.length
 · rw [List.getElem?_range hi]
   simp [hi]
 · rw [List.getElem?_eq_none (by omega),List.getElem?_eq_none (by simp; omega)]
   rfl
theorem whole_eq {n base:Nat} {gs:List (Nat × Nat)} (h:okG n base 0 gs=true) (hb:base≤n) {M:List Rc} (hn:M.length=n) (ht:∀ i,i < n→toldB base gs i=true→∀ r,M[i]? = some r→r.acked=true) :
 wholeB base gs M n=(decide (base≠0) || decide (toldN (spL base gs)=cntB isAck M)):=by
 by_cases h0:base=0
 · rw [toldN_len h hb,cnt_range,hn]
   have e:(List.range n).filter (toldB base gs)=((List.range n).filter (fun i=>match M[i]? with | some r=>isAck r | none=>false)).filter (toldB base gs):=by
    rw [List.filter_filter]
    refine List.filter_congr (fun i hi=>?_)
    have hin:=List.mem_range.1 hi
    cases htb:toldB base gs i with
    | false=>rfl
    | true=>
      have hr:M[i]? = some (M[i]'(by omega)):=by simp
      rw [hr]
      dsimp only
      rw [Bool.true_and]
      exact (ht i hin htb _ hr).symm
   rw [e,Bool.eq_iff_iff]
   simp only [Bool.or_eq_true,decide_eq_true_eq]
   rw [List.length_filter_eq_length_iff]
   unfold wholeB
   rw [List.all_eq_true]
   constructor
   · intro hw
     right
     intro i hi
     rw [List.mem_filter] at hi
     have:=hw i hi.1
     cases hr:M[i]? with
     | none=>rw [hr] at hi; simp at hi
     | some r=>
       rw [hr] at this hi
       dsimp only at this hi
       unfold isAck at hi
       rw [hi.2] at this
       simpa [h0] using this
   · rintro (hw | hw)
     · exact absurd h0 hw
     · intro i hi
       cases hr:M[i]? with
       | none=>rfl
       | some r=>
         dsimp only
         cases ha:r.acked with
         | false=>simp
         | true=>
           have:=hw i (List.mem_filter.2 ⟨hi,by rw [hr]; exact ha⟩)
           rw [this]
           simp
 · rw [show decide (base≠0)=true by simpa using h0,Bool.true_or]
   unfold wholeB
   rw [List.all_eq_true]
   intro i _
   cases M[i]? with
   | none=>rfl
   | some r=>simp [h0]
def rsack (s:S) (y:Int) (gs:List (Nat × Nat)):Option (S × Tld):=
 if decide (s.L.length < Spn.far s.c y) || !okG s.L.length (Spn.far s.c y) 0 gs then none else
  let k:=rackN (lowQ s.L) (Spn.far s.c y) gs ⟨s.L,Tld.zero,⟨-1,-1,-1,-1⟩⟩ s.L.length
  let x:=missAll k.high (k.L,k.t)
  some (⟨x.1.drop (Spn.far s.c y),y,s.paths⟩,{ x.2 with freed:=sumB (fun _=>true) (x.1.take (Spn.far s.c y)),whole:=wholeB (Spn.far s.c y) gs x.1 s.L.length })
theorem rsack_eq {s:S} (hc:0≤s.c∧s.c < 4294967296) {y:Int} (hy:0≤y∧y < 4294967296) (gs:List (Nat × Nat)):rsack s y gs=sack s y gs:=by
 have hf:=Spn.far_int s.c y
 rw [Spn.u32_eq] at hf
 have hz:Spn.far s.c y=0↔y=s.c:=by omega
 have hsp:span s y gs=if decide (s.L.length < Spn.far s.c y) || !okG s.L.length (Spn.far s.c y) 0 gs then none else some (spL (Spn.far s.c y) gs):=by
  unfold span
  have e:(y≠s.c∧atI s.c s.L.length y=none)↔s.L.length < Spn.far s.c y:=by
   unfold atI
   constructor
   · rintro ⟨h1,h2⟩
     split at h2
     · cases h2
     · have:Spn.far s.c y≠0:=fun h=>h1 (hz.1 h)
       omega
   · intro h
     refine ⟨fun h1=>?_,by rw [if_neg (by omega)]⟩
     have:=hz.2 h1
     omega
  by_cases h1:s.L.length < Spn.far s.c y
  · rw [if_pos (e.2 h1),if_pos (by simp [h1])]
  · rw [if_neg (fun h=>h1 (e.1 h))]
    cases hk:okG s.L.length (Spn.far s.c y) 0 gs with
    | true=>simp [h1]
    | false=>simp
 unfold rsack sack
 rw [hsp]
 by_cases h:(decide (s.L.length < Spn.far s.c y) || !okG s.L.length (Spn.far s.c y) 0 gs)=true
 · rw [if_pos h,if_pos h]
 · rw [if_neg h,if_neg h]
   simp only [Bool.or_eq_true,decide_eq_true_eq,Bool.not_eq_true',not_or,Bool.not_eq_false] at h
   dsimp only
   have hra:=rack_all h.2 (by omega) (lowQ s.L) ⟨s.L,Tld.zero,⟨-1,-1,-1,-1⟩⟩
   rw [hra]
   have hw:=whole_eq (M:=(missAll (ackAll (lowQ s.L) ⟨s.L,Tld.zero,⟨-1,-1,-1,-1⟩⟩ (spL (Spn.far s.c y) gs)).high ((ackAll (lowQ s.L) ⟨s.L,Tld.zero,⟨-1,-1,-1,-1⟩⟩ (spL (Spn.far s.c y) gs)).L,(ackAll (lowQ s.L) ⟨s.L,Tld.zero,⟨-1,-1,-1,-1⟩⟩ (spL (Spn.far s.c y) gs)).t)).1) h.2 (by omega) (by
    have h1:=congrArg List.length (missF_k (ackAll (lowQ s.L) ⟨s.L,Tld.zero,⟨-1,-1,-1,-1⟩⟩ (spL (Spn.far s.c y) gs)).high ((ackAll (lowQ s.L) ⟨s.L,Tld.zero,⟨-1,-1,-1,-1⟩⟩ (spL (Spn.far s.c y) gs)).L,(ackAll (lowQ s.L) ⟨s.L,Tld.zero,⟨-1,-1,-1,-1⟩⟩ (spL (Spn.far s.c y) gs)).t) (ackAll (lowQ s.L) ⟨s.L,Tld.zero,⟨-1,-1,-1,-1⟩⟩ (spL (Spn.far s.c y) gs)).L.length)
    have h2:=congrArg List.length (ackAll_k (lowQ s.L) (spL (Spn.far s.c y) gs) ⟨s.L,Tld.zero,⟨-1,-1,-1,-1⟩⟩)
    simp at h1 h2
    unfold missAll
    dsimp only
    rw [h1,h2]) (fun i hi hti r hr=>by
    have h1:=congrArg (fun l=>l[i]?) (missF_ack (ackAll (lowQ s.L) ⟨s.L,Tld.zero,⟨-1,-1,-1,-1⟩⟩ (spL (Spn.far s.c y) gs)).high ((ackAll (lowQ s.L) ⟨s.L,Tld.zero,⟨-1,-1,-1,-1⟩⟩ (spL (Spn.far s.c y) gs)).L,(ackAll (lowQ s.L) ⟨s.L,Tld.zero,⟨-1,-1,-1,-1⟩⟩ (spL (Spn.far s.c y) gs)).t) (ackAll (lowQ s.L) ⟨s.L,Tld.zero,⟨-1,-1,-1,-1⟩⟩ (spL (Spn.far s.c y) gs)).L.length)
    unfold missAll at hr
    dsimp only at hr h1
    rw [List.getElem?_map,hr,List.getElem?_map,Option.map_some] at h1
    obtain ⟨q,hq,hqa⟩:=Option.map_eq_some_iff.1 h1.symm
    rw [←hra] at hq
    rw [←hqa]
    exact rackN_told hi hti q hq)
   rw [hw]
   have:decide (Spn.far s.c y≠0)=decide (y≠s.c):=by simp only [ne_eq,hz]
   rw [this]
end Go.Flt
namespace Go.Proofs.YtlfpemmdehmbfaaGreat
open Go Go.Sl Go.Flt
structure RrM where
 r:Rc
 ba:Option Addr
 bn:Nat
 bc:Nat
 bb:HL
def RrM.cells (m:RrM):List Value:=[.int .u32 m.r.tsn,.int .u16 m.r.stream,.int .u16 m.r.ssn,.bool m.r.un,.bool m.r.fi,.bool m.r.la,.slice m.ba m.bn m.bc,.int .i64 m.r.path,.int .i64 m.r.at_,.int .i64 m.r.id,.int .i64 m.r.miss,.bool m.r.acked,.bool m.r.lost,.bool m.r.gone,.bool m.r.again]
structure FR where
 R:Nat
 la:Option Addr
 ln:Nat
 lc:Nat
 lb:HL
 rs:List RrM
 c:Int
 paths:Int
def FR.hd (f:FR):Nat × Obj:=(f.R,.cells [.slice f.la f.ln f.lc,.int .u32 f.c,.int .i64 f.paths].toArray 104 (0,0))
def FR.H (f:FR):HL:=f.hd::(f.lb++f.rs.flatMap (·.bb))
def FR.S (f:FR):Flt.S:=⟨f.rs.map (·.r),f.c,f.paths⟩
structure FR.ok (f:FR):Prop where
 own:OwnS 210 15 (f.rs.flatMap RrM.cells) (.slice f.la f.ln f.lc) f.lb
 recs:∀ m ∈ f.rs,OwnS 5 1 (m.r.bs.map B) (.slice m.ba m.bn m.bc) m.bb
 few:f.rs.length≤2048
def FR.small (f:FR):Prop:=sumB (fun _=>true) f.S.L≤1000000000000
theorem FR.ok.len {f:FR} (h:f.ok):f.rs.length=f.ln:=by have:=OwnS.len h.own; rw [flat_len' RrM.cells 15 (fun _=>rfl)] at this; omega
theorem fr_el {F:Nat→Option Obj} {f:FR} (hf:f.ok) {i:Nat} {m:RrM} (h:f.rs[i]? = some m):∃ b o,f.la=some ⟨b,o,none⟩∧Sl.Can F f.H b (o+(i:Int).toNat * 15) m.cells:=by
 have hi:=(List.getElem?_eq_some_iff.1 h).1
 have hl:=hf.len
 obtain ⟨b,o,h1,h2⟩:=(Lst.own (F:=F) (H:=f.lb) hf.own (fun _ h=>h)).el (cells:=RrM.cells) (fun _=>rfl) h (by omega)
 exact ⟨b,o,h1,h2.mono (fun _ h=>h.sublist (.cons _ (List.sublist_append_left _ _)))⟩
theorem flat_put {α:Type} {c:α→List Value} {sz:Nat} (hc:∀ a,(c a).length=sz) {l:List α} {i k:Nat} {a a':α} {vs:List Value} (h:l[i]? = some a) (hs:spliceK (c a) k vs some=some (c a')) :
 (l.flatMap c).take (i * sz+k)++vs++(l.flatMap c).drop (i * sz+k+vs.length)=(l.set i a').flatMap c∧i * sz+k+vs.length≤(l.flatMap c).length:=by
 have hi:=(List.getElem?_eq_some_iff.1 h).1
 have he:=(List.getElem?_eq_some_iff.1 h).2
 obtain ⟨h1,h2⟩:=splice_eq hs
 have e1:l=l.take i++a::l.drop (i+1):=by rw [←he,←List.drop_eq_getElem_cons hi,List.take_append_drop]
 have hX:((l.take i).flatMap c).length=i * sz:=by rw [flat_len' c sz hc,List.length_take,Nat.min_eq_left (by omega)]
 have e2:l.flatMap c=(l.take i).flatMap c++(c a++(l.drop (i+1)).flatMap c):=by
  conv=>lhs; rw [e1]
  rw [List.flatMap_append,List.flatMap_cons]
 rw [List.set_eq_take_append_cons_drop,if_pos hi,List.flatMap_append,List.flatMap_cons,h1,e2]
 generalize (l.take i).flatMap c=X at hX
 generalize (l.drop (i+1)).flatMap c=Y
 generalize c a=Z at h2
 rw [←hX]
 refine ⟨?_,by simp only [List.length_append]; omega⟩
 rw [List.take_append,List.take_of_length_le (by omega),List.drop_append,List.drop_eq_nil_of_le (by omega),List.take_append_of_le_length (by omega),List.drop_append_of_le_length (by omega),
  show X.length+k - X.length=k by omega,show X.length+k+vs.length - X.length=k+vs.length by omega]
 simp
theorem fr_put {f:FR} (hf:f.ok) {i:Nat} {m:RrM} (h:f.rs[i]? = some m) {b o:Nat} (hla:f.la=some ⟨b,o,none⟩) {k:Nat} {v:Value} {r':Rc} (hb:r'.bs=m.r.bs) (hs:spliceK m.cells k [v] some=some ({ m with r:=r' }:RrM).cells) :
 ∃ f':FR,f'.ok∧PutAt b (o+(i:Int).toNat * 15+k) [v] f.H f'.H∧f'.R=f.R∧f'.la=f.la∧f'.ln=f.ln∧f'.lc=f.lc∧f'.c=f.c∧f'.paths=f.paths∧f'.rs=f.rs.set i { m with r:=r' }:=by
 obtain ⟨h1,h2⟩:=flat_put (c:=RrM.cells) (sz:=15) (fun _=>rfl) h hs
 have hown:=hf.own
 rw [hla] at hown
 obtain ⟨lb',h3,h4⟩:=OwnS.put hown (i * 15+k) [v] h2
 rw [h1] at h3
 have hbb:(f.rs.set i { m with r:=r' }).flatMap (·.bb)=f.rs.flatMap (·.bb):=by
  have hi:=(List.getElem?_eq_some_iff.1 h).1
  have he:=(List.getElem?_eq_some_iff.1 h).2
  have e1:f.rs=f.rs.take i++m::f.rs.drop (i+1):=by rw [←he,←List.drop_eq_getElem_cons hi,List.take_append_drop]
  rw [List.set_eq_take_append_cons_drop,if_pos hi]
  conv=>rhs; rw [e1]
  rw [List.flatMap_append,List.flatMap_cons,List.flatMap_append,List.flatMap_cons]
 refine ⟨{ f with lb:=lb',rs:=f.rs.set i { m with r:=r' } },⟨by dsimp only; rw [hla]; exact h3,fun q hq=>?_,by simpa using hf.few⟩,?_,rfl,rfl,rfl,rfl,rfl,rfl,rfl⟩
 · rcases List.mem_or_eq_of_mem_set hq with hq | rfl
   · exact hf.recs q hq
   · have:=hf.recs m (List.mem_of_getElem? h)
     dsimp only
     rw [hb]
     exact this
 · unfold FR.H FR.hd
   dsimp only
   rw [hbb,show o+(i:Int).toNat * 15+k=o+(i * 15+k) by omega]
   exact .there (.left h4)
def FR.empty (b:Nat) (paths first:Int):FR:=⟨b,none,0,0,[],[],Spn.u32 (first - 1),paths⟩
theorem FR.empty_ok (b:Nat) (paths first:Int):(FR.empty b paths first).ok:=⟨.inl ⟨rfl,rfl,rfl⟩,fun m hm=>by simp [FR.empty] at hm,by simp [FR.empty]⟩
theorem frnew_tr (F:Nat→Option Obj) (paths first:Int):Tr Tryz.prog 27 [.int .i64 paths,.int .u32 first].toArray F [] (fun v H=>
 (¬ (1≤paths∧paths≤4)∧v=tup [.pointer none,.int .i64 1]∧H=[])∨((1≤paths∧paths≤4)∧∃ b,v=tup [.pointer (some ⟨b,0,none⟩),.int .i64 0]∧H=(FR.empty b paths first).H)):=by
 refine Tr.enter Tryz.func27 rfl Tryz.ntmps27 rfl (fun w0=>?_)
 refine SPS ?_; repeat' (first|refine ⟨fun hc=>?_,fun hc=>?_⟩|intro)
 · exact Fin.retW (by exact rfl) resA (fun _ h=>h) (.inl ⟨fun h=>by have:=of_decide_eq_true hc; omega,rfl,rfl⟩)
 · exact Fin.retW (by exact rfl) resA (fun _ h=>h) (.inl ⟨fun h=>by have:=of_decide_eq_true hc; omega,rfl,rfl⟩)
 · rename_i h1 b
   have h1:=of_decide_eq_false h1
   have h2:=of_decide_eq_false hc
   exact Fin.retW (by exact rfl) resA (fun _ h=>h) (.inr ⟨by omega,b,rfl,rfl⟩)
theorem rcum_tr (F:Nat→Option Obj) (f:FR):Tr Tryz.prog 8 [.pointer (some ⟨f.R,0,none⟩)].toArray F f.H (fun v H=>v=.int .u32 f.c∧H=f.H):=by
 refine Tr.enter Tryz.func8 rfl Tryz.ntmps8 rfl (fun w0=>?_)
 unfold FR.H FR.hd
 refine SPS ?_; repeat' (first|refine ⟨fun hc=>?_,fun hc=>?_⟩|intro)
 exact Fin.retW (by exact rfl) resA (fun _ h=>h) ⟨rfl,rfl⟩
theorem rcount_tr (F:Nat→Option Obj) (f:FR):Tr Tryz.prog 48 [.pointer (some ⟨f.R,0,none⟩)].toArray F f.H (fun v H=>v=.int .i64 f.ln∧H=f.H):=by
 refine Tr.enter Tryz.func48 rfl Tryz.ntmps48 rfl (fun w0=>?_)
 unfold FR.H FR.hd
 refine SPS ?_; repeat' (first|refine ⟨fun hc=>?_,fun hc=>?_⟩|intro)
 exact Fin.retW (by exact rfl) resA (fun _ h=>h) ⟨rfl,rfl⟩
theorem raway_tr (F:Nat→Option Obj) (m:RrM):Tr Tryz.prog 126 [.agg m.cells.toArray].toArray F [] (fun v H=>v=.bool (Flt.away m.r)∧H=[]):=by
 refine Tr.enter Tryz.func126 rfl Tryz.ntmps126 rfl (fun w0=>?_)
 unfold RrM.cells
 refine SPS ?_; repeat' (first|refine ⟨fun hc=>?_,fun hc=>?_⟩|intro)
 all_goals
  refine Fin.retW (by exact rfl) resA (fun _ h=>h.sublist (List.nil_sublist _)) ⟨?_,rfl⟩
  unfold Flt.away
  dsimp only [tup]
  simp_all
end Go.Proofs.YtlfpemmdehmbfaaGreat
namespace Go.Proofs.YtlfpemmdehmbfaaGreat
open Go Go.Sl Go.Flt
theorem fr_sum {f:FR} (hs:f.small) (q:Rc→Bool) (i:Nat):sumB q (f.S.L.take i)≤1000000000000:=by
 have h1:=sumB_take q f.S.L i
 have h2:sumB q f.S.L≤sumB (fun _=>true) f.S.L:=sumB_mono (fun _ _=>rfl)
 have h3:sumB (fun _=>true) f.S.L≤1000000000000:=hs
 omega
theorem fr_r {f:FR} {i:Nat} {m:RrM} (h:f.rs[i]? = some m):f.S.L[i]? = some m.r:=by
 show (f.rs.map (·.r))[i]? = _
 rw [List.getElem?_map,h]
 rfl
theorem fr_bn {f:FR} (hf:f.ok) {i:Nat} {m:RrM} (h:f.rs[i]? = some m):m.r.bs.length=m.bn:=by
 have:=OwnS.len (hf.recs m (List.mem_of_getElem? h))
 simpa using this
theorem fr_len {f:FR} (hf:f.ok):f.S.L.length=f.ln:=by
 have:=hf.len
 show (f.rs.map (·.r)).length=_
 rw [List.length_map,this]
set_option maxHeartbeats 2000000 in
theorem ropen_tr (F:Nat→Option Obj) (f:FR) (hf:f.ok) (hs:f.small):Tr Tryz.prog 102 [.pointer (some ⟨f.R,0,none⟩)].toArray F f.H (fun v H=>v=.int .i64 (Flt.openB f.S)∧H=f.H):=by
 refine Tr.enter Tryz.func102 rfl Tryz.ntmps102 rfl (fun w0=>?_)
 have hlen:=hf.len
 have hsl:=fr_len hf
 have hfew:=hf.few
 unfold FR.H FR.hd
 refine SPS ?_; repeat' (first|refine ⟨fun hc=>?_,fun hc=>?_⟩|intro)
 refine W.loop (G:=Nat) (fun i=>[(0,.pointer (some ⟨f.R,0,none⟩)),(3,.int .i64 (sumB unack (f.S.L.take i):Nat)),(4,.int .i64 i)]) (fun _=>(f.R,.cells [.slice f.la f.ln f.lc,.int .u32 f.c,.int .i64 f.paths].toArray 104 (0,0))::(f.lb++f.rs.flatMap (·.bb))) (fun i=>i≤f.ln) (fun i=>f.ln - i) 0 (Nat.zero_le _) envA (fun _ h=>h) ?_
 intro i hi
 refine SPS ?_; repeat' (first|refine ⟨fun hc=>?_,fun hc=>?_⟩|intro)
 rotate_right
 · have hin:i=f.ln:=by have:=of_decide_eq_false (p:=(i:Int) < (f.ln:Int)) (by assumption); omega
   rw [List.take_of_length_le (by omega)]
   exact Fin.retW (by exact rfl) resA (fun _ h=>h) ⟨rfl,rfl⟩
 have hi':i < f.ln:=by have:=of_decide_eq_true (p:=(i:Int) < (f.ln:Int)) (by assumption); omega
 obtain ⟨m,hm⟩:∃ m,f.rs[i]? = some m:=⟨f.rs[i]'(by omega),by simp⟩
 obtain ⟨lb,lo,hla,hcan⟩:=fr_el (F:=F) hf hm
 have hmr:=fr_r hm
 have hbn:=fr_bn hf hm
 have hia:0≤(i:Int)∧(i:Int) < f.ln:=by omega
 unfold FR.H FR.hd at hcan
 have c6:Sl.Can F ((f.R,.cells [.slice f.la f.ln f.lc,.int .u32 f.c,.int .i64 f.paths].toArray 104 (0,0))::(f.lb++f.rs.flatMap (·.bb))) lb (lo+(i:Int).toNat * 15+0+6) [.slice m.ba m.bn m.bc]:=hcan.one (i:=6) rfl
 have c0:Sl.Can F ((f.R,.cells [.slice f.la f.ln f.lc,.int .u32 f.c,.int .i64 f.paths].toArray 104 (0,0))::(f.lb++f.rs.flatMap (·.bb))) lb (lo+(i:Int).toNat * 15+0+0) [.int .u32 m.r.tsn]:=hcan.one (i:=0) rfl
 have c7:Sl.Can F ((f.R,.cells [.slice f.la f.ln f.lc,.int .u32 f.c,.int .i64 f.paths].toArray 104 (0,0))::(f.lb++f.rs.flatMap (·.bb))) lb (lo+(i:Int).toNat * 15+7) [.int .i64 m.r.path]:=hcan.one (i:=7) rfl
 have c9:Sl.Can F ((f.R,.cells [.slice f.la f.ln f.lc,.int .u32 f.c,.int .i64 f.paths].toArray 104 (0,0))::(f.lb++f.rs.flatMap (·.bb))) lb (lo+(i:Int).toNat * 15+9) [.int .i64 m.r.id]:=hcan.one (i:=9) rfl
 have c11:Sl.Can F ((f.R,.cells [.slice f.la f.ln f.lc,.int .u32 f.c,.int .i64 f.paths].toArray 104 (0,0))::(f.lb++f.rs.flatMap (·.bb))) lb (lo+(i:Int).toNat * 15+11) [.bool m.r.acked]:=hcan.one (i:=11) rfl
 have c12:Sl.Can F ((f.R,.cells [.slice f.la f.ln f.lc,.int .u32 f.c,.int .i64 f.paths].toArray 104 (0,0))::(f.lb++f.rs.flatMap (·.bb))) lb (lo+(i:Int).toNat * 15+12) [.bool m.r.lost]:=hcan.one (i:=12) rfl
 have c13:Sl.Can F ((f.R,.cells [.slice f.la f.ln f.lc,.int .u32 f.c,.int .i64 f.paths].toArray 104 (0,0))::(f.lb++f.rs.flatMap (·.bb))) lb (lo+(i:Int).toNat * 15+13) [.bool m.r.gone]:=hcan.one (i:=13) rfl
 rw [hla] at c0 c6 c7 c9 c11 c12 c13 hcan ⊢
 have hsn:=sumB_snoc unack hmr
 have hsm:=fr_sum hs unack (i+1)
 unfold unack at hsn
 refine SPS ?_; repeat' (first|refine ⟨fun hc=>?_,fun hc=>?_⟩|intro)
 · rw [if_pos hc] at hsn
   rw [i64_succ (by omega),show IntKind.i64.wrap ((sumB unack (f.S.L.take i):Nat)+(m.bn:Int))=((sumB unack (f.S.L.take (i+1)):Nat):Int) by unfold unack at hsm ⊢; rw [i64_id (by omega) (by omega)]; omega]
   exact Fin.round (i+1) hi' envA (fun _ h=>h) (by omega)
 · rw [if_neg (by rw [hc]; decide),Nat.add_zero] at hsn
   rw [i64_succ (by omega)]
   exact Fin.round (i+1) hi' (by unfold unack; rw [hsn]; exact envA) (fun _ h=>h) (by omega)
set_option maxHeartbeats 2000000 in
theorem rout_tr (F:Nat→Option Obj) (f:FR) (hf:f.ok) (hs:f.small) (p:Int):Tr Tryz.prog 57 [.pointer (some ⟨f.R,0,none⟩),.int .i64 p].toArray F f.H (fun v H=>v=.int .i64 (Flt.out f.S p)∧H=f.H):=by
 refine Tr.enter Tryz.func57 rfl Tryz.ntmps57 rfl (fun w0=>?_)
 have hlen:=hf.len
 have hsl:=fr_len hf
 have hfew:=hf.few
 unfold FR.H FR.hd
 refine SPS ?_; repeat' (first|refine ⟨fun hc=>?_,fun hc=>?_⟩|intro)
 refine W.loop (G:=Nat) (fun i=>[(0,.pointer (some ⟨f.R,0,none⟩)),(1,.int .i64 p),(5,.int .i64 (sumB (byP p) (f.S.L.take i):Nat)),(6,.int .i64 i)]) (fun _=>(f.R,.cells [.slice f.la f.ln f.lc,.int .u32 f.c,.int .i64 f.paths].toArray 104 (0,0))::(f.lb++f.rs.flatMap (·.bb))) (fun i=>i≤f.ln) (fun i=>f.ln - i) 0 (Nat.zero_le _) envA (fun _ h=>h) ?_
 intro i hi
 refine SPS ?_; repeat' (first|refine ⟨fun hc=>?_,fun hc=>?_⟩|intro)
 rotate_right
 · have hin:i=f.ln:=by have:=of_decide_eq_false (p:=(i:Int) < (f.ln:Int)) (by assumption); omega
   rw [List.take_of_length_le (by omega)]
   exact Fin.retW (by exact rfl) resA (fun _ h=>h) ⟨rfl,rfl⟩
 have hi':i < f.ln:=by have:=of_decide_eq_true (p:=(i:Int) < (f.ln:Int)) (by assumption); omega
 obtain ⟨m,hm⟩:∃ m,f.rs[i]? = some m:=⟨f.rs[i]'(by omega),by simp⟩
 obtain ⟨lb,lo,hla,hcan⟩:=fr_el (F:=F) hf hm
 have hmr:=fr_r hm
 have hbn:=fr_bn hf hm
 have hia:0≤(i:Int)∧(i:Int) < f.ln:=by omega
 unfold FR.H FR.hd at hcan
 have c6:Sl.Can F ((f.R,.cells [.slice f.la f.ln f.lc,.int .u32 f.c,.int .i64 f.paths].toArray 104 (0,0))::(f.lb++f.rs.flatMap (·.bb))) lb (lo+(i:Int).toNat * 15+0+6) [.slice m.ba m.bn m.bc]:=hcan.one (i:=6) rfl
 have c0:Sl.Can F ((f.R,.cells [.slice f.la f.ln f.lc,.int .u32 f.c,.int .i64 f.paths].toArray 104 (0,0))::(f.lb++f.rs.flatMap (·.bb))) lb (lo+(i:Int).toNat * 15+0+0) [.int .u32 m.r.tsn]:=hcan.one (i:=0) rfl
 have c7:Sl.Can F ((f.R,.cells [.slice f.la f.ln f.lc,.int .u32 f.c,.int .i64 f.paths].toArray 104 (0,0))::(f.lb++f.rs.flatMap (·.bb))) lb (lo+(i:Int).toNat * 15+7) [.int .i64 m.r.path]:=hcan.one (i:=7) rfl
 have c9:Sl.Can F ((f.R,.cells [.slice f.la f.ln f.lc,.int .u32 f.c,.int .i64 f.paths].toArray 104 (0,0))::(f.lb++f.rs.flatMap (·.bb))) lb (lo+(i:Int).toNat * 15+9) [.int .i64 m.r.id]:=hcan.one (i:=9) rfl
 have c11:Sl.Can F ((f.R,.cells [.slice f.la f.ln f.lc,.int .u32 f.c,.int .i64 f.paths].toArray 104 (0,0))::(f.lb++f.rs.flatMap (·.bb))) lb (lo+(i:Int).toNat * 15+11) [.bool m.r.acked]:=hcan.one (i:=11) rfl
 have c12:Sl.Can F ((f.R,.cells [.slice f.la f.ln f.lc,.int .u32 f.c,.int .i64 f.paths].toArray 104 (0,0))::(f.lb++f.rs.flatMap (·.bb))) lb (lo+(i:Int).toNat * 15+12) [.bool m.r.lost]:=hcan.one (i:=12) rfl
 have c13:Sl.Can F ((f.R,.cells [.slice f.la f.ln f.lc,.int .u32 f.c,.int .i64 f.paths].toArray 104 (0,0))::(f.lb++f.rs.flatMap (·.bb))) lb (lo+(i:Int).toNat * 15+13) [.bool m.r.gone]:=hcan.one (i:=13) rfl
 rw [hla] at c0 c6 c7 c9 c11 c12 c13 hcan ⊢
 have hsn:=sumB_snoc (byP p) hmr
 have hsm:=fr_sum hs (byP p) (i+1)
 refine SPS ?_; repeat' (first|refine ⟨fun hc=>?_,fun hc=>?_⟩|intro)
 refine WL.s rfl (Rd.ldaC rfl rfl hcan) ?_
 refine WL.e rfl (Ef.callR (by exact rfl) (.nil _) (raway_tr _ m)) ?_
 rintro _ _ ⟨rfl,rfl⟩
 refine SPS ?_; repeat' (first|refine ⟨fun hc=>?_,fun hc=>?_⟩|intro)
 · have hb:byP p m.r=true:=by unfold byP; rw [decide_eq_true (eq_of_beq hc),show Flt.away m.r=true by assumption]; rfl
   rw [if_pos hb] at hsn
   rw [i64_succ (by omega),show IntKind.i64.wrap ((sumB (byP p) (f.S.L.take i):Nat)+(m.bn:Int))=((sumB (byP p) (f.S.L.take (i+1)):Nat):Int) by rw [i64_id (by omega) (by omega)]; omega]
   exact Fin.round (i+1) hi' envA (fun _ h=>h) (by omega)
 · have hb:¬ byP p m.r=true:=by unfold byP; rw [decide_eq_false (ne_of_beq_false hc)]; simp
   rw [if_neg hb,Nat.add_zero] at hsn
   rw [i64_succ (by omega)]
   exact Fin.round (i+1) hi' (by rw [hsn]; exact envA) (fun _ h=>h) (by omega)
 · have hb:¬ byP p m.r=true:=by unfold byP; rw [show Flt.away m.r=false from hc]; simp
   rw [if_neg hb,Nat.add_zero] at hsn
   rw [i64_succ (by omega)]
   exact Fin.round (i+1) hi' (by rw [hsn]; exact envA) (fun _ h=>h) (by omega)
structure RlG where
 i:Nat
 sa:Option Addr
 sn:Nat
 sc:Nat
 hb:HL
theorem lost_snoc {L:List Rc} {i:Nat} {r:Rc} (h:L[i]? = some r):(((L.take (i+1)).filter openR).map (·.tsn))=(((L.take i).filter openR).map (·.tsn))++if openR r then [r.tsn] else []:=by
 rw [List.take_add_one,h,Option.toList_some,List.filter_append,List.map_append]
 congr 1
 cases hq:openR r <;> simp [hq]
set_option maxHeartbeats 4000000 in
theorem rlost_tr (F:Nat→Option Obj) (f:FR) (hf:f.ok):Tr Tryz.prog 169 [.pointer (some ⟨f.R,0,none⟩)].toArray F f.H (fun v H=>∃ (sa:Option Addr) (sn sc:Nat) (hb:HL),v=.slice sa sn sc∧OwnS 24 1 ((Flt.lostL f.S).map (Value.int .u32)) (.slice sa sn sc) hb∧H=hb++f.H):=by
 refine Tr.enter Tryz.func169 rfl Tryz.ntmps169 rfl (fun w0=>?_)
 have hlen:=hf.len
 have hsl:=fr_len hf
 have hfew:=hf.few
 unfold FR.H FR.hd
 refine SPS ?_; repeat' (first|refine ⟨fun hc=>?_,fun hc=>?_⟩|intro)
 refine W.loop (G:=RlG) (fun g=>[(0,.pointer (some ⟨f.R,0,none⟩)),(3,.slice g.sa g.sn g.sc),(4,.int .i64 g.i)]) (fun g=>g.hb++((f.R,.cells [.slice f.la f.ln f.lc,.int .u32 f.c,.int .i64 f.paths].toArray 104 (0,0))::(f.lb++f.rs.flatMap (·.bb))))
  (fun g=>g.i≤f.ln∧OwnS 24 1 ((((f.S.L.take g.i).filter openR).map (·.tsn)).map (Value.int .u32)) (.slice g.sa g.sn g.sc) g.hb∧(((f.S.L.take g.i).filter openR).map (·.tsn)).length≤g.i) (fun g=>f.ln - g.i) ⟨0,none,0,0,[]⟩ ⟨Nat.zero_le _,.inl ⟨rfl,rfl,rfl⟩,Nat.le_refl _⟩ envA (fun _ h=>h) ?_
 rintro ⟨i,sa,sn,sc,hb⟩ ⟨hi,hown,hol⟩
 dsimp only at hi hown hol ⊢
 refine SPS ?_; repeat' (first|refine ⟨fun hc=>?_,fun hc=>?_⟩|intro)
 rotate_right
 · have hin:i=f.ln:=by have:=of_decide_eq_false (p:=(i:Int) < (f.ln:Int)) (by assumption); omega
   rw [List.take_of_length_le (by omega)] at hown
   exact Fin.retW (by exact rfl) resA (fun _ h=>h) ⟨sa,sn,sc,hb,rfl,hown,rfl⟩
 have hi':i < f.ln:=by have:=of_decide_eq_true (p:=(i:Int) < (f.ln:Int)) (by assumption); omega
 obtain ⟨m,hm⟩:∃ m,f.rs[i]? = some m:=⟨f.rs[i]'(by omega),by simp⟩
 obtain ⟨lb,lo,hla,hcan⟩:=fr_el (F:=F) hf hm
 have hmr:=fr_r hm
 have hbn:=fr_bn hf hm
 have hia:0≤(i:Int)∧(i:Int) < f.ln:=by omega
 unfold FR.H FR.hd at hcan
 have c6:Sl.Can F ((f.R,.cells [.slice f.la f.ln f.lc,.int .u32 f.c,.int .i64 f.paths].toArray 104 (0,0))::(f.lb++f.rs.flatMap (·.bb))) lb (lo+(i:Int).toNat * 15+0+6) [.slice m.ba m.bn m.bc]:=hcan.one (i:=6) rfl
 have c0:Sl.Can F ((f.R,.cells [.slice f.la f.ln f.lc,.int .u32 f.c,.int .i64 f.paths].toArray 104 (0,0))::(f.lb++f.rs.flatMap (·.bb))) lb (lo+(i:Int).toNat * 15+0+0) [.int .u32 m.r.tsn]:=hcan.one (i:=0) rfl
 have c7:Sl.Can F ((f.R,.cells [.slice f.la f.ln f.lc,.int .u32 f.c,.int .i64 f.paths].toArray 104 (0,0))::(f.lb++f.rs.flatMap (·.bb))) lb (lo+(i:Int).toNat * 15+7) [.int .i64 m.r.path]:=hcan.one (i:=7) rfl
 have c9:Sl.Can F ((f.R,.cells [.slice f.la f.ln f.lc,.int .u32 f.c,.int .i64 f.paths].toArray 104 (0,0))::(f.lb++f.rs.flatMap (·.bb))) lb (lo+(i:Int).toNat * 15+9) [.int .i64 m.r.id]:=hcan.one (i:=9) rfl
 have c11:Sl.Can F ((f.R,.cells [.slice f.la f.ln f.lc,.int .u32 f.c,.int .i64 f.paths].toArray 104 (0,0))::(f.lb++f.rs.flatMap (·.bb))) lb (lo+(i:Int).toNat * 15+11) [.bool m.r.acked]:=hcan.one (i:=11) rfl
 have c12:Sl.Can F ((f.R,.cells [.slice f.la f.ln f.lc,.int .u32 f.c,.int .i64 f.paths].toArray 104 (0,0))::(f.lb++f.rs.flatMap (·.bb))) lb (lo+(i:Int).toNat * 15+12) [.bool m.r.lost]:=hcan.one (i:=12) rfl
 have c13:Sl.Can F ((f.R,.cells [.slice f.la f.ln f.lc,.int .u32 f.c,.int .i64 f.paths].toArray 104 (0,0))::(f.lb++f.rs.flatMap (·.bb))) lb (lo+(i:Int).toNat * 15+13) [.bool m.r.gone]:=hcan.one (i:=13) rfl
 rw [hla] at c0 c6 c7 c9 c11 c12 c13 hcan ⊢
 have hsn:=lost_snoc hmr
 have hw:∀ w,In F (hb++((f.R,.cells [.slice (some ⟨lb,lo,none⟩) f.ln f.lc,.int .u32 f.c,.int .i64 f.paths].toArray 104 (0,0))::(f.lb++f.rs.flatMap (·.bb)))) w→In F ((f.R,.cells [.slice (some ⟨lb,lo,none⟩) f.ln f.lc,.int .u32 f.c,.int .i64 f.paths].toArray 104 (0,0))::(f.lb++f.rs.flatMap (·.bb))) w:=fun _ h=>h.right
 have d0:=c0.mono hw
 have d11:=c11.mono hw
 have d12:=c12.mono hw
 have d13:=c13.mono hw
 refine SPS ?_; repeat' (first|refine ⟨fun hc=>?_,fun hc=>?_⟩|intro)
 · have ho:openR m.r=true:=by
    unfold openR
    rw [show m.r.lost=true by assumption,show (!m.r.acked)=true by assumption,show (!m.r.gone)=true by assumption]
    rfl
   refine WL.e rfl (Ef.app (m:=1) (news:=[.int .u32 m.r.tsn]) (by exact rfl) (by exact rfl) rfl rfl hown (.last (.there .here)) (Src.own (n:=1) (.here rfl)) rfl (by intro u hu; rw [List.mem_singleton.1 hu]; rfl) (by rw [List.length_map]; simp only [List.length_singleton]; omega) (by rw [List.length_map]; simp only [List.length_singleton]; unfold maxLen; omega)) ?_
   rintro v' _ ⟨hb2,hown2,rfl⟩
   obtain ⟨sa2,sn2,sc2,rfl,_,_⟩:=OwnS.shape hown2
   rw [if_pos ho] at hsn
   refine SPS ?_; repeat' (first|refine ⟨fun hc=>?_,fun hc=>?_⟩|intro)
   rw [i64_succ (by omega)]
   refine Fin.round ⟨i+1,sa2,sn2,sc2,hb2⟩ ⟨hi',by dsimp only; rw [hsn,List.map_append]; exact hown2,by dsimp only; rw [hsn,List.length_append]; simp only [List.length_singleton]; omega⟩ envA (fun _ h=>?_) (by dsimp only; omega)
   exact h.sublist (.append (.refl _) (.cons _ (.refl _)))
 · have ho:openR m.r=false:=by unfold openR; rw [show (!m.r.gone)=false by assumption,Bool.and_false]
   rw [if_neg (by rw [ho]; decide),List.append_nil] at hsn
   rw [i64_succ (by omega)]
   exact Fin.round ⟨i+1,sa,sn,sc,hb⟩ ⟨hi',by dsimp only; rw [hsn]; exact hown,by dsimp only; rw [hsn]; omega⟩ envA (fun _ h=>h) (by dsimp only; omega)
 · have ho:openR m.r=false:=by unfold openR; rw [show (!m.r.acked)=false by assumption,Bool.and_false,Bool.false_and]
   rw [if_neg (by rw [ho]; decide),List.append_nil] at hsn
   rw [i64_succ (by omega)]
   exact Fin.round ⟨i+1,sa,sn,sc,hb⟩ ⟨hi',by dsimp only; rw [hsn]; exact hown,by dsimp only; rw [hsn]; omega⟩ envA (fun _ h=>h) (by dsimp only; omega)
 · have ho:openR m.r=false:=by unfold openR; rw [show m.r.lost=false by assumption,Bool.false_and,Bool.false_and]
   rw [if_neg (by rw [ho]; decide),List.append_nil] at hsn
   rw [i64_succ (by omega)]
   exact Fin.round ⟨i+1,sa,sn,sc,hb⟩ ⟨hi',by dsimp only; rw [hsn]; exact hown,by dsimp only; rw [hsn]; omega⟩ envA (fun _ h=>h) (by dsimp only; omega)
theorem set_self {L:List Rc} {i:Nat} {r:Rc} (h:L[i]? = some r):L.set i r=L:=by
 refine List.ext_getElem? (fun j=>?_)
 by_cases hj:i=j
 · subst hj
   rw [List.getElem?_set_self (List.getElem?_eq_some_iff.1 h).1,h]
 · rw [List.getElem?_set_ne hj]
structure RmG where
 i:Nat
 f:FR
set_option maxHeartbeats 4000000 in
theorem rmark_tr (F:Nat→Option Obj) (f:FR) (hf:f.ok) (p:Int):Tr Tryz.prog 105 [.pointer (some ⟨f.R,0,none⟩),.int .i64 p].toArray F f.H (fun v H=>v=.int .i64 (Flt.markN f.S p)∧∃ f':FR,f'.ok∧H=f'.H∧f'.R=f.R∧f'.S=Flt.mark f.S p):=by
 refine Tr.enter Tryz.func105 rfl Tryz.ntmps105 rfl (fun w0=>?_)
 have hsl:=fr_len hf
 have hfew:=hf.few
 have hlf:=hf.len
 refine SPS ?_; repeat' (first|refine ⟨fun hc=>?_,fun hc=>?_⟩|intro)
 refine W.loop (G:=RmG) (fun g=>[(0,.pointer (some ⟨f.R,0,none⟩)),(1,.int .i64 p),(5,.int .i64 (cntB (byP p) (f.S.L.take g.i):Nat)),(6,.int .i64 g.i)]) (fun g=>(g.f.R,.cells [.slice g.f.la g.f.ln g.f.lc,.int .u32 g.f.c,.int .i64 g.f.paths].toArray 104 (0,0))::(g.f.lb++g.f.rs.flatMap (·.bb)))
  (fun g=>g.i≤f.ln∧g.f.ok∧g.f.R=f.R∧g.f.c=f.c∧g.f.paths=f.paths∧g.f.S.L=half (byP p) setLost f.S.L g.i) (fun g=>f.ln - g.i) ⟨0,f⟩ ⟨Nat.zero_le _,hf,rfl,rfl,rfl,by dsimp only; rw [half_zero]⟩ envA (fun _ h=>h) ?_
 rintro ⟨i,g⟩ ⟨hi,hg,hgR,hgc,hgp,hgL⟩
 dsimp only at hi hg hgR hgc hgp hgL ⊢
 rw [←hgR]
 have hlen:=hg.len
 have hgl:=fr_len hg
 have hgn:g.ln=f.ln:=by rw [←hgl,hgL,half_len,hsl]
 refine SPS ?_; repeat' (first|refine ⟨fun hc=>?_,fun hc=>?_⟩|intro)
 rotate_right
 · have hin:i=f.ln:=by have:=of_decide_eq_false (p:=(i:Int) < (g.ln:Int)) (by assumption); omega
   rw [List.take_of_length_le (by omega)]
   refine Fin.retW (by exact rfl) resA (H':=g.H) (fun _ h=>h) ⟨rfl,g,hg,rfl,rfl,?_⟩
   rw [hin,←hsl,half_all] at hgL
   unfold FR.S at hgL ⊢
   rw [show g.rs.map (·.r)=_ from hgL,hgc,hgp]
   rfl
 have hi':i < g.ln:=by have:=of_decide_eq_true (p:=(i:Int) < (g.ln:Int)) (by assumption); omega
 obtain ⟨m,hm⟩:∃ m,g.rs[i]? = some m:=⟨g.rs[i]'(by omega),by simp⟩
 obtain ⟨lb,lo,hla,hcan⟩:=fr_el (F:=F) hg hm
 have hmr:=fr_r hm
 have hbn:=fr_bn hg hm
 have hia:0≤(i:Int)∧(i:Int) < g.ln:=by omega
 unfold FR.H FR.hd at hcan
 have c6:Sl.Can F ((g.R,.cells [.slice g.la g.ln g.lc,.int .u32 g.c,.int .i64 g.paths].toArray 104 (0,0))::(g.lb++g.rs.flatMap (·.bb))) lb (lo+(i:Int).toNat * 15+0+6) [.slice m.ba m.bn m.bc]:=hcan.one (i:=6) rfl
 have c0:Sl.Can F ((g.R,.cells [.slice g.la g.ln g.lc,.int .u32 g.c,.int .i64 g.paths].toArray 104 (0,0))::(g.lb++g.rs.flatMap (·.bb))) lb (lo+(i:Int).toNat * 15+0+0) [.int .u32 m.r.tsn]:=hcan.one (i:=0) rfl
 have c7:Sl.Can F ((g.R,.cells [.slice g.la g.ln g.lc,.int .u32 g.c,.int .i64 g.paths].toArray 104 (0,0))::(g.lb++g.rs.flatMap (·.bb))) lb (lo+(i:Int).toNat * 15+7) [.int .i64 m.r.path]:=hcan.one (i:=7) rfl
 have c9:Sl.Can F ((g.R,.cells [.slice g.la g.ln g.lc,.int .u32 g.c,.int .i64 g.paths].toArray 104 (0,0))::(g.lb++g.rs.flatMap (·.bb))) lb (lo+(i:Int).toNat * 15+9) [.int .i64 m.r.id]:=hcan.one (i:=9) rfl
 have c11:Sl.Can F ((g.R,.cells [.slice g.la g.ln g.lc,.int .u32 g.c,.int .i64 g.paths].toArray 104 (0,0))::(g.lb++g.rs.flatMap (·.bb))) lb (lo+(i:Int).toNat * 15+11) [.bool m.r.acked]:=hcan.one (i:=11) rfl
 have c12:Sl.Can F ((g.R,.cells [.slice g.la g.ln g.lc,.int .u32 g.c,.int .i64 g.paths].toArray 104 (0,0))::(g.lb++g.rs.flatMap (·.bb))) lb (lo+(i:Int).toNat * 15+12) [.bool m.r.lost]:=hcan.one (i:=12) rfl
 have c13:Sl.Can F ((g.R,.cells [.slice g.la g.ln g.lc,.int .u32 g.c,.int .i64 g.paths].toArray 104 (0,0))::(g.lb++g.rs.flatMap (·.bb))) lb (lo+(i:Int).toNat * 15+13) [.bool m.r.gone]:=hcan.one (i:=13) rfl
 rw [hla] at c0 c6 c7 c9 c11 c12 c13 hcan ⊢
 have hLi:f.S.L[i]? = some m.r:=by
  obtain ⟨r0,hr0⟩:∃ r0,f.S.L[i]? = some r0:=⟨f.S.L[i]'(by omega),by simp⟩
  have:=half_get (byP p) setLost hr0
  rw [←hgL,hmr] at this
  rw [hr0,←this]
 have hcs:=cntB_snoc (byP p) hLi
 have hcl:=cntB_le (byP p) (f.S.L.take i)
 rw [List.length_take] at hcl
 refine SPS ?_; repeat' (first|refine ⟨fun hc=>?_,fun hc=>?_⟩|intro)
 refine WL.s rfl (Rd.ldaC rfl rfl hcan) ?_
 refine WL.e rfl (Ef.callR (by exact rfl) (.nil _) (raway_tr _ m)) ?_
 rintro _ _ ⟨rfl,rfl⟩
 refine SPS ?_; repeat' (first|refine ⟨fun hc=>?_,fun hc=>?_⟩|intro)
 · have hb:byP p m.r=true:=by unfold byP; rw [decide_eq_true (eq_of_beq hc),show Flt.away m.r=true by assumption]; rfl
   obtain ⟨g2,hg2,hput,h2R,h2a,h2n,h2c,h2cc,h2p,h2s⟩:=fr_put hg hm hla (k:=12) (v:=.bool true) (r':=setLost m.r) rfl rfl
   refine WL.e0 (Ef.st rfl rfl rfl (by unfold FR.H FR.hd at hput; rw [hla] at hput; exact hput)) ?_
   rintro _ _ ⟨_,rfl⟩
   have hh:=half_succ (byP p) setLost hLi
   rw [if_pos hb,←hgL] at hh
   rw [if_pos hb] at hcs
   rw [←h2R]
   refine SPS ?_; repeat' (first|refine ⟨fun hc=>?_,fun hc=>?_⟩|intro)
   rw [i64_succ (by omega),i64_succ (by omega)]
   refine Fin.round ⟨i+1,g2⟩ ⟨by dsimp only; omega,hg2,rfl,h2cc.trans hgc,h2p.trans hgp,?_⟩ (by dsimp only; rw [hcs]; exact envA) (fun _ h=>h) (by dsimp only; omega)
   dsimp only
   rw [hh]
   unfold FR.S
   dsimp only
   rw [h2s,List.map_set]
 · have hb:¬ byP p m.r=true:=by unfold byP; rw [decide_eq_false (ne_of_beq_false hc)]; simp
   have hh:=half_succ (byP p) setLost hLi
   rw [if_neg hb,set_self (half_get _ _ hLi)] at hh
   rw [if_neg hb,Nat.add_zero] at hcs
   rw [i64_succ (by omega)]
   exact Fin.round ⟨i+1,g⟩ ⟨by dsimp only; omega,hg,rfl,hgc,hgp,by dsimp only; rw [hh]; exact hgL⟩ (by dsimp only; rw [hcs]; exact envA) (fun _ h=>by dsimp only; rw [hla]; exact h) (by dsimp only; omega)
 · have hb:¬ byP p m.r=true:=by unfold byP; rw [show Flt.away m.r=false from hc]; simp
   have hh:=half_succ (byP p) setLost hLi
   rw [if_neg hb,set_self (half_get _ _ hLi)] at hh
   rw [if_neg hb,Nat.add_zero] at hcs
   rw [i64_succ (by omega)]
   exact Fin.round ⟨i+1,g⟩ ⟨by dsimp only; omega,hg,rfl,hgc,hgp,by dsimp only; rw [hh]; exact hgL⟩ (by dsimp only; rw [hcs]; exact envA) (fun _ h=>by dsimp only; rw [hla]; exact h) (by dsimp only; omega)
set_option maxHeartbeats 4000000 in
theorem rabandon_tr (F:Nat→Option Obj) (f:FR) (hf:f.ok) (p:Int):Tr Tryz.prog 104 [.pointer (some ⟨f.R,0,none⟩),.int .i64 p].toArray F f.H (fun v H=>v=.int .i64 (Flt.abandonN f.S p)∧∃ f':FR,f'.ok∧H=f'.H∧f'.R=f.R∧f'.S=Flt.abandon f.S p):=by
 refine Tr.enter Tryz.func104 rfl Tryz.ntmps104 rfl (fun w0=>?_)
 have hsl:=fr_len hf
 have hfew:=hf.few
 have hlf:=hf.len
 refine SPS ?_; repeat' (first|refine ⟨fun hc=>?_,fun hc=>?_⟩|intro)
 refine W.loop (G:=RmG) (fun g=>[(0,.pointer (some ⟨f.R,0,none⟩)),(1,.int .i64 p),(5,.int .i64 (cntB (ofId p) (f.S.L.take g.i):Nat)),(6,.int .i64 g.i)]) (fun g=>(g.f.R,.cells [.slice g.f.la g.f.ln g.f.lc,.int .u32 g.f.c,.int .i64 g.f.paths].toArray 104 (0,0))::(g.f.lb++g.f.rs.flatMap (·.bb)))
  (fun g=>g.i≤f.ln∧g.f.ok∧g.f.R=f.R∧g.f.c=f.c∧g.f.paths=f.paths∧g.f.S.L=half (ofId p) setGone f.S.L g.i) (fun g=>f.ln - g.i) ⟨0,f⟩ ⟨Nat.zero_le _,hf,rfl,rfl,rfl,by dsimp only; rw [half_zero]⟩ envA (fun _ h=>h) ?_
 rintro ⟨i,g⟩ ⟨hi,hg,hgR,hgc,hgp,hgL⟩
 dsimp only at hi hg hgR hgc hgp hgL ⊢
 rw [←hgR]
 have hlen:=hg.len
 have hgl:=fr_len hg
 have hgn:g.ln=f.ln:=by rw [←hgl,hgL,half_len,hsl]
 refine SPS ?_; repeat' (first|refine ⟨fun hc=>?_,fun hc=>?_⟩|intro)
 rotate_right
 · have hin:i=f.ln:=by have:=of_decide_eq_false (p:=(i:Int) < (g.ln:Int)) (by assumption); omega
   rw [List.take_of_length_le (by omega)]
   refine Fin.retW (by exact rfl) resA (H':=g.H) (fun _ h=>h) ⟨rfl,g,hg,rfl,rfl,?_⟩
   rw [hin,←hsl,half_all] at hgL
   unfold FR.S at hgL ⊢
   rw [show g.rs.map (·.r)=_ from hgL,hgc,hgp]
   rfl
 have hi':i < g.ln:=by have:=of_decide_eq_true (p:=(i:Int) < (g.ln:Int)) (by assumption); omega
 obtain ⟨m,hm⟩:∃ m,g.rs[i]? = some m:=⟨g.rs[i]'(by omega),by simp⟩
 obtain ⟨lb,lo,hla,hcan⟩:=fr_el (F:=F) hg hm
 have hmr:=fr_r hm
 have hbn:=fr_bn hg hm
 have hia:0≤(i:Int)∧(i:Int) < g.ln:=by omega
 unfold FR.H FR.hd at hcan
 have c6:Sl.Can F ((g.R,.cells [.slice g.la g.ln g.lc,.int .u32 g.c,.int .i64 g.paths].toArray 104 (0,0))::(g.lb++g.rs.flatMap (·.bb))) lb (lo+(i:Int).toNat * 15+0+6) [.slice m.ba m.bn m.bc]:=hcan.one (i:=6) rfl
 have c0:Sl.Can F ((g.R,.cells [.slice g.la g.ln g.lc,.int .u32 g.c,.int .i64 g.paths].toArray 104 (0,0))::(g.lb++g.rs.flatMap (·.bb))) lb (lo+(i:Int).toNat * 15+0+0) [.int .u32 m.r.tsn]:=hcan.one (i:=0) rfl
 have c7:Sl.Can F ((g.R,.cells [.slice g.la g.ln g.lc,.int .u32 g.c,.int .i64 g.paths].toArray 104 (0,0))::(g.lb++g.rs.flatMap (·.bb))) lb (lo+(i:Int).toNat * 15+7) [.int .i64 m.r.path]:=hcan.one (i:=7) rfl
 have c9:Sl.Can F ((g.R,.cells [.slice g.la g.ln g.lc,.int .u32 g.c,.int .i64 g.paths].toArray 104 (0,0))::(g.lb++g.rs.flatMap (·.bb))) lb (lo+(i:Int).toNat * 15+9) [.int .i64 m.r.id]:=hcan.one (i:=9) rfl
 have c11:Sl.Can F ((g.R,.cells [.slice g.la g.ln g.lc,.int .u32 g.c,.int .i64 g.paths].toArray 104 (0,0))::(g.lb++g.rs.flatMap (·.bb))) lb (lo+(i:Int).toNat * 15+11) [.bool m.r.acked]:=hcan.one (i:=11) rfl
 have c12:Sl.Can F ((g.R,.cells [.slice g.la g.ln g.lc,.int .u32 g.c,.int .i64 g.paths].toArray 104 (0,0))::(g.lb++g.rs.flatMap (·.bb))) lb (lo+(i:Int).toNat * 15+12) [.bool m.r.lost]:=hcan.one (i:=12) rfl
 have c13:Sl.Can F ((g.R,.cells [.slice g.la g.ln g.lc,.int .u32 g.c,.int .i64 g.paths].toArray 104 (0,0))::(g.lb++g.rs.flatMap (·.bb))) lb (lo+(i:Int).toNat * 15+13) [.bool m.r.gone]:=hcan.one (i:=13) rfl
 rw [hla] at c0 c6 c7 c9 c11 c12 c13 hcan ⊢
 have hLi:f.S.L[i]? = some m.r:=by
  obtain ⟨r0,hr0⟩:∃ r0,f.S.L[i]? = some r0:=⟨f.S.L[i]'(by omega),by simp⟩
  have:=half_get (ofId p) setGone hr0
  rw [←hgL,hmr] at this
  rw [hr0,←this]
 have hcs:=cntB_snoc (ofId p) hLi
 have hcl:=cntB_le (ofId p) (f.S.L.take i)
 rw [List.length_take] at hcl
 refine SPS ?_; repeat' (first|refine ⟨fun hc=>?_,fun hc=>?_⟩|intro)
 · have hb:ofId p m.r=true:=by
    unfold ofId
    rw [decide_eq_true (eq_of_beq ‹(m.r.id == p)=true›),show (!m.r.acked)=true by assumption,show (!m.r.gone)=true by assumption]
    rfl
   obtain ⟨g2,hg2,hput,h2R,h2a,h2n,h2c,h2cc,h2p,h2s⟩:=fr_put hg hm hla (k:=13) (v:=.bool true) (r':=setGone m.r) rfl rfl
   refine WL.e0 (Ef.st rfl rfl rfl (by unfold FR.H FR.hd at hput; rw [hla] at hput; exact hput)) ?_
   rintro _ _ ⟨_,rfl⟩
   have hh:=half_succ (ofId p) setGone hLi
   rw [if_pos hb,←hgL] at hh
   rw [if_pos hb] at hcs
   rw [←h2R]
   refine SPS ?_; repeat' (first|refine ⟨fun hc=>?_,fun hc=>?_⟩|intro)
   rw [i64_succ (by omega),i64_succ (by omega)]
   refine Fin.round ⟨i+1,g2⟩ ⟨by dsimp only; omega,hg2,rfl,h2cc.trans hgc,h2p.trans hgp,?_⟩ (by dsimp only; rw [hcs]; exact envA) (fun _ h=>h) (by dsimp only; omega)
   dsimp only
   rw [hh]
   unfold FR.S
   dsimp only
   rw [h2s,List.map_set]
 · have hb:¬ ofId p m.r=true:=by unfold ofId; rw [show (!m.r.gone)=false by assumption,Bool.and_false]; decide
   have hh:=half_succ (ofId p) setGone hLi
   rw [if_neg hb,set_self (half_get _ _ hLi)] at hh
   rw [if_neg hb,Nat.add_zero] at hcs
   rw [i64_succ (by omega)]
   exact Fin.round ⟨i+1,g⟩ ⟨by dsimp only; omega,hg,rfl,hgc,hgp,by dsimp only; rw [hh]; exact hgL⟩ (by dsimp only; rw [hcs]; exact envA) (fun _ h=>by dsimp only; rw [hla]; exact h) (by dsimp only; omega)
 · have hb:¬ ofId p m.r=true:=by unfold ofId; rw [show (!m.r.acked)=false by assumption,Bool.and_false,Bool.false_and]; decide
   have hh:=half_succ (ofId p) setGone hLi
   rw [if_neg hb,set_self (half_get _ _ hLi)] at hh
   rw [if_neg hb,Nat.add_zero] at hcs
   rw [i64_succ (by omega)]
   exact Fin.round ⟨i+1,g⟩ ⟨by dsimp only; omega,hg,rfl,hgc,hgp,by dsimp only; rw [hh]; exact hgL⟩ (by dsimp only; rw [hcs]; exact envA) (fun _ h=>by dsimp only; rw [hla]; exact h) (by dsimp only; omega)
 · have hb:¬ ofId p m.r=true:=by unfold ofId; rw [decide_eq_false (ne_of_beq_false ‹(m.r.id == p)=false›),Bool.false_and,Bool.false_and]; decide
   have hh:=half_succ (ofId p) setGone hLi
   rw [if_neg hb,set_self (half_get _ _ hLi)] at hh
   rw [if_neg hb,Nat.add_zero] at hcs
   rw [i64_succ (by omega)]
   exact Fin.round ⟨i+1,g⟩ ⟨by dsimp only; omega,hg,rfl,hgc,hgp,by dsimp only; rw [hh]; exact hgL⟩ (by dsimp only; rw [hcs]; exact envA) (fun _ h=>by dsimp only; rw [hla]; exact h) (by dsimp only; omega)
end Go.Proofs.YtlfpemmdehmbfaaGreat
namespace Go.Proofs.YtlfpemmdehmbfaaGreat
open Go Go.Sl Go.Flt
def atR (c:Int) (n:Nat) (t:Int):Int:=match atI c n t with | some i=>(i:Int) | none=>-1
theorem rat_tr (F:Nat→Option Obj) (f:FR) (hf:f.ok) (t:Int):Tr Tryz.prog 194 [.pointer (some ⟨f.R,0,none⟩),.int .u32 t].toArray F f.H (fun v H=>v=.int .i64 (atR f.c f.ln t)∧H=f.H):=by
 refine Tr.enter Tryz.func194 rfl Tryz.ntmps194 rfl (fun w0=>?_)
 have hff:=Spn.far_int f.c t
 have hfl:=Spn.far_lt f.c t
 have hlen:=hf.len
 have hfew:=hf.few
 unfold FR.H FR.hd
 refine SPS ?_; repeat' (first|refine ⟨fun hc=>?_,fun hc=>?_⟩|intro)
 · refine Fin.retW (by exact rfl) resA (fun _ h=>h) ⟨?_,rfl⟩
   have:=of_decide_eq_true hc
   rw [show IntKind.u32.wrap (t - f.c)=((Spn.far f.c t:Nat):Int) from hff.symm] at this
   unfold atR atI
   rw [if_neg (by omega)]
   rfl
 · refine Fin.retW (by exact rfl) resA (fun _ h=>h) ⟨?_,rfl⟩
   have:=of_decide_eq_true hc
   rw [show IntKind.u32.wrap (t - f.c)=((Spn.far f.c t:Nat):Int) from hff.symm,u32_id (by omega)] at this
   unfold atR atI
   rw [if_neg (by omega)]
   rfl
 · refine Fin.retW (by exact rfl) resA (fun _ h=>h) ⟨?_,rfl⟩
   rename_i h1
   have h1:=of_decide_eq_false h1
   have h2:=of_decide_eq_false hc
   rw [show IntKind.u32.wrap (t - f.c)=((Spn.far f.c t:Nat):Int) from hff.symm] at h1 h2 ⊢
   rw [u32_id (by omega)] at h2
   unfold atR atI
   rw [if_pos (by omega)]
   dsimp only [tup]
   rw [i64_id (n:=((Spn.far f.c t:Nat):Int)) (by omega) (by omega),i64_id (by omega) (by omega)]
   congr 1
   omega
set_option maxHeartbeats 4000000 in
theorem ragain_tr (F:Nat→Option Obj) (f:FR) (hf:f.ok) (t p now:Int):Tr Tryz.prog 172 [.pointer (some ⟨f.R,0,none⟩),.int .u32 t,.int .i64 p,.int .i64 now].toArray F f.H (fun v H=>v=.int .i64 (Flt.again f.S t p now).2∧∃ f':FR,f'.ok∧H=f'.H∧f'.R=f.R∧f'.S=(Flt.again f.S t p now).1):=by
 refine Tr.enter Tryz.func172 rfl Tryz.ntmps172 rfl (fun w0=>?_)
 have hsl:=fr_len hf
 have hat:=rat_tr (addF F []) f hf t
 unfold FR.H FR.hd
 refine SPS ?_; repeat' (first|refine ⟨fun hc=>?_,fun hc=>?_⟩|intro)
 · refine Fin.retW (by exact rfl) resA (H':=f.H) (fun _ h=>h) ⟨?_,f,hf,rfl,rfl,?_⟩
   · unfold Flt.again
     rw [if_pos (.inl (of_decide_eq_true hc))]
     rfl
   · unfold Flt.again
     rw [if_pos (.inl (of_decide_eq_true hc))]
 · refine Fin.retW (by exact rfl) resA (H':=f.H) (fun _ h=>h) ⟨?_,f,hf,rfl,rfl,?_⟩
   · unfold Flt.again
     rw [if_pos (.inr (of_decide_eq_true hc))]
     rfl
   · unfold Flt.again
     rw [if_pos (.inr (of_decide_eq_true hc))]
 have hin:¬ (p < 0∨f.S.paths≤p):=by
  rename_i h1
  have h1:=of_decide_eq_false h1
  have h2:=of_decide_eq_false hc
  rintro (h | h)
  · exact h1 h
  · exact h2 h
 refine WL.e rfl (Ef.callR (c:=f.H) (by exact rfl) (.all _) (rat_tr _ f hf t)) ?_
 rintro _ _ ⟨rfl,rfl⟩
 cases hi:atI f.c f.ln t with
 | none=>
   have e:Flt.again f.S t p now=(f.S,11):=by
    unfold Flt.again
    rw [if_neg hin,hsl,show f.S.c=f.c from rfl,hi]
   rw [show atR f.c f.ln t=-1 by unfold atR; rw [hi]]
   refine SPS ?_; repeat' (first|refine ⟨fun hc=>?_,fun hc=>?_⟩|intro)
   exact Fin.retW (by exact rfl) resA (H':=f.H) (fun _ h=>h) ⟨by rw [e]; rfl,f,hf,rfl,rfl,by rw [e]⟩
 | some i=>
   have hil:i < f.ln:=by
    unfold atI at hi
    split at hi
    · cases hi; omega
    · cases hi
   have hlen:=hf.len
   have hfew:=hf.few
   obtain ⟨m,hm⟩:∃ m,f.rs[i]? = some m:=⟨f.rs[i]'(by omega),by simp⟩
   obtain ⟨lb,lo,hla,hcan⟩:=fr_el (F:=F) hf hm
   have hmr:=fr_r hm
   have hia:0≤(i:Int)∧(i:Int) < f.ln:=by omega
   have e:Flt.again f.S t p now=if openR m.r then ({ f.S with L:=f.S.L.set i (setAgain p now m.r) },0) else (f.S,11):=by
    unfold Flt.again
    rw [if_neg hin,hsl,show f.S.c=f.c from rfl,hi]
    dsimp only
    rw [hmr]
    rfl
   rw [show atR f.c f.ln t=(i:Int) by unfold atR; rw [hi]]
   unfold FR.H FR.hd at hcan
   have c11:Sl.Can F ((f.R,.cells [.slice f.la f.ln f.lc,.int .u32 f.c,.int .i64 f.paths].toArray 104 (0,0))::(f.lb++f.rs.flatMap (·.bb))) lb (lo+(i:Int).toNat * 15+11) [.bool m.r.acked]:=hcan.one (i:=11) rfl
   have c12:Sl.Can F ((f.R,.cells [.slice f.la f.ln f.lc,.int .u32 f.c,.int .i64 f.paths].toArray 104 (0,0))::(f.lb++f.rs.flatMap (·.bb))) lb (lo+(i:Int).toNat * 15+12) [.bool m.r.lost]:=hcan.one (i:=12) rfl
   have c13:Sl.Can F ((f.R,.cells [.slice f.la f.ln f.lc,.int .u32 f.c,.int .i64 f.paths].toArray 104 (0,0))::(f.lb++f.rs.flatMap (·.bb))) lb (lo+(i:Int).toNat * 15+13) [.bool m.r.gone]:=hcan.one (i:=13) rfl
   rw [hla] at c11 c12 c13 ⊢
   refine SPS ?_; repeat' (first|refine ⟨fun hc=>?_,fun hc=>?_⟩|intro)
   · have ho:openR m.r=false:=by unfold openR; rw [show m.r.lost=false by simpa using ‹(!m.r.lost)=true›,Bool.false_and,Bool.false_and]
     rw [if_neg (by rw [ho]; decide)] at e
     exact Fin.retW (by exact rfl) resA (H':=f.H) (fun _ h=>by unfold FR.H FR.hd; rw [hla]; exact h) ⟨by rw [e]; rfl,f,hf,rfl,rfl,by rw [e]⟩
   · have ho:openR m.r=false:=by unfold openR; rw [show m.r.acked=true by assumption,Bool.not_true,Bool.and_false,Bool.false_and]
     rw [if_neg (by rw [ho]; decide)] at e
     exact Fin.retW (by exact rfl) resA (H':=f.H) (fun _ h=>by unfold FR.H FR.hd; rw [hla]; exact h) ⟨by rw [e]; rfl,f,hf,rfl,rfl,by rw [e]⟩
   · have ho:openR m.r=false:=by unfold openR; rw [show m.r.gone=true by assumption,Bool.not_true,Bool.and_false]
     rw [if_neg (by rw [ho]; decide)] at e
     exact Fin.retW (by exact rfl) resA (H':=f.H) (fun _ h=>by unfold FR.H FR.hd; rw [hla]; exact h) ⟨by rw [e]; rfl,f,hf,rfl,rfl,by rw [e]⟩
   · have ho:openR m.r=true:=by unfold openR; rw [show m.r.lost=true by simpa using ‹(!m.r.lost)=false›,show m.r.acked=false by assumption,show m.r.gone=false by assumption]; rfl
     rw [if_pos ho] at e
     obtain ⟨g1,g1k,g1p,g1R,g1a,g1n,g1c,g1e,g1q,g1s⟩:=fr_put hf hm hla (k:=7) (v:=.int .i64 p) (r':={ m.r with path:=p }) rfl rfl
     unfold FR.H FR.hd at g1p
     rw [hla] at g1p
     refine WL.e0 (Ef.st rfl rfl rfl g1p) ?_
     rintro _ _ ⟨_,rfl⟩
     have g1m:g1.rs[i]? = some { m with r:={ m.r with path:=p } }:=by rw [g1s,List.getElem?_set_self (List.getElem?_eq_some_iff.1 hm).1]
     have g1l:g1.la=some ⟨lb,lo,none⟩:=g1a.trans hla
     rw [g1R,g1a,hla,g1n,g1c,g1e,g1q]
     refine SPS ?_; repeat' (first|refine ⟨fun hc=>?_,fun hc=>?_⟩|intro)
     obtain ⟨g2,g2k,g2p,g2R,g2a,g2n,g2c,g2e,g2q,g2s⟩:=fr_put g1k g1m g1l (k:=8) (v:=.int .i64 now) (r':={ m.r with path:=p,at_:=now }) rfl rfl
     unfold FR.H FR.hd at g2p
     rw [g1l] at g2p
     refine WL.e0 (Ef.st rfl rfl rfl (by rw [g1R,g1n,g1c,g1e,g1q] at g2p; exact g2p)) ?_
     rintro _ _ ⟨_,rfl⟩
     replace g2R:=g2R.trans g1R
     replace g2n:=g2n.trans g1n
     replace g2c:=g2c.trans g1c
     replace g2e:=g2e.trans g1e
     replace g2q:=g2q.trans g1q
     have g2m:g2.rs[i]? = some { m with r:={ m.r with path:=p,at_:=now } }:=by rw [g2s,List.getElem?_set_self (List.getElem?_eq_some_iff.1 g1m).1]
     have g2l:g2.la=some ⟨lb,lo,none⟩:=g2a.trans g1l
     rw [g2R,g2a,g1l,g2n,g2c,g2e,g2q]
     refine SPS ?_; repeat' (first|refine ⟨fun hc=>?_,fun hc=>?_⟩|intro)
     obtain ⟨g3,g3k,g3p,g3R,g3a,g3n,g3c,g3e,g3q,g3s⟩:=fr_put g2k g2m g2l (k:=12) (v:=.bool false) (r':={ m.r with path:=p,at_:=now,lost:=false }) rfl rfl
     unfold FR.H FR.hd at g3p
     rw [g2l] at g3p
     refine WL.e0 (Ef.st rfl rfl rfl (by rw [g2R,g2n,g2c,g2e,g2q] at g3p; exact g3p)) ?_
     rintro _ _ ⟨_,rfl⟩
     replace g3R:=g3R.trans g2R
     replace g3n:=g3n.trans g2n
     replace g3c:=g3c.trans g2c
     replace g3e:=g3e.trans g2e
     replace g3q:=g3q.trans g2q
     have g3m:g3.rs[i]? = some { m with r:={ m.r with path:=p,at_:=now,lost:=false } }:=by rw [g3s,List.getElem?_set_self (List.getElem?_eq_some_iff.1 g2m).1]
     have g3l:g3.la=some ⟨lb,lo,none⟩:=g3a.trans g2l
     rw [g3R,g3a,g2l,g3n,g3c,g3e,g3q]
     refine SPS ?_; repeat' (first|refine ⟨fun hc=>?_,fun hc=>?_⟩|intro)
     obtain ⟨g4,g4k,g4p,g4R,g4a,g4n,g4c,g4e,g4q,g4s⟩:=fr_put g3k g3m g3l (k:=14) (v:=.bool true) (r':=setAgain p now m.r) rfl rfl
     unfold FR.H FR.hd at g4p
     rw [g3l] at g4p
     refine WL.e0 (Ef.st rfl rfl rfl (by rw [g3R,g3n,g3c,g3e,g3q] at g4p; exact g4p)) ?_
     rintro _ _ ⟨_,rfl⟩
     replace g4R:=g4R.trans g3R
     replace g4n:=g4n.trans g3n
     replace g4c:=g4c.trans g3c
     replace g4e:=g4e.trans g3e
     replace g4q:=g4q.trans g3q
     have g4m:g4.rs[i]? = some { m with r:=setAgain p now m.r }:=by rw [g4s,List.getElem?_set_self (List.getElem?_eq_some_iff.1 g3m).1]
     have g4l:g4.la=some ⟨lb,lo,none⟩:=g4a.trans g3l
     rw [g4R,g4a,g3l,g4n,g4c,g4e,g4q]
     refine SPS ?_; repeat' (first|refine ⟨fun hc=>?_,fun hc=>?_⟩|intro)
     refine Fin.retW (by exact rfl) resA (H':=g4.H) (fun _ h=>by unfold FR.H FR.hd; rw [g4R,g4l,g4n,g4c,g4e,g4q]; exact h) ⟨by rw [e]; rfl,g4,g4k,rfl,g4R,?_⟩
     rw [e]
     dsimp only
     unfold FR.S
     rw [g4e,g4q,g4s,g3s,g2s,g1s]
     rw [List.set_set,List.set_set,List.set_set,List.map_set]
end Go.Proofs.YtlfpemmdehmbfaaGreat
