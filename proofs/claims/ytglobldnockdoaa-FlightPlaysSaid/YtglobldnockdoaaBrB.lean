/- From a contract of the logic to a row: a law that answers 'true' and leaves all memory as it was; and the blocks of a world as a frame. No conditions: laws only. -/
import Derived.Test.YtglobldnockdoaaBrA
import Derived.ProofKit
import Derived.Below
namespace Go.Sl
open Go Go.RowKit Go.WideShapes Go.ChangeShapes

/-- all that lies in a world's memory -/
def heapF (W : World) (b : Nat) : Option Obj := W.heap[b]?
theorem heapF_in (W : World) : In (heapF W) [] W := ⟨by simp, (fun _ h => by cases h), fun _ _ h => h, (fun _ h => by cases h)⟩
theorem below_of {W W' : World} (hi : In (heapF W) [] W') (hs : Same W W') : Below W.heap.size W W' :=
  ⟨hs.os, hs.tape, hs.output, hs.size, fun k hk => by
    have h1 : heapF W k = some W.heap[k] := by simp [heapF, hk]
    rw [hi.fr k _ h1]
    simp [hk]⟩

section
variable {H : Type} {enc : TypeId × Value → H} {P : Program}
theorem all_stay (hl : laidOutB P = true) {W W' : World} {sp : Nat → Bool} : ∀ (ts : List TypeId) (vs : List Value) (ds : List (DataW H)) (ps : List MemPlace), (∀ t ∈ ts, P.readableRec t = true ∧ t < P.types.size) →
    DataW.TrodAll enc P W 0 (fun _ => true) true ts vs ds ps → (∀ p ∈ ps, W.sameAt W' p) → (∀ p ∈ ps, sp p.block = true) → DataW.TrodAll enc P W' 0 sp true ts vs ds ps
  | [], [], [], ps, _, h, _, _ => h
  | t :: ts, v :: vs, d :: ds, ps, ht, h, hs, hp => by
    obtain ⟨p, q, h1, h2, rfl⟩ := h
    exact ⟨p, q, WideElems.Trod_stays hl (ht t (by simp)).1 (ht t (by simp)).2 h1 (fun x hx => hs x (by simp [hx])) (fun x hx => hp x (by simp [hx])),
      all_stay hl ts vs ds q (fun u hu => ht u (by simp [hu])) h2 (fun x hx => hs x (by simp [hx])) (fun x hx => hp x (by simp [hx])), rfl⟩
  | [], [], _ :: _, _, _, h, _, _ => by cases h
  | [], _ :: _, _, _, _, h, _, _ => by cases h
  | _ :: _, [], _, _, _, h, _, _ => by cases h
  | _ :: _, _ :: _, [], _, _, h, _, _ => by cases h

theorem post_true {f : Func} {s : ChangeSpec} {apart fresh handsOn again : Bool} {W W' : World} {args : Array Value} {ds gs : List (DataW H)} {before : List MemPlace} {tb : TypeId} (hl : laidOutB P = true)
    (hts : ∀ t ∈ f.params.toList, P.readableRec t = true ∧ t < P.types.size) (hrt : f.resultTypes = #[tb]) (htb : P.underlying tb = some .bool) (hv : s.vars = [])
    (hW : DataW.Whole enc P f.params.toList s.vars apart W args.toList ds gs before) (hres : (s.fn H (ds ++ gs)).results = [.lit (.bool true)]) (harg : (s.fn H (ds ++ gs)).args = ds) (hvar : (s.fn H (ds ++ gs)).vars = [])
    (hb : Below W.heap.size W W') : s.post enc P f apart fresh handsOn again W args (.bool true) W' := by
  have hlt := hW.lt
  have hW0 := hW
  obtain ⟨p, q, hA, hV, rfl, hz, hn⟩ := hW
  have hq : q = [] ∧ gs = [] := by
    rw [hv] at hV
    cases gs with
    | nil => exact ⟨hV, rfl⟩
    | cons _ _ => cases hV
  obtain ⟨rfl, rfl⟩ := hq
  simp only [List.append_nil] at *
  have hr : ∀ (b : Nat) (sp : Nat → Bool) (hd : Bool), DataW.TrodAll enc P W' b sp hd f.resultTypes.toList ((Value.bool true).resultList f.resultTypes.size) [.lit (.bool true)] [] := fun b sp hd => by
    rw [hrt]
    exact trodAll_mk1 (shut_bool htb true)
  have ha : ∀ sp : Nat → Bool, (∀ x ∈ p, sp x.block = true) → DataW.TrodAll enc P W' 0 sp true f.params.toList args.toList ds p := fun sp hsp =>
    all_stay hl _ _ _ _ hts hA (fun x hx => hb.same (hlt x hx)) hsp
  have hvv : ∀ sp : Nat → Bool, DataW.TrodVars enc P W' sp s.vars [] [] := fun sp => by rw [hv]; rfl
  refine ⟨ds, [], p, [], p, [], hW0, ?_, ?_, ?_, World.keptBut_mono (fun x hx => ⟨hx, .inr (.inl hx)⟩) (hb.frame (· ∈ p)), fun _ => ⟨?_, [.lit (.bool true)] ++ ds, [], p, ⟨[] ++ p, [], ?_, hvv _, by simp, ?_, ?_⟩, fun x hx _ => hx⟩⟩
  · rw [List.append_nil, hres]; exact hr _ _ _
  · rw [List.append_nil, harg]; exact ha _ (fun x hx => by simpa using hlt x hx)
  · rw [List.append_nil, hvar]; exact hvv _
  · exact ok_one hrt rfl (okWide_bool_mk htb true)
  · exact trodAll_append (ha _ (fun _ _ => rfl)) (hr _ _ _)
  · intro b off hx
    rw [hb.frozen (hlt _ hx)]
    exact hz b off hx
  · exact hn
end
end Go.Sl
