/- A sender in memory. Conditions: it is well formed. -/
import Derived.Test.YtjfpckadjnjmoaaGreatOqB
import Derived.Test.YtjfpckadjnjmoaaGreatPaC
import Derived.Test.YtjfpckadjnjmoaaGreatFlH
import Derived.Test.YtjfpckadjnjmoaaGreatBa
import Derived.Test.YtjfpckadjnjmoaaGreatSlV
namespace Go.Proofs.YtjfpckadjnjmoaaGreat
open Go Go.Sl Go.Pth

structure WaM where
  b : Nat
  pm : PaM
  timer : Int
  set : Bool
  mark : Int
def WaM.W (m : WaM) : Snd.Way := ⟨m.pm.s, m.timer, m.set, m.mark⟩
def WaM.cells (m : WaM) : List Value := [ptr m.pm.P, .int .i64 m.timer, .bool m.set, .int .u32 m.mark]
def WaM.hd (m : WaM) : Nat × Obj := (m.b, .cells m.cells.toArray 82 (0, 0))
def WaM.H (m : WaM) : HL := m.hd :: m.pm.H
structure OwM where
  d : Flt.Dt
  id : Int
  ba : Option Addr
  bn : Nat
  bc : Nat
  bb : HL
def OwM.cells (m : OwM) : List Value := [.int .u32 m.d.tsn, .int .u16 m.d.stream, .int .u16 m.d.ssn, .bool m.d.un, .bool m.d.fi, .bool m.d.la, .slice m.ba m.bn m.bc, .int .i64 m.id]
def OwM.O (m : OwM) : Snd.Owed := ⟨m.d, m.id⟩
def lifeC (l : Snd.Life) : List Value := [.int .i64 l.id, .int .i64 l.til]
theorem OwM.clen (m : OwM) : m.cells.length = 8 := rfl
theorem lifeC_len (l : Snd.Life) : (lifeC l).length = 2 := rfl
structure SdM where
  R : Nat
  o : OqM
  f : FM
  ws : List WaM
  wa : Option Addr
  wn : Nat
  wc : Nat
  wb : HL
  room : Int
  first : Int
  mtu : Int
  lives : List Snd.Life
  la : Option Addr
  ln : Nat
  lc : Nat
  lb : HL
  owed : List OwM
  oa : Option Addr
  on_ : Nat
  oc : Nat
  ob : HL
  told : Bool
  cum : Int
  at_ : Int
  by_ : Int
def SdM.cells (s : SdM) : List Value := [ptr s.o.R, ptr s.f.R, .slice s.wa s.wn s.wc, .int .i64 s.room, .int .i64 s.first, .int .i64 s.mtu, .slice s.la s.ln s.lc, .slice s.oa s.on_ s.oc, .bool s.told, .int .u32 s.cum, .int .i64 s.at_, .int .i64 s.by_]
def SdM.hd (s : SdM) : Nat × Obj := (s.R, .cells s.cells.toArray 76 (0, 0))
def SdM.X (s : SdM) : HL := s.lb ++ (s.ob ++ s.owed.flatMap (·.bb))
def SdM.T (s : SdM) : HL := s.o.H ++ (s.f.H ++ (s.wb ++ (s.ws.flatMap WaM.H ++ s.X)))
def SdM.H (s : SdM) : HL := s.hd :: s.T
def SdM.S (s : SdM) : Snd.S := ⟨s.o.S, s.f.S, s.ws.map WaM.W, s.room, s.first, s.mtu, s.lives, s.owed.map OwM.O, s.told, s.cum, s.at_, s.by_⟩
structure SdM.ok (n : Nat) (s : SdM) : Prop where
  o : s.o.ok
  f : s.f.ok
  ways : OwnS 80 1 (s.ws.map (fun m => ptr m.b)) (.slice s.wa s.wn s.wc) s.wb
  lives : OwnS 87 2 (s.lives.flatMap lifeC) (.slice s.la s.ln s.lc) s.lb
  owed : OwnS 91 8 (s.owed.flatMap OwM.cells) (.slice s.oa s.on_ s.oc) s.ob
  own : ∀ m ∈ s.owed, OwnS 5 1 (m.d.bs.map B) (.slice m.ba m.bn m.bc) m.bb
  pl : Snd.Ok n s.S
theorem SdM.ok.wn {n : Nat} {s : SdM} (h : s.ok n) : s.wn = s.ws.length := by have := OwnS.len h.ways; simp at this; omega
theorem SdM.ok.nws {n : Nat} {s : SdM} (h : s.ok n) : 1 ≤ s.ws.length ∧ s.ws.length ≤ 4 := by have := h.pl.nws; simpa [SdM.S] using this
theorem SdM.ok.paths {n : Nat} {s : SdM} (h : s.ok n) : s.f.S.paths = s.ws.length := by have := h.pl.paths; simpa [SdM.S] using this
theorem SdM.ok.way {n : Nat} {s : SdM} (h : s.ok n) {k : Nat} {m : WaM} (hk : s.ws[k]? = some m) : m.W.Ok := h.pl.ws m.W (by
  have := List.mem_of_getElem? hk
  exact List.mem_map.2 ⟨m, this, rfl⟩)
theorem SdM.ok.small {n : Nat} {s : SdM} (h : s.ok n) : s.f.small := by
  have := h.pl.f.small (fun _ => true)
  unfold FM.small
  have e : s.S.f.L = s.f.rs.map (·.r) := rfl
  rw [e] at this
  omega
theorem SdM.ok.pathOk {n : Nat} {s : SdM} (h : s.ok n) : pathOk s.f.S.L := by
  have h1 := h.pl.f.g; have h2 := h.paths; have h3 := h.nws
  intro r hr
  obtain ⟨i, hi⟩ := List.getElem?_of_mem hr
  have := h1.path i r hi
  have e : s.S.f = s.f.S := rfl
  rw [e] at this
  omega
/-! ### what is looked at -/
theorem SdM.can {F : Nat → Option Obj} (s : SdM) : Sl.Can F s.H s.R 0 s.cells := Can.cut (n := 12) (.here rfl)
theorem SdM.cans {F : Nat → Option Obj} (s : SdM) : Sl.Can F s.H s.R (0 + 0) [ptr s.o.R] ∧ Sl.Can F s.H s.R (0 + 1) [ptr s.f.R] ∧ Sl.Can F s.H s.R (0 + 2) [.slice s.wa s.wn s.wc] ∧ Sl.Can F s.H s.R (0 + 3) [.int .i64 s.room] ∧ Sl.Can F s.H s.R (0 + 4) [.int .i64 s.first] ∧
    Sl.Can F s.H s.R (0 + 5) [.int .i64 s.mtu] ∧ Sl.Can F s.H s.R (0 + 6) [.slice s.la s.ln s.lc] ∧ Sl.Can F s.H s.R (0 + 7) [.slice s.oa s.on_ s.oc] ∧ Sl.Can F s.H s.R (0 + 8) [.bool s.told] ∧ Sl.Can F s.H s.R (0 + 9) [.int .u32 s.cum] ∧ Sl.Can F s.H s.R (0 + 10) [.int .i64 s.at_] ∧ Sl.Can F s.H s.R (0 + 11) [.int .i64 s.by_] :=
  ⟨s.can.one (i := 0) rfl, s.can.one (i := 1) rfl, s.can.one (i := 2) rfl, s.can.one (i := 3) rfl, s.can.one (i := 4) rfl, s.can.one (i := 5) rfl, s.can.one (i := 6) rfl, s.can.one (i := 7) rfl, s.can.one (i := 8) rfl, s.can.one (i := 9) rfl, s.can.one (i := 10) rfl, s.can.one (i := 11) rfl⟩
theorem SdM.atWays (s : SdM) : s.wb.Sublist s.H := .cons _ ((List.sublist_append_left _ _).trans ((List.sublist_append_right _ _).trans (List.sublist_append_right _ _)))
theorem SdM.atWay (s : SdM) {k : Nat} {m : WaM} (hk : s.ws[k]? = some m) : m.H.Sublist s.H := .cons _ ((flat_sub WaM.H (List.mem_of_getElem? hk)).trans ((List.sublist_append_left _ _).trans ((List.sublist_append_right _ _).trans ((List.sublist_append_right _ _).trans (List.sublist_append_right _ _)))))
theorem SdM.wayPtr {n : Nat} {s : SdM} (h : s.ok n) {k : Nat} {m : WaM} (hk : s.ws[k]? = some m) : ∃ b off, s.wa = some ⟨b, off, none⟩ ∧ k < s.wn ∧ ∀ F : Nat → Option Obj, Sl.Can F s.H b (off + (k : Int).toNat * 1) [ptr m.b] := by
  obtain ⟨b, off, h1, h2, h3⟩ := own_el (v := fun m : WaM => ptr m.b) h.ways hk
  exact ⟨b, off, h1, h2, fun F => (h3 F).mono (fun _ hh => hh.sublist s.atWays)⟩
theorem SdM.wayC {F : Nat → Option Obj} {s : SdM} {k : Nat} {m : WaM} (hk : s.ws[k]? = some m) : Sl.Can F s.H m.b 0 m.cells := (Can.cut (F := F) (H := m.H) (n := 4) (.here rfl)).mono (fun _ hh => hh.sublist (s.atWay hk))
theorem SdM.wayCans {F : Nat → Option Obj} {s : SdM} {k : Nat} {m : WaM} (hk : s.ws[k]? = some m) : Sl.Can F s.H m.b (0 + 0) [ptr m.pm.P] ∧ Sl.Can F s.H m.b (0 + 1) [.int .i64 m.timer] ∧ Sl.Can F s.H m.b (0 + 2) [.bool m.set] ∧ Sl.Can F s.H m.b (0 + 3) [.int .u32 m.mark] :=
  ⟨(SdM.wayC hk).one (i := 0) rfl, (SdM.wayC hk).one (i := 1) rfl, (SdM.wayC hk).one (i := 2) rfl, (SdM.wayC hk).one (i := 3) rfl⟩
/-! ### parts -/
/-- a call works on a part of the sender -/
structure Part (s : SdM) (c Hr : HL) : Prop where
  sub : Sub c s.H Hr
theorem SdM.flP (s : SdM) : Part s s.f.H (s.hd :: (s.o.H ++ (s.wb ++ (s.ws.flatMap WaM.H ++ s.X)))) := ⟨.last (.there (.right .here))⟩
theorem SdM.flE {s : SdM} {f' : FM} (hR : f'.R = s.f.R) : (f'.H ++ (s.hd :: (s.o.H ++ (s.wb ++ (s.ws.flatMap WaM.H ++ s.X))))).Perm ({ s with f := f' } : SdM).H := by
  have e : ({ s with f := f' } : SdM).hd = s.hd := by unfold SdM.hd SdM.cells; rw [← hR]
  have := (Sub.pick (.right .here) (.pickL (L := s.o.H) (.right .here) (.pickL (L := f'.H) .here (.last .all)))).perm' (H := f'.H ++ (s.hd :: (s.o.H ++ (s.wb ++ (s.ws.flatMap WaM.H ++ s.X)))))
  unfold SdM.H SdM.T
  rw [e]
  rw [List.append_nil] at this
  exact this
theorem SdM.flB {s : SdM} {f' : FM} (hR : f'.R = s.f.R) {F : Nat → Option Obj} {w : World} (h : In F (f'.H ++ (s.hd :: (s.o.H ++ (s.wb ++ (s.ws.flatMap WaM.H ++ s.X))))) w) : In F ({ s with f := f' } : SdM).H w := h.perm (s.flE hR)
theorem SdM.lvP (s : SdM) : Part s s.lb (s.hd :: (s.o.H ++ (s.f.H ++ (s.wb ++ (s.ws.flatMap WaM.H ++ (s.ob ++ s.owed.flatMap (·.bb))))))) := ⟨by
  unfold SdM.H SdM.T SdM.X
  exact .last (.there (.right (.right (.right (.right .here)))))⟩
theorem SdM.oqP (s : SdM) : Part s s.o.H (s.hd :: (s.f.H ++ (s.wb ++ (s.ws.flatMap WaM.H ++ s.X)))) := ⟨.last (.there .here)⟩
theorem SdM.oqE {s : SdM} {o' : OqM} (hR : o'.R = s.o.R) : (o'.H ++ (s.hd :: (s.f.H ++ (s.wb ++ (s.ws.flatMap WaM.H ++ s.X))))).Perm ({ s with o := o' } : SdM).H := by
  have e : ({ s with o := o' } : SdM).hd = s.hd := by unfold SdM.hd SdM.cells; rw [← hR]
  have := (Sub.pick (.right .here) (.pickL (L := o'.H) .here (.last .all))).perm' (H := o'.H ++ (s.hd :: (s.f.H ++ (s.wb ++ (s.ws.flatMap WaM.H ++ s.X)))))
  unfold SdM.H SdM.T
  rw [e]
  rw [List.append_nil] at this
  exact this
theorem SdM.oqB {s : SdM} {o' : OqM} (hR : o'.R = s.o.R) {F : Nat → Option Obj} {w : World} (h : In F (o'.H ++ (s.hd :: (s.f.H ++ (s.wb ++ (s.ws.flatMap WaM.H ++ s.X))))) w) : In F ({ s with o := o' } : SdM).H w := h.perm (s.oqE hR)
theorem ws_split {l : List WaM} {i : Nat} {m : WaM} (h : l[i]? = some m) : l.flatMap WaM.H = (l.take i).flatMap WaM.H ++ (m.hd :: (m.pm.H ++ (l.drop (i + 1)).flatMap WaM.H)) := by
  have hi := (List.getElem?_eq_some_iff.1 h).1
  have he := (List.getElem?_eq_some_iff.1 h).2
  have : l = l.take i ++ m :: l.drop (i + 1) := by rw [← he, ← List.drop_eq_getElem_cons hi, List.take_append_drop]
  have h2 : l.flatMap WaM.H = (l.take i ++ m :: l.drop (i + 1)).flatMap WaM.H := congrArg (fun x => List.flatMap WaM.H x) this
  rw [h2, List.flatMap_append, List.flatMap_cons]
  rfl
theorem ws_set {l : List WaM} {i : Nat} {m m' : WaM} (h : l[i]? = some m) : (l.set i m').flatMap WaM.H = (l.take i).flatMap WaM.H ++ (m'.hd :: (m'.pm.H ++ (l.drop (i + 1)).flatMap WaM.H)) := by
  have hi := (List.getElem?_eq_some_iff.1 h).1
  rw [List.set_eq_take_append_cons_drop, if_pos hi, List.flatMap_append, List.flatMap_cons]
  rfl
def SdM.paR (s : SdM) (k : Nat) (m : WaM) : HL := s.hd :: (s.o.H ++ (s.f.H ++ (s.wb ++ ((s.ws.take k).flatMap WaM.H ++ (m.hd :: ((s.ws.drop (k + 1)).flatMap WaM.H ++ s.X))))))
theorem SdM.split {s : SdM} {k : Nat} {m : WaM} (hk : s.ws[k]? = some m) : s.H = s.hd :: (s.o.H ++ (s.f.H ++ (s.wb ++ ((s.ws.take k).flatMap WaM.H ++ (m.hd :: (m.pm.H ++ ((s.ws.drop (k + 1)).flatMap WaM.H ++ s.X))))))) := by
  unfold SdM.H SdM.T
  rw [ws_split hk, List.append_assoc, List.cons_append, List.append_assoc]
def SdM.setW (s : SdM) (k : Nat) (m : WaM) : SdM := { s with ws := s.ws.set k m }
theorem SdM.splitS {s : SdM} {k : Nat} {m : WaM} (hk : s.ws[k]? = some m) (m' : WaM) : (s.setW k m').H = s.hd :: (s.o.H ++ (s.f.H ++ (s.wb ++ ((s.ws.take k).flatMap WaM.H ++ (m'.hd :: (m'.pm.H ++ ((s.ws.drop (k + 1)).flatMap WaM.H ++ s.X))))))) := by
  unfold SdM.H SdM.T SdM.setW
  dsimp only
  rw [ws_set hk, List.append_assoc, List.cons_append, List.append_assoc]
  rfl
theorem SdM.paP {s : SdM} {k : Nat} {m : WaM} (hk : s.ws[k]? = some m) : Part s m.pm.H (s.paR k m) := ⟨by
  rw [SdM.split hk]
  exact .last (.there (.right (.right (.right (.right (.there .here))))))⟩
theorem SdM.paE {s : SdM} {k : Nat} {m : WaM} (hk : s.ws[k]? = some m) {p : PaM} (hR : p.P = m.pm.P) : (p.H ++ s.paR k m).Perm (s.setW k { m with pm := p }).H := by
  have e : WaM.hd { m with pm := p } = m.hd := by unfold WaM.hd WaM.cells; rw [← hR]
  have := (Sub.pick (.right .here) (.pickL (L := s.o.H) (.right .here) (.pickL (L := s.f.H) (.right .here) (.pickL (L := s.wb) (.right .here) (.pickL (L := (s.ws.take k).flatMap WaM.H) (.right .here) (.pick (.right .here) (.pickL (L := p.H) .here (.last .all)))))))).perm' (H := p.H ++ s.paR k m)
  rw [SdM.splitS hk, e]
  rw [List.append_nil] at this
  exact this
theorem SdM.paB {s : SdM} {k : Nat} {m : WaM} (hk : s.ws[k]? = some m) {p : PaM} (hR : p.P = m.pm.P) {F : Nat → Option Obj} {w : World} (h : In F (p.H ++ s.paR k m) w) : In F (s.setW k { m with pm := p }).H w := h.perm (SdM.paE hk hR)
/-- a part comes back, beside blocks that lie ahead -/
theorem In.front {F : Nat → Option Obj} {w : World} {c Hr T : HL} (ps : HL) (hp : (c ++ Hr).Perm T) (h : In F (c ++ (ps ++ Hr)) w) : In F (ps ++ T) w := by
  refine h.perm ?_
  refine List.Perm.trans ?_ (List.Perm.append_left ps hp)
  rw [← List.append_assoc, ← List.append_assoc]
  exact List.Perm.append_right Hr List.perm_append_comm
theorem In.front1 {F : Nat → Option Obj} {w : World} {c Hr T : HL} {p : Nat × Obj} (hp : (c ++ Hr).Perm T) (h : In F (c ++ (p :: Hr)) w) : In F (p :: T) w := In.front [p] hp h
theorem In.front2 {F : Nat → Option Obj} {w : World} {c Hr T : HL} {p q : Nat × Obj} (hp : (c ++ Hr).Perm T) (h : In F (c ++ (p :: q :: Hr)) w) : In F (p :: q :: T) w := In.front [p, q] hp h
theorem In.front3 {F : Nat → Option Obj} {w : World} {c Hr T : HL} {p q r : Nat × Obj} (hp : (c ++ Hr).Perm T) (h : In F (c ++ (p :: q :: r :: Hr)) w) : In F (p :: q :: r :: T) w := In.front [p, q, r] hp h
/-! ### what is written -/
theorem SdM.put {s s' : SdM} {off : Nat} {vs : List Value} (hR : s'.R = s.R) (hT : s'.T = s.T) (hs : spliceK s.cells off vs some = some s'.cells) : PutAt s.R off vs s.H s'.H := by
  unfold SdM.H SdM.hd
  rw [hT, hR]
  exact .here hs
theorem SdM.wayPut {s : SdM} {k : Nat} {m m' : WaM} (hk : s.ws[k]? = some m) {off : Nat} {vs : List Value} (hb : m'.b = m.b) (hp : m'.pm = m.pm) (hs : spliceK m.cells off vs some = some m'.cells) : PutAt m.b off vs s.H (s.setW k m').H := by
  rw [SdM.split hk, SdM.splitS hk m', hp]
  unfold WaM.hd
  rw [hb]
  exact .there (.right (.right (.right (.right (.here hs)))))
/-! ### what stays well formed -/
theorem SdM.ok.setF {n n' : Nat} {s : SdM} (h : s.ok n) {f' : FM} (hf : f'.ok) (hp : Snd.Ok n' { s.S with f := f'.S }) : ({ s with f := f' } : SdM).ok n' := ⟨h.o, hf, h.ways, h.lives, h.owed, h.own, hp⟩
theorem SdM.ok.setO {n n' : Nat} {s : SdM} (h : s.ok n) {o' : OqM} (ho : o'.ok) (hp : Snd.Ok n' { s.S with q := o'.S }) : ({ s with o := o' } : SdM).ok n' := ⟨ho, h.f, h.ways, h.lives, h.owed, h.own, hp⟩
theorem SdM.setW_S (s : SdM) (k : Nat) (m : WaM) : (s.setW k m).S = { s.S with ws := s.S.ws.set k m.W } := by unfold SdM.setW SdM.S; dsimp only; rw [List.map_set]
theorem SdM.ok.setW {n : Nat} {s : SdM} (h : s.ok n) {k : Nat} {m m' : WaM} (hk : s.ws[k]? = some m) (hb : m'.b = m.b) (hw : m'.W.Ok) : (s.setW k m').ok n := by
  refine ⟨h.o, h.f, ?_, h.lives, h.owed, h.own, ?_⟩
  · have e : (s.ws.set k m').map (fun m => ptr m.b) = s.ws.map (fun m => ptr m.b) := by
      rw [List.map_set, hb]
      refine List.ext_getElem? (fun j => ?_)
      by_cases hj : k = j
      · subst hj
        have hi := (List.getElem?_eq_some_iff.1 hk).1
        rw [List.getElem?_set_self (by simpa using hi), List.getElem?_map, hk]
        rfl
      · rw [List.getElem?_set_ne hj]
    show OwnS _ 1 ((s.ws.set k m').map (fun m => ptr m.b)) _ _
    rw [e]
    exact h.ways
  · rw [SdM.setW_S]
    exact Snd.setW_ok h.pl k hw
theorem SdM.setW_setW (s : SdM) (k : Nat) (m m' : WaM) : (s.setW k m).setW k m' = s.setW k m' := by unfold SdM.setW; dsimp only; rw [List.set_set]
theorem SdM.setW_get {s : SdM} {k : Nat} {m : WaM} (hk : s.ws[k]? = some m) (m' : WaM) : (s.setW k m').ws[k]? = some m' := List.getElem?_set_self (List.getElem?_eq_some_iff.1 hk).1
theorem SdM.hdSub (s : SdM) : [s.hd].Sublist s.H := .cons_cons _ (List.nil_sublist _)
theorem SdM.hdCan {F : Nat → Option Obj} (s : SdM) : Sl.Can F [s.hd] s.R 0 s.cells := Can.cut (n := 12) (.here rfl)
attribute [irreducible] SdM.H
end Go.Proofs.YtjfpckadjnjmoaaGreat
