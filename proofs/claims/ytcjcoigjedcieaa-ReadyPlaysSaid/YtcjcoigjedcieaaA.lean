/- Items as cells; keys and their errors. -/
import Derived.Test.YtcjcoigjedcieaaOwn
import Derived.Test.YtcjcoigjedcieaaChecked
namespace Go.Proofs.Ytcjcoigjedcieaa
open Go.RowKit Go.Wk

/-- An item. -/
structure IV where
  id : Int
  pr : Int
  since : Int
  seq : Int
deriving DecidableEq
def IV.cells (x : IV) : List Value := [.int .i64 x.id, .int .i64 x.pr, .int .i64 x.since, .int .i64 x.seq]
def icells (l : List IV) : List Value := l.flatMap IV.cells
def IV.zero : IV := ⟨0, 0, 0, 0⟩
instance : Inhabited IV := ⟨IV.zero⟩
/-- Each number fits. -/
structure IV.Fits (x : IV) : Prop where
  id : -9223372036854775808 ≤ x.id ∧ x.id ≤ 9223372036854775807
  pr : -9223372036854775808 ≤ x.pr ∧ x.pr ≤ 9223372036854775807
  since : -9223372036854775808 ≤ x.since ∧ x.since ≤ 9223372036854775807
  seq : -9223372036854775808 ≤ x.seq ∧ x.seq ≤ 9223372036854775807

theorem icells_len (l : List IV) : (icells l).length = l.length * 4 := by
  induction l with
  | nil => rfl
  | cons a l ih => simp only [icells, List.flatMap_cons, List.length_append, List.length_cons] at ih ⊢; rw [ih]; simp [IV.cells]; omega
theorem icells_app (l m : List IV) : icells (l ++ m) = icells l ++ icells m := by simp [icells]
theorem icells_one (l : List IV) : ∀ u ∈ icells l, u.oneCell' = true := by
  intro u hu
  simp only [icells, List.mem_flatMap] at hu
  obtain ⟨x, _, hx⟩ := hu
  simp only [IV.cells, List.mem_cons, List.not_mem_nil, or_false] at hx
  rcases hx with rfl | rfl | rfl | rfl <;> rfl
theorem icells_get (l : List IV) : ∀ (i j : Nat), i < l.length → j < 4 → (icells l)[i * 4 + j]? = (l.getD i IV.zero).cells[j]? := by
  induction l with
  | nil => intro i j hi; simp at hi
  | cons a l ih =>
    intro i j hi hj
    have ha : a.cells.length = 4 := rfl
    cases i with
    | zero =>
      simp only [icells, List.flatMap_cons, List.getD_cons_zero, Nat.zero_mul, Nat.zero_add]
      rw [List.getElem?_append_left (by omega)]
    | succ i =>
      simp only [icells, List.flatMap_cons, List.getD_cons_succ]
      rw [List.getElem?_append_right (by omega), ha, ← ih i j (by simpa using hi) hj]
      congr 1
      omega
/-- An item of a slice that reads as items, cell by cell. -/
theorem reads_item {w : World} {B n : Nat} {A : Option Addr} {l : List IV} (h : Reads w B 4 A n (icells l)) {i : Nat} (hi : i < n) : ∃ g off, A = some ⟨g, off, none⟩ ∧ g < B ∧ l.length = n ∧
    w.cell? ⟨g, off + i * 4, none⟩ = some (.int .i64 (l.getD i IV.zero).id) ∧ w.cell? ⟨g, off + i * 4 + 1, none⟩ = some (.int .i64 (l.getD i IV.zero).pr) ∧ w.cell? ⟨g, off + i * 4 + 2, none⟩ = some (.int .i64 (l.getD i IV.zero).since) ∧
    w.cell? ⟨g, off + i * 4 + 3, none⟩ = some (.int .i64 (l.getD i IV.zero).seq) := by
  obtain ⟨ad, rfl, hb, hc⟩ := h.2 (by omega)
  have hl : l.length = n := by have := h.1; rw [icells_len] at this; omega
  have h0 := hc _ _ ((icells_get l 0 0 (by omega) (by omega)).trans rfl)
  obtain ⟨g, off, spot⟩ := ad
  have hs : spot = none := by simpa [Addr.add] using World.cell?_spot h0
  subst hs
  have key : ∀ j u, (l.getD i IV.zero).cells[j]? = some u → w.cell? ⟨g, off + i * 4 + j, none⟩ = some u := fun j u hu => by
    have hj : j < 4 := by
      have := (List.getElem?_eq_some_iff.1 hu).1
      simpa [IV.cells] using this
    have := hc _ _ ((icells_get l i j (by omega) hj).trans hu)
    rw [add_plain, ← Nat.add_assoc] at this
    exact this
  exact ⟨g, off, rfl, hb, hl, key 0 _ rfl, key 1 _ rfl, key 2 _ rfl, key 3 _ rfl⟩
theorem reads_ilen {w : World} {B n : Nat} {A : Option Addr} {l : List IV} (h : Reads w B 4 A n (icells l)) : l.length = n := by
  have := h.1; rw [icells_len] at this; omega

/-- The error of an item: its priority, its time. -/

theorem icells_drop (l : List IV) : ∀ m, (icells l).drop (m * 4) = icells (l.drop m) := by
  induction l with
  | nil => intro m; simp [icells]
  | cons a l ih =>
    intro m
    cases m with
    | zero => simp
    | succ m =>
      rw [List.drop_succ_cons, ← ih m]
      have e : icells (a :: l) = a.cells ++ icells l := by simp [icells]
      rw [e, show (m + 1) * 4 = a.cells.length + m * 4 by simp [IV.cells]; omega, List.drop_length_add_append]
theorem icells_take (l : List IV) : ∀ m, (icells l).take (m * 4) = icells (l.take m) := by
  induction l with
  | nil => intro m; simp [icells]
  | cons a l ih =>
    intro m
    cases m with
    | zero => simp [icells]
    | succ m =>
      have e : icells (a :: l) = a.cells ++ icells l := by simp [icells]
      have e2 : icells (a :: l.take m) = a.cells ++ icells (l.take m) := by simp [icells]
      rw [List.take_succ_cons, e2, ← ih m, e, show (m + 1) * 4 = a.cells.length + m * 4 by simp [IV.cells]; omega, List.take_length_add_append]
theorem getD_mem' {l : List IV} {i : Nat} (h : i < l.length) : l.getD i IV.zero ∈ l := by
  have : l.getD i IV.zero = l[i] := by simp [h]
  rw [this]; exact List.getElem_mem _
end Go.Proofs.Ytcjcoigjedcieaa
