/- The walk of AgingKnown. -/
import Derived.Test.YtabajcofddhelaaAh
import Derived.Laws.MakeOwn
namespace Go.Proofs.Ytabajcofddhelaa
open Go.RowKit Go.Wk

def manyL (n : Nat) (p : Int) : List IV := ⟨0, p, 0, 0⟩ :: List.replicate n IV.zero
theorem manyL_len (n : Nat) (p : Int) : (manyL n p).length = n + 1 := by simp [manyL]
theorem manyL_at (n : Nat) (p : Int) (i : Nat) (h : i < n + 1) : (manyL n p).getD i IV.zero = if i = 0 then ⟨0, p, 0, 0⟩ else IV.zero := by
  cases i with
  | zero => rfl
  | succ i =>
    rw [if_neg (by omega)]
    unfold manyL
    rw [List.getD_cons_succ]
    have : i < n := by omega
    simp [this]
theorem made_items (n : Nat) : (madeCells (Value.agg #[.int .i64 0, .int .i64 0, .int .i64 0, .int .i64 0]).cells ((n + 1) * 4)).toList = icells (manyL n 0) := by
  apply List.ext_getElem?
  intro j
  have hs : (Value.agg #[.int .i64 0, .int .i64 0, .int .i64 0, .int .i64 0]).cells = #[.int .i64 0, .int .i64 0, .int .i64 0, .int .i64 0] := by simp [Value.cells]
  rw [hs]
  by_cases h : j < (n + 1) * 4
  · have e : j = j / 4 * 4 + j % 4 := by omega
    have h2 : (icells (manyL n 0))[j]? = some (.int .i64 0) := by
      rw [e, icells_get _ _ _ (by rw [manyL_len]; omega) (by omega), manyL_at _ _ _ (by omega)]
      have : (if j / 4 = 0 then (⟨0, 0, 0, 0⟩ : IV) else IV.zero) = IV.zero := by split <;> rfl
      rw [this]
      rcases (show j % 4 = 0 ∨ j % 4 = 1 ∨ j % 4 = 2 ∨ j % 4 = 3 by omega) with h | h | h | h <;> rw [h] <;> rfl
    rw [h2, Array.getElem?_toList]
    unfold madeCells
    rw [Array.getElem?_map, Array.getElem?_range, if_pos h, Option.map_some]
    have h4 : (#[Value.int .i64 0, .int .i64 0, .int .i64 0, .int .i64 0] : Array Value).size = 4 := rfl
    rw [h4]
    rcases (show j % 4 = 0 ∨ j % 4 = 1 ∨ j % 4 = 2 ∨ j % 4 = 3 by omega) with h | h | h | h <;> rw [h] <;> rfl
  · rw [List.getElem?_eq_none (by rw [Array.length_toList, size_madeCells]; omega), List.getElem?_eq_none (by rw [icells_len, manyL_len]; omega)]
theorem many_set (n : Nat) (w : World) (g : Nat) (h : Blk w g 23 (icells (manyL n 0)).toArray) : Blk (w.setCell ⟨g, 1, none⟩ (.int .i64 (-1))) g 23 (icells (manyL n (-1))).toArray := by
  have := h.set_ 1 (.int .i64 (-1))
  have e : (icells (manyL n 0)).toArray.setIfInBounds 1 (.int .i64 (-1)) = (icells (manyL n (-1))).toArray := by
    rw [List.setIfInBounds_toArray]
    rfl
  rwa [e] at this
theorem blk_items {w : World} {g : Nat} {l : List IV} (h : Blk w g 23 (icells l).toArray) (i m : Nat) (hm : i + m ≤ l.length) : Reads w w.heap.size 4 (some ⟨g, i * 4, none⟩) m (icells ((l.drop i).take m)) := by
  refine ⟨by rw [icells_len, List.length_take, List.length_drop]; congr 1; omega, fun _ => ⟨_, rfl, h.lt, fun j u hu => ?_⟩⟩
  rw [add_plain, h.cell]
  have hj : j < m * 4 := by
    have := (List.getElem?_eq_some_iff.1 hu).1
    rw [icells_len, List.length_take, List.length_drop] at this
    have : (min m (l.length - i)) ≤ m := Nat.min_le_left _ _
    omega
  have e : j = j / 4 * 4 + j % 4 := by omega
  rw [e, icells_get _ _ _ (by rw [List.length_take, List.length_drop]; omega) (by omega)] at hu
  have e2 : i * 4 + j = (i + j / 4) * 4 + j % 4 := by omega
  rw [e2]
  rw [List.getElem?_toArray]
  rw [icells_get _ _ _ (by omega) (by omega), ← hu]
  congr 2
  have h1 : i + j / 4 < l.length := by omega
  have h2 : j / 4 < ((l.drop i).take m).length := by rw [List.length_take, List.length_drop]; omega
  rw [List.getD_eq_getElem?_getD, List.getD_eq_getElem?_getD, List.getElem?_take, if_pos (by omega), List.getElem?_drop]

theorem known_sort (n : Nat) : listE 0 (manyL n (-1)) [] = 2 := by
  unfold listE yearsE
  rw [if_pos (show (0 : Int) < 1 ∨ 68719476736 < (0 : Int) by omega), if_pos (by decide)]
theorem years1 : yearsE 1 = 0 := by decide
theorem known_many (n : Nat) (hn : 1024 < n + 1) : listE 1 (manyL n (-1)) [IV.zero] = 12 := by
  unfold listE
  rw [years1, if_neg (by decide), if_pos (by rw [manyL_len]; exact hn)]
theorem known_nine (n : Nat) (_hn : 9 ≤ n) : listE 1 (((manyL n (-1)).drop 0).take 9) [⟨0, 0, -1, 0⟩] = 2 := by
  unfold listE
  rw [years1, if_neg (by decide), if_neg (by rw [List.length_take]; omega)]
  unfold chkE
  rw [years1, if_neg (by decide)]
  unfold manyL
  rw [List.drop_zero, List.take_succ_cons, List.cons_append]
  show (if oneE ⟨0, -1, 0, 0⟩ ≠ 0 then oneE ⟨0, -1, 0, 0⟩ else firstE _) = _
  rw [if_pos (by decide)]
  decide
theorem known_rest (n : Nat) (hn : n ≤ 1024) : listE 1 (((manyL n (-1)).drop 1).take n) [⟨0, 0, -1, 0⟩] = 14 := by
  have e : ((manyL n (-1)).drop 1).take n = List.replicate n IV.zero := by
    unfold manyL
    rw [List.drop_succ_cons, List.drop_zero, List.take_of_length_le (by simp)]
  rw [e]
  unfold listE
  rw [years1, if_neg (by decide), if_neg (by rw [List.length_replicate]; omega)]
  unfold chkE
  rw [years1, if_neg (by decide)]
  have : ∀ n : Nat, firstE (List.replicate n IV.zero ++ [⟨0, 0, -1, 0⟩]) = 14 := fun n => by
    induction n with
    | zero => decide
    | succ n ih =>
      rw [List.replicate_succ, List.cons_append]
      show (if oneE IV.zero ≠ 0 then _ else firstE _) = _
      rw [if_neg (by decide)]
      exact ih
  exact this n
theorem known_span (v : Int) (h : SpanR 60 [⟨0, 0, 400, 0⟩, ⟨0, 0, 1000, 0⟩, ⟨0, 0, 700, 0⟩] v) : v = 600 := by
  refine h.one ⟨fun h => absurd (by decide) h, fun h => (by cases h), fun _ _ => ⟨1, 0, by simp, by simp, by decide, fun k hk => ?_, fun k hk => ?_⟩⟩
  · rcases (show k = 0 ∨ k = 1 ∨ k = 2 by simp at hk; omega) with rfl | rfl | rfl <;> decide
  · rcases (show k = 0 ∨ k = 1 ∨ k = 2 by simp at hk; omega) with rfl | rfl | rfl <;> decide
end Go.Proofs.Ytabajcofddhelaa
