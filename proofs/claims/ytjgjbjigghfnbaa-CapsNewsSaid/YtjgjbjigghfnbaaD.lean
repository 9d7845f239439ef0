/- caps.New, where it makes caps. -/
import Derived.Test.YtjgjbjigghfnbaaC
import Derived.Laws.CopyOwn
namespace Go.Proofs.Ytjgjbjigghfnbaa
open Go.RowKit Go.Wk

/-- The zero value's cells. -/
def ZC : Array Value := (Value.bool false :: .int .i64 0 :: .int .i64 0 :: (List.replicate 128 (Value.int .i64 0) ++ [.int .i64 0])).toArray
def ZL (all n : Int) : List Value := Value.bool true :: .int .i64 all :: .int .i64 n :: (List.replicate 128 (Value.int .i64 0) ++ [.int .i64 0])
theorem zero57 (w : World) : (zeroValue 57).run Try.prog w = .ok (.agg ZC) w := by kernel_rfl
theorem ZC_size : ZC.size = 132 := by simp [ZC]
theorem ZC_ne : (ZC = #[]) = False := by simp [ZC]
theorem ZC_set (all n : Int) : ((ZC.setIfInBounds 0 (.bool true)).setIfInBounds 1 (.int .i64 all)).setIfInBounds 2 (.int .i64 n) = (ZL all n).toArray := by
  simp [ZC, ZL]
theorem ZL_len (all n : Int) : (ZL all n).length = 132 := by simp [ZL]

/-- Caps as New makes them. -/
def CS.fresh (all : Int) (xs : List Int) : CS := { all := all, jobs := xs.length, most := xs ++ List.replicate (64 - xs.length) 0, runs := List.replicate 64 0, total := 0 }

theorem splice_fresh (all : Int) (xs : List Int) (h : xs.length ≤ 64) : (splice (ZL all xs.length) 3 (xs.map (Value.int .i64))).toArray = (CS.fresh all xs).cells := by
  unfold splice ZL CS.cells CS.fresh
  congr 1
  simp only [List.take_succ_cons, List.take_zero, List.length_map, show 3 + xs.length = xs.length + 1 + 1 + 1 by omega, List.drop_succ_cons, List.cons_append, List.nil_append, List.map_append, List.map_replicate, List.append_assoc]
  rw [List.drop_append_of_le_length (by simp; omega), List.drop_replicate, show 128 - xs.length = (64 - xs.length) + 64 by omega, ← List.replicate_append_replicate]
  simp only [List.append_assoc]

theorem CS.fresh_r (all : Int) (xs : List Int) (j : Nat) : (CS.fresh all xs).r j = 0 := by
  simp only [CS.fresh, CS.r, List.getD_eq_getElem?_getD, List.getElem?_replicate]; split <;> rfl
theorem CS.fresh_m (all : Int) (xs : List Int) (j : Nat) : (CS.fresh all xs).m j = xs.getD j 0 := by
  simp only [CS.fresh, CS.m, List.getD_eq_getElem?_getD]
  rcases Nat.lt_or_ge j xs.length with h | h
  · rw [List.getElem?_append_left h]
  · rw [List.getElem?_append_right h, List.getElem?_replicate, List.getElem?_eq_none h]; split <;> rfl

theorem CS.fresh_ok (all : Int) (xs : List Int) (h : xs.length ≤ 64) (h1 : beyondB all = false) (h3 : xs.any beyondB = false) : (CS.fresh all xs).ok := by
  have hx : ∀ j, 0 ≤ xs.getD j 0 ∧ xs.getD j 0 ≤ 1000 := by
    intro j
    rcases Nat.lt_or_ge j xs.length with hj | hj
    · have := List.any_eq_false.1 h3 xs[j] (List.getElem_mem hj)
      simp [beyondB] at this
      simp [hj]; omega
    · simp [List.getElem?_eq_none hj]
  have ha : 0 ≤ all ∧ all ≤ 1000 := by simp [beyondB] at h1; omega
  refine ⟨by simp [CS.fresh]; omega, by simp [CS.fresh], by simpa [CS.fresh] using h, ha.1, ha.2, Int.le_refl _, ha.1, fun j => ?_, fun j => ?_, fun j => ?_, fun j => ?_, by simp [CS.fresh]⟩
  · rw [CS.fresh_m]; exact (hx j).1
  · rw [CS.fresh_m]; exact (hx j).2
  · rw [CS.fresh_r]; exact Int.le_refl _
  · rw [CS.fresh_r, CS.fresh_m]; exact (hx j).1

set_option maxRecDepth 100000 in
theorem new_good (all : Int) (A : Option Addr) (c B : Nat) (xs : List Int) (w : World) (h : Reads w B 1 A xs.length (xs.map (Value.int .i64))) (hB : B ≤ w.heap.size)
    (h1 : beyondB all = false) (h2 : xs.length ≤ 64) (h3 : xs.any beyondB = false) :
    Calls Try.prog 16 #[.int .i64 all, .slice A xs.length c] w fun e w' => e = .returned (.tuple #[.pointer (some ⟨w.heap.size, 0, none⟩), .int .i64 0]) ∧ CapsAt w' w.heap.size (.fresh all xs) ∧ Below w.heap.size w w' := by
  have HR := Lib.hid h
  clear h
  have H1 := Lib.hid h1
  have H3 := Lib.hid h3
  clear h1 h3
  have hd : decide (64 < (xs.length : Int)) = false := by simp; omega
  have i3 : (Try.prog.info? 3).map (·.size) = some 1 := by kernel_rfl
  have z0 := zero57
  have z1 := ZC_size
  have z2 := ZC_ne
  have z3 := ZC_set
  have HN := Lib.hid (show xs.length = (xs.map (Value.int .i64)).length by simp)
  have HF := Lib.hid (CS.fresh_ok all xs h2 H1.out H3.out)
  have HS := Lib.hid (splice_fresh all xs h2)
  obtain ⟨cs, hcs⟩ : ∃ cs, cs = xs.map (Value.int .i64) := ⟨_, rfl⟩
  rw [← hcs] at HN HS
  have HCS := Lib.hid hcs
  clear hcs
  generalize xs.length = n at *
  go_enter Try.func16, Try.ntmps16
  go_wp2_with (first
        | (go_at_call 31; refine (beyond_any _ _).mono ?_; rintro e w1 ⟨rfl, rfl⟩; rw [show decide (all < 0 ∨ 1000 < all) = false from H1.out])
        | (go_at_call 32; refine (contains_any _ _ _ _ _ _ (by omega) HR.out).mono ?_; rintro e w1 ⟨rfl, rfl⟩; rw [H3.out])
        | (with_reducible refine wpList_copy_splice rfl (.tmp 29) (.tmp 30) 24 24 rfl 3 Try.underlying24 i3 _ _ _ _ _ _ rfl rfl w.heap.size 3 (ZL all n) 57 (heap_alloc_new _ _) cs ?c1 ?c2 ?c3 ?c4 w.heap.size w ((Below.refl _ _).alloc (Nat.le_refl _) _) (Nat.le_refl _) ?_))
  case c1 => have := HN.out; show _ = min _ _; omega
  case c2 =>
    intro hp
    have hr := (HR.out.alloc hB (.cells (ZL all n).toArray 57))
    rw [← HCS.out] at hr
    obtain ⟨ad, e, _, hcc⟩ := hr.2 (by have := HN.out; omega)
    exact ⟨ad, e, hcc⟩
  case c3 => have := HN.out; rw [ZL_len]; omega
  case c4 => rw [HCS.out]; exact ints_oneCell _ _
  intro w2 hw2 hb2
  go_wp2
  go_ret2
  refine ⟨rfl, ⟨?_, HF.out⟩, hb2⟩
  have := hw2.out
  rw [HS.out] at this
  exact this
end Go.Proofs.Ytjgjbjigghfnbaa
