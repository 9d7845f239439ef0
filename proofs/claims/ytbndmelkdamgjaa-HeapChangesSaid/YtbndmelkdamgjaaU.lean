/- The laws' function values; slices.Equal at equal numbers. -/
import Derived.Test.YtbndmelkdamgjaaT
import Derived.Deep.QuietTactic
namespace Go.Proofs.Ytbndmelkdamgjaa
open Go.RowKit Go.Wk

theorem equal_yes (A A' : Option Addr) (n c c' B B' : Nat) (xs : List Int) (w : World) (hn : n ≤ 9223372036854775807) (h : Reads w B 1 A n (xs.map (Value.int .i64))) (h' : Reads w B' 1 A' n (xs.map (Value.int .i64))) :
    Calls Try.prog 22 #[.slice A n c, .slice A' n c'] w fun x w' => x = .returned (.bool true) ∧ Fr No w w' := by
  have HR := Lib.hid h
  have HR' := Lib.hid h'
  clear h h'
  go_enter Try.func22, Try.ntmps22
  go_wp2
  go_loopw [13] (fun i wr => ∃ k m : Nat, k ≤ n ∧ i = .int .i64 k ∧ wr = w.drewN m) (fun i _ => n - (intOf i).toNat)
  case atStart => exact ⟨0, 0, Nat.zero_le _, rfl, rfl⟩
  case round =>
    obtain ⟨k, m, hk, rfl, rfl⟩ := hrel
    by_cases hlt : k < n
    · obtain ⟨b, off, rfl, _, hc⟩ := HR.out.int_at hlt
      obtain ⟨b', off', rfl, _, hc'⟩ := HR'.out.int_at hlt
      generalize xs.getD k 0 = y at *
      have hi1 : (k : Int) < (n : Int) := by omega
      go_wp2
      go_quiet (fail)
      go_wp2
      go_roundw
      case rel => exact ⟨k + 1, _, by omega, by go_num, rfl⟩
      case measure => simp [intOf]; omega
    · go_wp2
      go_ret
      exact ⟨rfl, (Fr.refl No w).drewN m⟩


def ltI (a b : Int) : Bool := decide (a < b)
def gtI (a b : Int) : Bool := decide (b < a)
def noI (_ _ : Int) : Bool := false
theorem weak_lt : Weak ltI := ⟨fun a => by simp [ltI], fun a b c h1 h2 => by simp [ltI] at *; omega, fun a b c h1 h2 => by simp [ltI] at *; omega⟩
theorem weak_gt : Weak gtI := ⟨fun a => by simp [gtI], fun a b c h1 h2 => by simp [gtI] at *; omega, fun a b c h1 h2 => by simp [gtI] at *; omega⟩
theorem weak_no : Weak noI := ⟨fun a => rfl, fun a b c h1 _ => (by cases h1), fun a b c _ _ => rfl⟩
theorem bef_lt : Bef (Value.int .i64) ltI 39 := by
  refine ⟨fun args w => by kernel_rfl, fun a b X => ?_, weak_lt⟩
  unfold ltI
  go_enter Try.func39, Try.ntmps39
  go_wp2
  go_ret
  exact ⟨rfl, Fr.refl _ _⟩
theorem bef_no : Bef (Value.int .i64) noI 31 := by
  refine ⟨fun args w => by kernel_rfl, fun a b X => ?_, weak_no⟩
  unfold noI
  go_enter Try.func31, Try.ntmps31
  go_wp2
  go_ret
  exact ⟨rfl, Fr.refl _ _⟩
theorem bef_gt : Bef (Value.int .i64) gtI 40 := by
  refine ⟨fun args w => by kernel_rfl, fun a b X => ?_, weak_gt⟩
  unfold gtI
  go_enter Try.func40, Try.ntmps40
  go_wp2
  go_ret
  exact ⟨rfl, Fr.refl _ _⟩
/-- slices.Equal of what Ids leaves and a row that the call has just laid. -/
theorem equal_ids {w0 w1 w : World} {xs : List Int} {A : Option Addr} {n c : Nat} (ho : w1.ownsRow w0.heap.size 3 1 (.slice A n c) n (cells .i64 xs)) (hf : Fr No w1 w) (A' : Option Addr) (c' B' : Nat) (hn2 : n ≤ 9223372036854775807)
    (h' : Reads w B' 1 A' n (xs.map (Value.int .i64))) : Calls Try.prog 22 #[.slice A n c, .slice A' n c'] w fun x w' => x = .returned (.bool true) ∧ Fr No w w' :=
  equal_yes A A' n c c' w.heap.size B' xs w hn2 (Reads.of_own (own_fr ho hf (fun _ _ z => z))) h'
end Go.Proofs.Ytbndmelkdamgjaa
