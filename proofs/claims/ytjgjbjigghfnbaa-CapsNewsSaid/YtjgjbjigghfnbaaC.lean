/- The contracts of package caps: New, and what New calls of the library. -/
import Derived.Test.YtjgjbjigghfnbaaB
namespace Go.Proofs.Ytjgjbjigghfnbaa
open Go.RowKit Go.Wk

def beyondB (n : Int) : Bool := decide (n < 0 ∨ 1000 < n)

theorem index_any (A : Option Addr) (n c B : Nat) (xs : List Int) (w : World) (hn : n ≤ 9223372036854775807) (h : Reads w B 1 A n (xs.map (Value.int .i64))) :
    Calls Try.prog 40 #[.slice A n c, .func (.func 31) #[] #[]] w fun e w' => (∃ k : Int, e = .returned (.int .i64 k) ∧ decide (0 ≤ k) = xs.any beyondB) ∧ w = w' := by
  have hl := h.length_ints
  have HA := Lib.hid hl
  clear hl
  have HR := Lib.hid h
  clear h
  go_enter Try.func40, Try.ntmps40
  go_wp2
  go_loop [8] (fun i => ∃ k : Nat, k ≤ n ∧ i = .int .i64 k ∧ Hid (∀ j, j < k → beyondB (xs.getD j 0) = false)) (fun i => n - (intOf i).toNat)
  case atStart => exact ⟨0, Nat.zero_le _, rfl, fun j h => by omega⟩
  case round =>
    obtain ⟨k, hk, rfl, hbe⟩ := hrel
    by_cases hlt : k < n
    · obtain ⟨b, off, rfl, _, hc⟩ := HR.out.int_at hlt
      go_wp2_with (first | (go_at_call 31; refine (beyond_any _ _).mono ?_; rintro e w1 ⟨rfl, rfl⟩))
      · go_ret
        refine ⟨⟨k, rfl, ?_⟩, rfl⟩
        have hx : beyondB (xs.getD k 0) = true := by
          unfold beyondB; simp only [List.getD_eq_getElem?_getD]; simpa using by assumption
        rw [show decide ((0 : Int) ≤ (k : Int)) = true by simp]
        symm
        rw [List.any_eq_true]
        have hl := HA.out
        exact ⟨xs.getD k 0, by simp [show k < xs.length by omega], hx⟩
      · go_round
        case rel =>
          refine ⟨k + 1, by omega, by go_num, fun j hj => ?_⟩
          rcases Nat.lt_or_ge j k with h1 | h1
          · exact hbe j h1
          · obtain rfl : j = k := by omega
            unfold beyondB
            simp only [List.getD_eq_getElem?_getD, decide_eq_false_iff_not]
            omega
        case measure => simp [intOf]; omega
    · go_wp2
      go_ret
      refine ⟨⟨-1, rfl, ?_⟩, rfl⟩
      rw [show decide ((0 : Int) ≤ -1) = false by decide]
      symm
      rw [List.any_eq_false]
      intro x hx
      obtain ⟨j, hj, rfl⟩ := List.mem_iff_getElem.1 hx
      have hl := HA.out
      have := hbe j (by omega)
      simpa [hj] using this

theorem contains_any (A : Option Addr) (n c B : Nat) (xs : List Int) (w : World) (hn : n ≤ 9223372036854775807) (h : Reads w B 1 A n (xs.map (Value.int .i64))) :
    Calls Try.prog 32 #[.slice A n c, .func (.func 31) #[] #[]] w fun e w' => e = .returned (.bool (xs.any beyondB)) ∧ w = w' := by
  have H := Lib.hid (index_any A n c B xs w hn h)
  clear h
  go_enter Try.func32, Try.ntmps32
  go_wp2_with (go_at_call 40; refine H.out.mono ?_; rintro e w1 ⟨⟨k, rfl, hk⟩, rfl⟩; have HK := Lib.hid hk; clear hk)
  go_ret
  exact ⟨ret1b HK.out, rfl⟩

theorem new_bad (all : Int) (A : Option Addr) (n c B : Nat) (xs : List Int) (w : World) (hn : n ≤ 9223372036854775807) (h : Reads w B 1 A n (xs.map (Value.int .i64)))
    (hbad : beyondB all = true ∨ 64 < n ∨ xs.any beyondB = true) :
    Calls Try.prog 16 #[.int .i64 all, .slice A n c] w fun e w' => e = .returned (.tuple #[.pointer none, .int .i64 2]) ∧ w = w' := by
  have HR := Lib.hid h
  clear h
  by_cases h1 : beyondB all = true
  · have H1 := Lib.hid h1
    clear h1
    go_enter Try.func16, Try.ntmps16
    go_wp2_with (first | (go_at_call 31; refine (beyond_any _ _).mono ?_; rintro e w1 ⟨rfl, rfl⟩; rw [show decide (all < 0 ∨ 1000 < all) = true from H1.out]))
    go_ret2
    exact ⟨rfl, rfl⟩
  · have H1 := Lib.hid (Bool.not_eq_true _ ▸ h1 : beyondB all = false)
    by_cases h2 : 64 < n
    · clear h1
      go_enter Try.func16, Try.ntmps16
      go_wp2_with (first | (go_at_call 31; refine (beyond_any _ _).mono ?_; rintro e w1 ⟨rfl, rfl⟩; rw [show decide (all < 0 ∨ 1000 < all) = false from H1.out]))
      go_ret2
      exact ⟨rfl, rfl⟩
    · have H3 := Lib.hid (show xs.any beyondB = true by simpa [h1, h2] using hbad)
      clear h1 hbad
      have hd : decide (64 < n) = false := by simpa using h2
      go_enter Try.func16, Try.ntmps16
      go_wp2_with (first
        | (go_at_call 31; refine (beyond_any _ _).mono ?_; rintro e w1 ⟨rfl, rfl⟩; rw [show decide (all < 0 ∨ 1000 < all) = false from H1.out])
        | (go_at_call 32; refine (contains_any _ _ _ _ _ _ hn HR.out).mono ?_; rintro e w1 ⟨rfl, rfl⟩; rw [H3.out]))
      go_ret2
      exact ⟨rfl, rfl⟩

end Go.Proofs.Ytjgjbjigghfnbaa
