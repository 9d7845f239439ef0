/- slices.Clone at bytes; slices.IndexFunc, DeleteFunc of one number. -/
import Derived.Test.YtbndmelkdamgjaaLe
namespace Go.Proofs.Ytbndmelkdamgjaa.So
open Go.RowKit Go.Wk

/-- What Clone leaves: a slice of the call's own with the same bytes. -/
def Cloned (w : World) (n : Nat) (xs : List Int) (x : Ending) (w' : World) : Prop := ∃ A c, x = .returned (.slice A n c) ∧ w'.ownsRow w.heap.size 5 1 (.slice A n c) n (cells .u8 xs) ∧ Fr No w w'
set_option maxRecDepth 100000 in
theorem clone_any (A : Option Addr) (n c : Nat) (xs : List Int) (w : World) (h : Reads w w.heap.size 1 A n (cells .u8 xs)) (hn : n ≤ 1000000) :
    Calls Try.prog 53 #[.slice A n c] w fun x w' => Cloned w n xs x w' := by
  obtain ⟨i0, hi, hz0, hz1, hz2⟩ : ∃ i, Try.prog.info? 5 = some i ∧ i.zero = some (.int .u8 0) ∧ i.size = 1 ∧ i.bytes = 1 := ⟨_, rfl, rfl, rfl, rfl⟩
  have hone : ∀ u ∈ cells .u8 xs, u.oneCell' = true := fun u hu => by
    obtain ⟨z, _, rfl⟩ := List.mem_map.1 hu; rfl
  rcases A with _ | ad
  · have heq := fun w => Lib.run_eql_slice_nil (P := Try.prog) w 56 5 none n c 0 0 Try.underlying56
    have hn0 : n = 0 := by
      rcases Nat.eq_zero_or_pos n with h0 | h0
      · exact h0
      · obtain ⟨ad, hA, _⟩ := h.2 h0
        cases hA
    subst hn0
    have hx : cells .u8 xs = [] := List.eq_nil_of_length_eq_zero (by simpa using h.1)
    clear hone
    go_enter Try.func53, Try.ntmps53
    go_wp2
    go_ret
    exact ⟨none, 0, rfl, by rw [hx]; exact own_nil _ _ _ _, Fr.refl _ _⟩
  · have o1 : (w.alloc (.cells #[] 5)).ownsRow w.heap.size 5 1 (.slice (some ⟨w.heap.size, 0, none⟩) 0 0) 0 [] := Blk.own (xs := []) (Blk.new w 5 #[]) (Nat.le_refl _) (Nat.zero_le _)
    have O1 := Lib.hid o1
    have R1 := Lib.hid (h.alloc (Nat.le_refl _) (.cells #[] 5))
    have HB1 := Lib.hid (show (0 + n) * 1 ≤ 140737488355328 by omega)
    have HB0 := Lib.hid (show 0 + n ≤ maxLen by unfold maxLen; omega)
    have HONE := Lib.hid hone
    have heq := fun w => Lib.run_eql_slice_nil (P := Try.prog) w 56 5 (some ad) n c 0 0 Try.underlying56
    clear h o1 hone
    go_enter Try.func53, Try.ntmps53
    go_wp2_with (at_builtin; refine wpList_append_any (w.alloc (.cells #[] 5)) rfl (.tmp 5) (.tmp 6) 56 rfl w.heap.size 5 i0 (.int .u8 0) 1 1 Try.underlying56 hi hz0 hz1 hz2 rfl (by omega) (.slice (some ⟨w.heap.size, 0, none⟩) 0 0) 0 [] rfl O1.out w.heap.size (some ad) n c (cells .u8 xs) rfl R1.out HONE.out HB0.out HB1.out (by simp) ?_)
    intro v' w2 hown2 hg2 hloc2
    obtain ⟨A2, q2, rfl⟩ := own_form' hown2
    have F2 : Fr No w w2 := ((Fr.refl No w).alloc (.cells #[] 5)).own (Fr.of_grown (S := (· = w.heap.size)) hg2 (fun k hk => by simpa [Value.ownBlock] using hk.symm)) (Nat.le_refl _)
    go_wp2
    go_ret
    exact ⟨A2, q2, by simp, by simpa using hown2, F2⟩
theorem is_any (x y : Int) (g : Nat) (w : World) (h : w.cell? ⟨g, 0, none⟩ = some (.int .i64 y)) : Calls Try.prog 55 #[.int .i64 x, .pointer (some ⟨g, 0, none⟩)] w fun e w' => e = .returned (.bool (x == y)) ∧ w = w' := by
  go_enter Try.func55, Try.ntmps55
  go_wp2
  go_ret
  exact ⟨rfl, rfl⟩
end Go.Proofs.Ytbndmelkdamgjaa.So
