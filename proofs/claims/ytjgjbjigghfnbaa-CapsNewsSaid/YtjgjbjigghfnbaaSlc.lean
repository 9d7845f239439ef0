/- slices.Clone and slices.Equal at []int; clear of a row of the call's own. -/
import Derived.Test.YtjgjbjigghfnbaaRefC
import Derived.Lib.SliceRun
namespace Go.Proofs.Ytjgjbjigghfnbaa
open Go.RowKit Go.Wk

/-- What Clone leaves: a slice of the call's own with the same numbers. -/
def Cloned (w : World) (n : Nat) (xs : List Int) (x : Ending) (w' : World) : Prop := ∃ A c, x = .returned (.slice A n c) ∧ w'.ownsRow w.heap.size 3 1 (.slice A n c) n (cells .i64 xs) ∧ Fr No w w'

theorem clone_any (A : Option Addr) (n c : Nat) (xs : List Int) (w : World) (h : Reads w w.heap.size 1 A n (cells .i64 xs)) (hn : n ≤ 1000000) :
    Calls Try.prog 25 #[.slice A n c] w fun x w' => Cloned w n xs x w' := by
  obtain ⟨i0, hi, hz0, hz1, hz2⟩ : ∃ i, Try.prog.info? 3 = some i ∧ i.zero = some (.int .i64 0) ∧ i.size = 1 ∧ i.bytes = 8 := ⟨_, rfl, rfl, rfl, rfl⟩
  rcases A with _ | ad
  · have heq := fun w => Lib.run_eql_slice_nil (P := Try.prog) w 24 3 none n c 0 0 Try.underlying24
    have hn0 : n = 0 := by
      rcases Nat.eq_zero_or_pos n with h0 | h0
      · exact h0
      · obtain ⟨ad, hA, _⟩ := h.2 h0
        cases hA
    subst hn0
    have hx : cells .i64 xs = [] := List.eq_nil_of_length_eq_zero (by simpa using h.1)
    go_enter Try.func25, Try.ntmps25
    go_wp2
    go_ret
    exact ⟨none, 0, rfl, by rw [hx]; exact own_nil _ _ _, Fr.refl _ _⟩
  · have o1 : (w.alloc (.cells #[] 3)).ownsRow w.heap.size 3 1 (.slice (some ⟨w.heap.size, 0, none⟩) 0 0) 0 [] := Blk.own (xs := []) (Blk.new w 3 #[]) (Nat.le_refl _) (Nat.zero_le _)
    have O1 := Lib.hid o1
    have R1 := Lib.hid (h.alloc (Nat.le_refl _) (.cells #[] 3))
    have HB1 := Lib.hid (show (0 + n) * 8 ≤ 140737488355328 by omega)
    have HB0 := Lib.hid (show 0 + n ≤ maxLen by unfold maxLen; omega)
    have heq := fun w => Lib.run_eql_slice_nil (P := Try.prog) w 24 3 (some ad) n c 0 0 Try.underlying24
    clear h o1
    go_enter Try.func25, Try.ntmps25
    go_wp2_with (at_builtin; refine wpList_append_any (w.alloc (.cells #[] 3)) rfl (.tmp 5) (.tmp 6) 24 rfl w.heap.size 3 i0 (.int .i64 0) 1 8 Try.underlying24 hi hz0 hz1 hz2 rfl (by omega) (.slice (some ⟨w.heap.size, 0, none⟩) 0 0) 0 [] rfl O1.out w.heap.size (some ad) n c (cells .i64 xs) rfl R1.out (cells_one _) HB0.out HB1.out (by simp) ?_)
    intro v' w2 hown2 hg2 hloc2
    obtain ⟨A2, q2, rfl, _, _, _⟩ := Reads.of_cells hown2 (Nat.le_refl _)
    have F2 : Fr No w w2 := ((Fr.refl No w).alloc (.cells #[] 3)).own (Fr.of_grown (S := (· = w.heap.size)) hg2 (fun k hk => by simpa [Value.ownBlock] using hk.symm)) (Nat.le_refl _)
    go_wp2
    go_ret
    exact ⟨A2, q2, rfl, hown2, F2⟩

theorem fr_setCells {S : Nat → Prop} {w : World} {g : Nat} (hS : S g) : ∀ (vs : List Value) (o : Nat) {w' : World}, Fr S w w' → Fr S w (w'.setCells g o vs)
  | [], _, _, h => h
  | v :: vs, o, _, h => fr_setCells hS vs (o + 1) (h.setCell (.inr hS) v)

theorem zero3 (w : World) : (zeroValue 3).run Try.prog w = .ok (.int .i64 0) w := by kernel_rfl

/-- clear of a row of the call's own turns that row alone. -/
theorem clear_own {W : World} {base n q : Nat} {A : Option Addr} {xs : List Int} (h : W.ownsRow base 3 1 (.slice A n q) n (cells .i64 xs)) :
    ∃ W', (∀ ty, (Builtin.clear_ #[24] ty #[.slice A n q]).run Try.prog W = .ok (.tuple #[]) W') ∧ Fr (fun k => (Value.slice A n q).ownBlock = some k) W W' := by
  rcases Nat.eq_zero_or_pos n with h0 | h0
  · subst h0
    exact ⟨W, fun ty => by cases A <;> simp [Builtin.clear_, run_underlying Try.underlying24], Fr.refl _ _⟩
  · rcases h.2 with ⟨_, h1⟩ | ⟨g, cap, cur, hv, hb, hh, hnc, _, hsz, _⟩
    · omega
    · injection hv with hA _ hq
      subst hA
      subst hq
      refine ⟨_, fun ty => Lib.run_clear_slice W 24 3 ty (.int .i64 0) Try.underlying24 zero3 rfl rfl g 0 n q h0 (fun j hj => ?_) (fun j hj => ?_), fr_setCells (by rfl) _ _ (Fr.refl _ _)⟩
      · have : (Blk W g 3 cur) := hh
        rw [Nat.zero_add, this.cell]
        simp; omega
      · have : (Blk W g 3 cur) := hh
        exact this.frozen _

theorem equal_any (A A' : Option Addr) (n c c' B B' : Nat) (xs : List Int) (w : World) (hn : n ≤ 9223372036854775807) (h : Reads w B 1 A n (xs.map (Value.int .i64))) (h' : Reads w B' 1 A' n (xs.map (Value.int .i64))) :
    Calls Try.prog 26 #[.slice A n c, .slice A' n c'] w fun x w' => x = .returned (.bool true) ∧ Fr No w w' := by
  have HR := Lib.hid h
  have HR' := Lib.hid h'
  clear h h'
  go_enter Try.func26, Try.ntmps26
  go_wp2
  go_loopw [13] (fun i wr => ∃ k m : Nat, k ≤ n ∧ i = .int .i64 k ∧ wr = w.drewN m) (fun i _ => n - (intOf i).toNat)
  case atStart => exact ⟨0, 0, Nat.zero_le _, rfl, rfl⟩
  case round =>
    obtain ⟨k, m, hk, rfl, rfl⟩ := hrel
    by_cases hlt : k < n
    · obtain ⟨b, off, rfl, _, hc⟩ := HR.out.int_at hlt
      obtain ⟨b', off', rfl, _, hc'⟩ := HR'.out.int_at hlt
      generalize xs.getD k 0 = y at *
      have hi1 : (k : Int) < (n : Int) := by omega
      go_wp2
      go_quiet (fail)
      go_wp2
      go_roundw
      case rel => exact ⟨k + 1, _, by omega, by go_num, rfl⟩
      case measure => simp [intOf]; omega
    · go_wp2
      go_ret
      exact ⟨rfl, (Fr.refl No w).drewN m⟩
end Go.Proofs.Ytjgjbjigghfnbaa
