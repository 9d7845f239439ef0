/- same: two lists of runs. -/
import Derived.Test.YtopcjakgfaobcaaL
namespace Go.Proofs.Ytopcjakgfaobcaa
open Go.RowKit Go.Wk

/-- A run of a slice that reads as runs, cell by cell. -/
theorem reads_run {w : World} {B n : Nat} {A : Option Addr} {l : List RV} (h : Reads w B 5 A n (rcells l)) {i : Nat} (hi : i < n) : ∃ g off, A = some ⟨g, off, none⟩ ∧ g < B ∧ l.length = n ∧
    w.cell? ⟨g, off + i * 5, none⟩ = some (.int .i64 (l.getD i RV.zero).id) ∧ w.cell? ⟨g, off + i * 5 + 1, none⟩ = some (.int .i64 (l.getD i RV.zero).job) ∧ w.cell? ⟨g, off + i * 5 + 2, none⟩ = some (.int .i64 (l.getD i RV.zero).due) ∧
    w.cell? ⟨g, off + i * 5 + 3, none⟩ = some (.int .i64 (l.getD i RV.zero).att) ∧ w.cell? ⟨g, off + i * 5 + 4, none⟩ = some (.int .i64 (l.getD i RV.zero).start) := by
  obtain ⟨ad, rfl, hb, hc⟩ := h.2 (by omega)
  have hl : l.length = n := by have := h.1; rw [rcells_len] at this; omega
  have h0 := hc _ _ ((rcells_get l 0 0 (by omega) (by omega)).trans rfl)
  obtain ⟨g, off, spot⟩ := ad
  have hs : spot = none := by simpa [Addr.add] using World.cell?_spot h0
  subst hs
  have key : ∀ j u, (l.getD i RV.zero).cells[j]? = some u → w.cell? ⟨g, off + i * 5 + j, none⟩ = some u := fun j u hu => by
    have hj : j < 5 := by
      have := (List.getElem?_eq_some_iff.1 hu).1
      simpa [RV.cells] using this
    have := hc _ _ ((rcells_get l i j (by omega) hj).trans hu)
    rw [add_plain, ← Nat.add_assoc] at this
    exact this
  exact ⟨g, off, rfl, hb, hl, key 0 _ rfl, key 1 _ rfl, key 2 _ rfl, key 3 _ rfl, key 4 _ rfl⟩

theorem same_yes (A A' : Option Addr) (n c c' B B' : Nat) (l : List RV) (w : World) (hn : n ≤ 9223372036854775807) (h : Reads w B 5 A n (rcells l)) (h' : Reads w B' 5 A' n (rcells l)) :
    Calls Try.prog 20 #[.slice A n c, .slice A' n c'] w fun x w' => x = .returned (.bool true) ∧ Fr No w w' := by
  have HR := Lib.hid h
  have HR' := Lib.hid h'
  clear h h'
  go_enter Try.func20, Try.ntmps20
  go_wp2
  go_loopw [5] (fun i wr => ∃ k m : Nat, k ≤ n ∧ i = .int .i64 k ∧ wr = w.drewN m) (fun i _ => n - (intOf i).toNat)
  case atStart => exact ⟨0, 0, Nat.zero_le _, rfl, rfl⟩
  case round =>
    obtain ⟨k, m, hk, rfl, rfl⟩ := hrel
    by_cases hlt : k < n
    · obtain ⟨g, off, rfl, _, _, a0, a1, a2, a3, a4⟩ := reads_run HR.out hlt
      obtain ⟨g', off', rfl, _, _, b0, b1, b2, b3, b4⟩ := reads_run HR'.out hlt
      generalize l.getD k RV.zero = x at *
      have hi1 : (k : Int) < (n : Int) := by omega
      go_wp2
      go_quiet (fail)
      go_wp2
      go_roundw
      case rel => exact ⟨k + 1, _, by omega, by go_num, rfl⟩
      case measure => simp [intOf]; omega
    · go_wp2
      go_ret
      exact ⟨rfl, (Fr.refl No w).drewN m⟩
end Go.Proofs.Ytopcjakgfaobcaa
