/- slices.Clone, maps.Clone; New, Ids, Copy, Next. -/
import Derived.Test.YtgkpmckbdagkcaaDel
import Derived.Shelf.SlMaps.Clone
namespace Go.Proofs.Ytgkpmckbdagkcaa
open Go.RowKit Go.Wk

theorem ints_one (l : List Int) : ∀ u ∈ l.map (Value.int .i64), u.oneCell' = true := fun u hu => by
  obtain ⟨x, _, rfl⟩ := List.mem_map.1 hu
  rfl
/-- What Clone leaves: a slice of the call's own with the same numbers. -/
def Cloned (w : World) (n : Nat) (l : List Int) (x : Ending) (w' : World) : Prop := ∃ A c, x = .returned (.slice A n c) ∧ w'.ownsRow w.heap.size 3 1 (.slice A n c) n (cells .i64 l) ∧ n ≤ c ∧ Fr No w w'

theorem clone_any (A : Option Addr) (n c : Nat) (l : List Int) (w : World) (h : Reads w w.heap.size 1 A n (l.map (Value.int .i64))) (hn : n ≤ 1000000) :
    Calls Try.prog 38 #[.slice A n c] w fun x w' => Cloned w n l x w' := by
  obtain ⟨i0, hi, hz0, hz1, hz2⟩ : ∃ i, Try.prog.info? 3 = some i ∧ i.zero = some (.int .i64 0) ∧ i.size = 1 ∧ i.bytes = 8 := ⟨_, rfl, rfl, rfl, rfl⟩
  rcases A with _ | ad
  · have heq := fun w => Lib.run_eql_slice_nil (P := Try.prog) w 30 3 none n c 0 0 Try.underlying30
    have hn0 : n = 0 := by
      rcases Nat.eq_zero_or_pos n with h0 | h0
      · exact h0
      · obtain ⟨ad, hA, _⟩ := h.2 h0
        cases hA
    subst hn0
    have hx : l = [] := List.eq_nil_of_length_eq_zero (by simpa using h.1)
    go_enter Try.func38, Try.ntmps38
    go_wp2
    go_ret
    exact ⟨none, 0, rfl, by rw [hx]; exact own_nil _ _ _ _, Nat.le_refl _, Fr.refl _ _⟩
  · have o1 : (w.alloc (.cells #[] 3)).ownsRow w.heap.size 3 1 (.slice (some ⟨w.heap.size, 0, none⟩) 0 0) 0 [] := ⟨rfl, .inr ⟨w.heap.size, 0, #[], rfl, Nat.le_refl _, Blk.new w 3 #[], Nat.le_refl _, Nat.zero_le _, rfl, rfl⟩⟩
    have O1 := Lib.hid o1
    have R1 := Lib.hid (h.alloc (Nat.le_refl _) (.cells #[] 3))
    have HB1 := Lib.hid (show (0 + n) * 8 ≤ 140737488355328 by omega)
    have HB0 := Lib.hid (show 0 + n ≤ maxLen by unfold maxLen; omega)
    have heq := fun w => Lib.run_eql_slice_nil (P := Try.prog) w 30 3 (some ad) n c 0 0 Try.underlying30
    clear h o1
    go_enter Try.func38, Try.ntmps38
    go_wp2_with (at_builtin; refine wpList_append_any (w.alloc (.cells #[] 3)) rfl (.tmp 5) (.tmp 6) 30 rfl w.heap.size 3 i0 (.int .i64 0) 1 8 Try.underlying30 hi hz0 hz1 hz2 rfl (by omega) (.slice (some ⟨w.heap.size, 0, none⟩) 0 0) 0 [] rfl O1.out w.heap.size (some ad) n c (l.map (Value.int .i64)) rfl R1.out (ints_one _) HB0.out HB1.out (by simp) ?_)
    intro v' w2 hown2 hg2 hloc2
    obtain ⟨A2, q2, rfl⟩ := own_form' hown2
    have F2 : Fr No w w2 := ((Fr.refl No w).alloc (.cells #[] 3)).own (Fr.of_grown (S := (· = w.heap.size)) hg2 (fun k hk => by simpa [Value.ownBlock] using hk.symm)) (Nat.le_refl _)
    have hq := own_cap hown2
    go_wp2
    go_ret
    exact ⟨A2, q2, by simp, by simpa [cells] using hown2, hq, F2⟩


set_option maxHeartbeats 2000000 in
theorem mclone_any (b n : Nat) (f : Int → Option (Int × Int)) (w : World) (h : MapF w Try.prog 3 b n f) :
    Calls Try.prog 42 #[.map (some b)] w fun e w' => e = .returned (.map (some w.heap.size)) ∧ MapF w' Try.prog 3 w.heap.size n f ∧ Fr No w w' := by
  obtain ⟨D, ⟨es, clock, hb, F, hs, hD⟩, hd⟩ := h
  have hq := fun w => run_eql_map_nil_sl (P := Try.prog) w 48 3 60 (some b) Try.underlying48
  have mixed : Try.prog.follows Departure.mixedOrders = true := by kernel_rfl
  have key : Calls Try.prog 42 #[.map (some b)] w fun e w' => e = .returned (.map (some w.heap.size)) ∧ w' = w.alloc (.map es clock) := by
    clear hd hD hs F
    go_enter Try.func42, Try.ntmps42
    go_wp2
    rw [run_callFunc_extern Try.func48 (by kernel_rfl) (by kernel_rfl) (by kernel_rfl) (e := Extern.MapsClone.clone) (by kernel_rfl), run_maps_clone_sl w 48 hb]
    simp only [Result.andThen]
    rw [Oper.upon_value]
    go_wp2
    rw [run_typeAssert_map_sl _ 48 20 _ _ _ Try.underlying48]
    simp only [Result.andThen]
    rw [Oper.upon_value]
    go_wp2
    go_ret
    exact ⟨rfl, rfl⟩
  refine key.mono fun e w' ⟨he, hw⟩ => ?_
  subst hw
  exact ⟨he, ⟨D, ⟨es, clock, (MapKept.heap_alloc w _).1, F, hs, hD⟩, hd⟩, (Fr.refl No w).alloc _⟩
end Go.Proofs.Ytgkpmckbdagkcaa
