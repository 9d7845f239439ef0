/- The contracts of New, Ids, Next, Copy. -/
import Derived.Test.YtgkpmckbdagkcaaG
namespace Go.Proofs.Ytgkpmckbdagkcaa
open Go.RowKit Go.Wk

theorem LS.ok_new : LS.new.ok := ⟨List.Pairwise.nil, List.Pairwise.nil, fun e he => (by cases he), fun e he => (by cases he), fun e he => (by cases he), Int.le_refl _, by decide, by decide⟩
theorem New_any (w : World) : Calls Try.prog 13 #[] w fun e w' => ∃ b D, e = .returned (.pointer (some ⟨b, 0, none⟩)) ∧ LateAt w' b D LS.new ∧ (∀ k, D k → w.heap.size ≤ k) ∧ Fr No w w' := by
  have hmm := @run_makeMap Try.prog
  go_enter Try.func13, Try.ntmps13
  go_wp2
  go_ret
  refine ⟨w.heap.size + 1, _, rfl, ⟨w.heap.size, .slice none 0 0, ⟨?_, ?_, ?_, LS.ok_new⟩, rfl⟩, fun k hk => ?_, ((Fr.refl No w).alloc _).alloc _⟩
  · have := Blk.new (w.alloc (.map #[] 0)) 50 #[.map (some w.heap.size), .slice none 0 0, .int .i64 0]
    rwa [World.size_alloc] at this
  · exact own_nil _ _ _ _
  · exact (MapF.made w Try.prog 3).fr ((Fr.refl No _).alloc _) (fun x => x)
  · rcases hk with rfl | rfl | hk
    · omega
    · exact Nat.le_refl _
    · simp [Value.ownBlock] at hk

theorem Ids_any (b bm : Nat) (v : Value) (s : LS) (w : World) (h : LateV w b bm v s) : Calls Try.prog 15 #[.pointer (some ⟨b, 0, none⟩)] w fun e w' => Cloned w s.l.length (ids s.l) e w' := by
  obtain ⟨c0, c1, c2⟩ := h.cells
  obtain ⟨A, c, rfl, _⟩ := h.form
  have HV := Lib.hid (valid_any b bm _ s w h)
  have HC := Lib.hid (clone_any A s.l.length c (ids s.l) w (Reads.of_own h.own) (by have := h.len; omega))
  clear h
  go_enter Try.func15, Try.ntmps15
  go_wp2_with fail
  refine HV.out.mono ?_
  rintro x w1 ⟨rfl, rfl⟩
  go_wp2_with fail
  refine HC.out.mono ?_
  rintro x w1 ⟨A', c', rfl, ho, hc, hf⟩
  go_wp2
  go_ret
  exact ⟨A', c', rfl, ho, hc, hf⟩

theorem field0 (W : World) (a b : Int) : (Instr.field 60 (.agg #[.int .i64 a, .int .i64 b]) 0).run Try.prog W = .ok (.int .i64 a) W := by kernel_rfl
def nextV (s : LS) : Int := if s.l = [] then 0 else (s.l.getD 0 LE.zero).at_
def nextB (s : LS) : Bool := !s.l.isEmpty
theorem Next_any (b bm : Nat) (v : Value) (s : LS) (w : World) (h : LateV w b bm v s) : Calls Try.prog 27 #[.pointer (some ⟨b, 0, none⟩)] w fun e w' => e = .returned (.tuple #[.int .i64 (nextV s), .bool (nextB s)]) ∧ Fr No w w' := by
  obtain ⟨c0, c1, c2⟩ := h.cells
  have HL := Lib.hid (Len_any b bm _ s w h)
  by_cases hl : s.l = []
  · have HV := Lib.hid (show nextV s = 0 ∧ nextB s = false from ⟨by unfold nextV; rw [if_pos hl], by unfold nextB; rw [hl]; rfl⟩)
    rw [HV.out.1, HV.out.2]
    have hz : s.l.length = 0 := by rw [hl]; rfl
    rw [hz] at HL
    clear h hz hl
    go_enter Try.func27, Try.ntmps27
    go_wp2_with fail
    refine HL.out.mono ?_
    rintro x w1 ⟨rfl, rfl⟩
    go_wp2
    go_ret2
    exact ⟨rfl, Fr.refl _ _⟩
  · have hpos : 0 < s.l.length := by
      rcases Nat.eq_zero_or_pos s.l.length with h0 | h0
      · exact absurd (List.eq_nil_of_length_eq_zero h0) hl
      · exact h0
    have HV := Lib.hid (show nextV s = (s.l.getD 0 LE.zero).at_ ∧ nextB s = true from ⟨by unfold nextV; rw [if_neg hl], by unfold nextB; cases hq : s.l with | nil => exact absurd hq hl | cons a l => rfl⟩)
    rw [HV.out.1, HV.out.2]
    obtain ⟨A, c, rfl, _⟩ := h.form
    obtain ⟨hnq, g, rfl, hg, hc⟩ := h.at_ hpos
    have hfit : fits (s.l.getD 0 LE.zero).id := h.ok.fit _ (getD_mem hpos)
    have hlk := fun (X : World) (hX : Fr No w X) => (h.fr hX (fun _ _ x => x)).mp.look Try.underlying3 Try.underlying48 (zeroM X) hfit
    rw [mkOf_get h.ok hpos] at hlk
    have hlk0 := hlk w (Fr.refl _ _)
    have hlk1 := hlk w.drew (Fr.refl _ _).drew
    simp only [Option.getD_some] at hlk0 hlk1
    have hnb : ((s.l.length : Int) == 0) = false := by simp; omega
    obtain ⟨n, hn⟩ : ∃ n, n = s.l.length := ⟨_, rfl⟩
    rw [← hn] at HL hnb c1 hpos
    generalize s.l.getD 0 LE.zero = e at *
    obtain ⟨x, d, q⟩ := e
    have HP := Lib.hid hpos
    have hn1 : (0 : Int) < (n : Int) := by omega
    have hfd := fun W => field0 W d q
    clear h hlk hnq hn hl
    unfold LE.mk_ val2 at hlk0 hlk1
    dsimp only at *
    go_enter Try.func27, Try.ntmps27
    go_wp2_with fail
    refine HL.out.mono ?_
    rintro x w1 ⟨rfl, rfl⟩
    go_wp2
    go_region
    all_goals
      go_wp2
      go_ret2
      exact ⟨rfl, (Fr.refl No _).drew⟩
end Go.Proofs.Ytgkpmckbdagkcaa
