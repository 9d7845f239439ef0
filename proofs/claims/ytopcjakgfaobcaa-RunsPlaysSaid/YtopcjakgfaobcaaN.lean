/- Clone, Copy; filled. -/
import Derived.Test.YtopcjakgfaobcaaM
import Derived.Test.YtopcjakgfaobcaaK
import Derived.Lib.SliceRun
import Derived.Deep.RegionHeld3
namespace Go.Proofs.Ytopcjakgfaobcaa
open Go.RowKit Go.Wk

/-- What Clone leaves: a slice of the call's own with the same runs. -/
def Cloned (w : World) (n : Nat) (xs : List RV) (x : Ending) (w' : World) : Prop := ∃ A c, x = .returned (.slice A n c) ∧ w'.ownsRow w.heap.size 31 5 (.slice A n c) n (rcells xs) ∧ Fr No w w'

theorem clone_any (A : Option Addr) (n c : Nat) (xs : List RV) (w : World) (h : Reads w w.heap.size 5 A n (rcells xs)) (hn : n ≤ 1000000) :
    Calls Try.prog 40 #[.slice A n c] w fun x w' => Cloned w n xs x w' := by
  obtain ⟨i0, hi, hz0, hz1, hz2⟩ : ∃ i, Try.prog.info? 31 = some i ∧ i.zero = some (.agg #[.int .i64 0, .int .i64 0, .int .i64 0, .int .i64 0, .int .i64 0]) ∧ i.size = 5 ∧ i.bytes = 40 := ⟨_, rfl, rfl, rfl, rfl⟩
  rcases A with _ | ad
  · have heq := fun w => Lib.run_eql_slice_nil (P := Try.prog) w 37 31 none n c 0 0 Try.underlying37
    have hn0 : n = 0 := by
      rcases Nat.eq_zero_or_pos n with h0 | h0
      · exact h0
      · obtain ⟨ad, hA, _⟩ := h.2 h0
        cases hA
    subst hn0
    have hx : rcells xs = [] := List.eq_nil_of_length_eq_zero (by simpa using h.1)
    go_enter Try.func40, Try.ntmps40
    go_wp2
    go_ret
    exact ⟨none, 0, rfl, by rw [hx]; exact own_nil _ _ _ _, Fr.refl _ _⟩
  · have o1 : (w.alloc (.cells #[] 31)).ownsRow w.heap.size 31 5 (.slice (some ⟨w.heap.size, 0, none⟩) 0 0) 0 [] := ⟨rfl, .inr ⟨w.heap.size, 0, #[], rfl, Nat.le_refl _, Blk.new w 31 #[], Nat.le_refl _, Nat.zero_le _, rfl, rfl⟩⟩
    have O1 := Lib.hid o1
    have R1 := Lib.hid (h.alloc (Nat.le_refl _) (.cells #[] 31))
    have HB1 := Lib.hid (show (0 + n) * 40 ≤ 140737488355328 by omega)
    have HB0 := Lib.hid (show 0 + n ≤ maxLen by unfold maxLen; omega)
    have heq := fun w => Lib.run_eql_slice_nil (P := Try.prog) w 37 31 (some ad) n c 0 0 Try.underlying37
    clear h o1
    go_enter Try.func40, Try.ntmps40
    go_wp2_with (at_builtin; refine wpList_append_any (w.alloc (.cells #[] 31)) rfl (.tmp 5) (.tmp 6) 37 rfl w.heap.size 31 i0 (.agg #[.int .i64 0, .int .i64 0, .int .i64 0, .int .i64 0, .int .i64 0]) 5 40 Try.underlying37 hi hz0 hz1 hz2 rfl (by omega) (.slice (some ⟨w.heap.size, 0, none⟩) 0 0) 0 [] rfl O1.out w.heap.size (some ad) n c (rcells xs) rfl R1.out (rcells_one _) HB0.out HB1.out (by simp) ?_)
    intro v' w2 hown2 hg2 hloc2
    obtain ⟨A2, q2, rfl⟩ := own_form' hown2
    have F2 : Fr No w w2 := ((Fr.refl No w).alloc (.cells #[] 31)).own (Fr.of_grown (S := (· = w.heap.size)) hg2 (fun k hk => by simpa [Value.ownBlock] using hk.symm)) (Nat.le_refl _)
    go_wp2
    go_ret
    exact ⟨A2, q2, rfl, by simpa using hown2, F2⟩

/-- What Copy leaves: a table of the call's own in the same state. -/
def Copied (w : World) (s : TS) (x : Ending) (w' : World) : Prop := ∃ b D, x = .returned (.pointer (some ⟨b, 0, none⟩)) ∧ TabAt w' b D s ∧ Fr No w w' ∧ (∀ k, D k → w.heap.size ≤ k)

theorem copy_any (b : Nat) (D : Nat → Prop) (s : TS) (w : World) (h : TabAt w b D s) : Calls Try.prog 24 #[.pointer (some ⟨b, 0, none⟩)] w fun x w' => Copied w s x w' := by
  have HV := Lib.hid (valid_any b D s w h)
  obtain ⟨v, h, _⟩ := h
  obtain ⟨A, c, rfl, hnc, hcm, hrd⟩ := h.form
  have hlen := h.ok.len
  have hs1 := h.ok.s1
  have HC := Lib.hid (clone_any A s.live.length c s.live w.drew hrd (by omega))
  have c0 := h.blk.cell 0
  have c1 := h.blk.cell 1
  have c2 := h.blk.cell 2
  simp only [List.getElem?_toArray, List.getElem?_cons_succ, List.getElem?_cons_zero] at c0 c1 c2
  have hbl := h.blk.lt
  have HOK := Lib.hid h.ok
  clear h hrd hlen hs1
  obtain ⟨n, hn⟩ : ∃ n, n = s.live.length := ⟨_, rfl⟩
  rw [← hn] at HC c1
  have HN := Lib.hid hn
  clear hn hnc hcm
  have KD : w.drew.cell? ⟨b, 0, none⟩ = some (.int .i64 s.size) ∧ w.drew.cell? ⟨b, 1, none⟩ = some (.slice A n c) ∧ w.drew.cell? ⟨b, 2, none⟩ = some (.int .i64 s.last) := ⟨c0, c1, c2⟩
  go_enter Try.func24, Try.ntmps24
  go_wp2_with (go_at_call 35; refine HV.out.mono ?_; rintro e w1 ⟨rfl, rfl⟩)
  go_region_held3 (fun w' => w'.cell? ⟨b, 0, none⟩ = some (.int .i64 s.size) ∧ w'.cell? ⟨b, 1, none⟩ = some (.slice A n c) ∧ w'.cell? ⟨b, 2, none⟩ = some (.int .i64 s.last)) (first | go_keep | exact k1 | exact KD)
    (first
      | (go_at_call 40; refine HC.out.mono ?_; rintro x w1 ⟨A2, q2, rfl, hown, hf⟩; have k1 : w1.cell? ⟨b, 0, none⟩ = some (.int .i64 s.size) ∧ w1.cell? ⟨b, 1, none⟩ = some (.slice A n c) ∧ w1.cell? ⟨b, 2, none⟩ = some (.int .i64 s.last) := ⟨(hf.cell (p := ⟨b, 0, none⟩) hbl (fun x => x)).trans c0, (hf.cell (p := ⟨b, 1, none⟩) hbl (fun x => x)).trans c1, (hf.cell (p := ⟨b, 2, none⟩) hbl (fun x => x)).trans c2⟩))
  go_wp2
  go_ret
  refine ⟨_, dom w1.heap.size (.slice A2 n q2), rfl, ⟨_, ⟨Blk.new _ _ _, ?_, HOK.out⟩, rfl⟩, ((Fr.refl No w).drew.then0 hf).alloc _, ?_⟩
  · rw [← HN.out]
    exact own_fr (own_base hown (Nat.zero_le _)) ((Fr.refl No w1).alloc _) (fun _ _ x => x)
  · rintro k (rfl | hk)
    · exact hf.size
    · exact (hown.lt k hk).1
end Go.Proofs.Ytopcjakgfaobcaa
