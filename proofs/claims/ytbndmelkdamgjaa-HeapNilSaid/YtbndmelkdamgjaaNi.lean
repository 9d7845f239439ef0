/- HeapNil: heaps that are none, and the walk. -/
import Derived.Test.YtbndmelkdamgjaaW
namespace Go.Proofs.Ytbndmelkdamgjaa
open Go.RowKit Go.Wk

/-- A pointer to no heap. -/
def BadH (X : World) (p : Value) : Prop := p = .pointer none ∨ ∃ b, p = .pointer (some ⟨b, 0, none⟩) ∧ X.cell? ⟨b, 0, none⟩ = some .nilFunc
theorem BadH.fr0 {w w' : World} {p : Value} (h : BadH w p) (hf : Fr No w w') : BadH w' p := by
  rcases h with h | ⟨b, h, hc⟩
  · exact .inl h
  · exact .inr ⟨b, h, (hf.cell (p := ⟨b, 0, none⟩) (World.block_lt_of_cell? _ _ hc) (fun z => z)).trans hc⟩
section
variable {w : World} {p : Value}
theorem made_bad (h : BadH w p) : Calls Try.prog 63 #[p] w fun e w' => e = .returned (.bool false) ∧ w = w' := by
  have heq := fun (w : World) => run_neq_nilfunc_nil (P := Try.prog) w 28 Try.underlying28
  rcases h with rfl | ⟨b, rfl, hc⟩
  · go_enter Try.func63, Try.ntmps63
    go_wp2
    go_ret
    exact ⟨rfl, rfl⟩
  · go_enter Try.func63, Try.ntmps63
    go_wp2
    go_ret
    exact ⟨rfl, rfl⟩
theorem Len_bad (h : BadH w p) : Calls Try.prog 18 #[p] w fun e w' => e = .returned (.int .i64 0) ∧ w = w' := by
  have HV := Lib.hid (made_bad h)
  clear h
  go_enter Try.func18, Try.ntmps18
  go_wp2_with fail
  refine HV.out.mono ?_
  rintro x w1 ⟨rfl, rfl⟩
  go_wp2
  go_ret
  exact ⟨rfl, rfl⟩
theorem Has_bad (h : BadH w p) (x : Int) : Calls Try.prog 20 #[p, .int .i64 x] w fun e w' => e = .returned (.bool false) ∧ w = w' := by
  have HV := Lib.hid (made_bad h)
  clear h
  go_enter Try.func20, Try.ntmps20
  go_wp2_with fail
  refine HV.out.mono ?_
  rintro x w1 ⟨rfl, rfl⟩
  go_wp2
  go_ret
  exact ⟨rfl, rfl⟩
theorem Top_bad (h : BadH w p) : Calls Try.prog 16 #[p] w fun e w' => e = .returned (.tuple #[.int .i64 0, .bool false]) ∧ w = w' := by
  have HV := Lib.hid (Len_bad h)
  clear h
  go_enter Try.func16, Try.ntmps16
  go_wp2_with fail
  refine HV.out.mono ?_
  rintro x w1 ⟨rfl, rfl⟩
  go_wp2
  go_ret2
  exact ⟨rfl, rfl⟩
theorem Pop_bad (h : BadH w p) : Calls Try.prog 25 #[p] w fun e w' => e = .returned (.tuple #[.int .i64 0, .bool false]) ∧ w = w' := by
  have HV := Lib.hid (Top_bad h)
  clear h
  go_enter Try.func25, Try.ntmps25
  go_wp2_with fail
  refine HV.out.mono ?_
  rintro x w1 ⟨rfl, rfl⟩
  go_wp2
  go_ret2
  exact ⟨rfl, rfl⟩
theorem Remove_bad (h : BadH w p) (x : Int) : Calls Try.prog 27 #[p, .int .i64 x] w fun e w' => e = .returned (.int .i64 1) ∧ w = w' := by
  have HV := Lib.hid (made_bad h)
  clear h
  go_enter Try.func27, Try.ntmps27
  go_wp2_with fail
  refine HV.out.mono ?_
  rintro x w1 ⟨rfl, rfl⟩
  go_wp2
  go_ret
  exact ⟨rfl, rfl⟩
theorem Push_bad (h : BadH w p) (x a b c d : Int) : Calls Try.prog 26 #[p, .int .i64 x, .agg #[.int .i64 a, .int .i64 b, .int .i64 c, .int .i64 d]] w fun e w' => e = .returned (.int .i64 1) ∧ Fr No w w' := by
  obtain ⟨w0, hw0⟩ : ∃ w0, w0 = w.alloc (.cells #[.int .i64 a, .int .i64 b, .int .i64 c, .int .i64 d] 27) := ⟨_, rfl⟩
  have F0 := Lib.hid (show Fr No w w0 by rw [hw0]; exact (Fr.refl No w).alloc _)
  have HV := Lib.hid (made_bad (h.fr0 F0.out))
  have HW := Lib.hid hw0
  clear h hw0
  go_enter Try.func26, Try.ntmps26
  go_wp2_with fail
  rw [← HW.out]
  refine HV.out.mono ?_
  rintro x w1 ⟨rfl, rfl⟩
  go_wp2
  go_ret
  exact ⟨rfl, F0.out⟩
theorem Change_bad (h : BadH w p) (x a b c d : Int) : Calls Try.prog 28 #[p, .int .i64 x, .agg #[.int .i64 a, .int .i64 b, .int .i64 c, .int .i64 d]] w fun e w' => e = .returned (.int .i64 1) ∧ Fr No w w' := by
  obtain ⟨w0, hw0⟩ : ∃ w0, w0 = w.alloc (.cells #[.int .i64 a, .int .i64 b, .int .i64 c, .int .i64 d] 27) := ⟨_, rfl⟩
  have F0 := Lib.hid (show Fr No w w0 by rw [hw0]; exact (Fr.refl No w).alloc _)
  have HV := Lib.hid (Remove_bad (h.fr0 F0.out) x)
  have HW := Lib.hid hw0
  clear h hw0
  go_enter Try.func28, Try.ntmps28
  go_wp2_with fail
  rw [← HW.out]
  refine HV.out.mono ?_
  rintro x w1 ⟨rfl, rfl⟩
  go_wp2
  go_ret
  exact ⟨rfl, F0.out⟩
theorem Copy_bad (h : BadH w p) : Calls Try.prog 29 #[p] w fun e w' => e = .returned (.pointer none) ∧ w = w' := by
  have HV := Lib.hid (made_bad h)
  clear h
  go_enter Try.func29, Try.ntmps29
  go_wp2_with fail
  refine HV.out.mono ?_
  rintro x w1 ⟨rfl, rfl⟩
  go_wp2
  go_ret
  exact ⟨rfl, rfl⟩
theorem Ids_bad (h : BadH w p) : Calls Try.prog 23 #[p] w fun e w' => e = .returned (.slice none 0 0) ∧ w = w' := by
  have HV := Lib.hid (Copy_bad h)
  have HL := Lib.hid (Len_bad (w := w) (p := .pointer none) (.inl rfl))
  clear h
  go_enter Try.func23, Try.ntmps23
  go_wp2_with fail
  refine HV.out.mono ?_
  rintro x w1 ⟨rfl, rfl⟩
  go_wp2_with fail
  go_loopw [3] (fun ov wr => ov = .slice none 0 0 ∧ w = wr) (fun _ _ => 0)
  case atStart => exact ⟨rfl, rfl⟩
  case round =>
    obtain ⟨rfl, rfl⟩ := hrel
    go_wp2_with fail
    refine HL.out.mono ?_
    rintro x w1 ⟨rfl, rfl⟩
    go_wp2
    go_ret
    exact ⟨rfl, rfl⟩
theorem New_nil (w : World) : Calls Try.prog 12 #[.nilFunc] w fun e w' => e = .returned (.pointer none) ∧ w = w' := by
  have heq := fun (w : World) => run_eql_nilfunc_nil (P := Try.prog) w 28 Try.underlying28
  go_enter Try.func12, Try.ntmps12
  go_wp2
  go_ret
  exact ⟨rfl, rfl⟩
end
set_option maxRecDepth 100000 in
set_option maxHeartbeats 8000000 in
theorem heapNil_walk (x a b c d : Int) (w : World) : Calls Try.prog 4 #[.int .i64 x, .agg #[.int .i64 a, .int .i64 b, .int .i64 c, .int .i64 d]] w fun e w' => e = .returned (.bool true) ∧ Fr No w w' := by
  obtain ⟨w2, hw2⟩ : ∃ w2, w2 = (w.alloc (.cells #[.int .i64 a, .int .i64 b, .int .i64 c, .int .i64 d] 27)).alloc (.cells #[.nilFunc, .slice none 0 0, .map none, .int .i64 0] 45) := ⟨_, rfl⟩
  have F2 := Lib.hid (show Fr No w w2 by rw [hw2]; exact ((Fr.refl No w).alloc _).alloc _)
  have BV := Lib.hid (show Blk w2 w.heap.size 27 #[.int .i64 a, .int .i64 b, .int .i64 c, .int .i64 d] by rw [hw2]; exact (Blk.new _ _ _).alloc _)
  have BZ := Lib.hid (show Blk w2 (w.heap.size + 1) 45 #[.nilFunc, .slice none 0 0, .map none, .int .i64 0] by
    rw [hw2]
    have := Blk.new (w.alloc (.cells #[.int .i64 a, .int .i64 b, .int .i64 c, .int .i64 d] 27)) 45 #[.nilFunc, .slice none 0 0, .map none, .int .i64 0]
    rwa [World.size_alloc] at this)
  obtain ⟨V, hV⟩ : ∃ V, V = w.heap.size := ⟨_, rfl⟩
  obtain ⟨Z, hZ⟩ : ∃ Z, Z = w.heap.size + 1 := ⟨_, rfl⟩
  rw [← hV] at BV
  rw [← hZ] at BZ
  have HW2 := Lib.hid hw2
  have HV := Lib.hid hV
  have HZ := Lib.hid hZ
  obtain ⟨w3, hw3⟩ : ∃ w3, w3 = w2.alloc (.cells #[.pointer none, .pointer (some ⟨Z, 0, none⟩), .pointer none] 24) := ⟨_, rfl⟩
  have F3 := Lib.hid (show Fr No w2 w3 by rw [hw3]; exact (Fr.refl No w2).alloc _)
  have BG := Lib.hid (show Blk w3 w2.heap.size 24 #[.pointer none, .pointer (some ⟨Z, 0, none⟩), .pointer none] by rw [hw3]; exact Blk.new _ _ _)
  have HW3 := Lib.hid hw3
  generalize hG : w2.heap.size = G at *
  have HG := Lib.hid hG
  clear hw2 hV hZ hw3 hG
  go_enter Try.func4, Try.ntmps4
  go_wp2_with fail
  rw [← HW2.out]
  refine (New_nil _).mono ?_
  rintro e w1 ⟨rfl, rfl⟩
  go_wp2_with fail
  rw [HG.out, ← HZ.out, ← HV.out, ← HW3.out]
  clear HW2 HW3 HG HV HZ
  go_loopw [18] (fun iv wr => ∃ (k : Nat), iv = .int .i64 k ∧ k ≤ 3 ∧ Hid (Fr No w wr) ∧ Hid (Blk wr V 27 #[.int .i64 a, .int .i64 b, .int .i64 c, .int .i64 d]) ∧ Hid (Blk wr Z 45 #[.nilFunc, .slice none 0 0, .map none, .int .i64 0]) ∧ Hid (Blk wr G 24 #[.pointer none, .pointer (some ⟨Z, 0, none⟩), .pointer none])) (fun iv _ => 3 - (intOf iv).toNat)
  case atStart => exact ⟨0, rfl, by omega, Lib.hid (F2.out.then0 F3.out), Lib.hid (BV.out.fr F3.out (fun z => z)), Lib.hid (BZ.out.fr F3.out (fun z => z)), BG⟩
  case round =>
    clear F2 F3 BV BZ BG
    obtain ⟨k, rfl, hk, HF, BV, BZ, BG⟩ := hrel
    have HZ := Lib.hid (show BadH wr (.pointer (some ⟨Z, 0, none⟩)) from .inr ⟨Z, rfl, BZ.out.cell 0⟩)
    have HN := Lib.hid (show BadH wr (.pointer none) from .inl rfl)
    have ec : k = 0 ∨ k = 1 ∨ k = 2 ∨ k = 3 := by omega
    rcases ec with rfl | rfl | rfl | rfl
    · have q0 := BG.out.cell 0
      simp only [List.getElem?_toArray, List.getElem?_cons_zero] at q0
      obtain ⟨v0, v1, v2, v3⟩ := (show wr.cell? ⟨V, 0, none⟩ = some (.int .i64 a) ∧ wr.cell? ⟨V, 1, none⟩ = some (.int .i64 b) ∧ wr.cell? ⟨V, 2, none⟩ = some (.int .i64 c) ∧ wr.cell? ⟨V, 3, none⟩ = some (.int .i64 d) from ⟨BV.out.cell 0, BV.out.cell 1, BV.out.cell 2, BV.out.cell 3⟩)
      go_wp2_with fail
      refine (Top_bad HN.out).mono ?_
      rintro e w1 ⟨rfl, rfl⟩
      go_wp2_with fail
      refine (Pop_bad HN.out).mono ?_
      rintro e w1 ⟨rfl, rfl⟩
      go_wp2_with fail
      refine (Push_bad HN.out x a b c d).mono ?_
      rintro e wa ⟨rfl, hf⟩
      have HA := Lib.hid (HN.out.fr0 hf)
      have FA := Lib.hid hf
      have BA := Lib.hid (BV.out.fr hf (fun z => z))
      obtain ⟨u0, u1, u2, u3⟩ := (show wa.cell? ⟨V, 0, none⟩ = some (.int .i64 a) ∧ wa.cell? ⟨V, 1, none⟩ = some (.int .i64 b) ∧ wa.cell? ⟨V, 2, none⟩ = some (.int .i64 c) ∧ wa.cell? ⟨V, 3, none⟩ = some (.int .i64 d) from ⟨BA.out.cell 0, BA.out.cell 1, BA.out.cell 2, BA.out.cell 3⟩)
      clear hf v0 v1 v2 v3
      go_wp2_with fail
      refine (Remove_bad HA.out x).mono ?_
      rintro e w1 ⟨rfl, rfl⟩
      go_wp2_with fail
      refine (Change_bad HA.out x a b c d).mono ?_
      rintro e wb ⟨rfl, hf⟩
      have HB := Lib.hid (HA.out.fr0 hf)
      have FB := Lib.hid (FA.out.then0 hf)
      clear hf u0 u1 u2 u3
      go_wp2_with fail
      refine (Has_bad HB.out x).mono ?_
      rintro e w1 ⟨rfl, rfl⟩
      go_wp2_with fail
      refine (Len_bad HB.out).mono ?_
      rintro e w1 ⟨rfl, rfl⟩
      go_wp2_with fail
      refine (Ids_bad HB.out).mono ?_
      rintro e w1 ⟨rfl, rfl⟩
      go_wp2_with fail
      refine (Copy_bad HB.out).mono ?_
      rintro e w1 ⟨rfl, rfl⟩
      go_wp2
      go_roundw
      case rel => exact ⟨1, rfl, by decide, Lib.hid (HF.out.then0 FB.out), Lib.hid (BV.out.fr FB.out (fun z => z)), Lib.hid (BZ.out.fr FB.out (fun z => z)), Lib.hid (BG.out.fr FB.out (fun z => z))⟩
      case measure => decide
    · have q0 := BG.out.cell 1
      simp only [List.getElem?_toArray, List.getElem?_cons_zero, List.getElem?_cons_succ] at q0
      obtain ⟨v0, v1, v2, v3⟩ := (show wr.cell? ⟨V, 0, none⟩ = some (.int .i64 a) ∧ wr.cell? ⟨V, 1, none⟩ = some (.int .i64 b) ∧ wr.cell? ⟨V, 2, none⟩ = some (.int .i64 c) ∧ wr.cell? ⟨V, 3, none⟩ = some (.int .i64 d) from ⟨BV.out.cell 0, BV.out.cell 1, BV.out.cell 2, BV.out.cell 3⟩)
      go_wp2_with fail
      refine (Top_bad HZ.out).mono ?_
      rintro e w1 ⟨rfl, rfl⟩
      go_wp2_with fail
      refine (Pop_bad HZ.out).mono ?_
      rintro e w1 ⟨rfl, rfl⟩
      go_wp2_with fail
      refine (Push_bad HZ.out x a b c d).mono ?_
      rintro e wa ⟨rfl, hf⟩
      have HA := Lib.hid (HZ.out.fr0 hf)
      have FA := Lib.hid hf
      have BA := Lib.hid (BV.out.fr hf (fun z => z))
      obtain ⟨u0, u1, u2, u3⟩ := (show wa.cell? ⟨V, 0, none⟩ = some (.int .i64 a) ∧ wa.cell? ⟨V, 1, none⟩ = some (.int .i64 b) ∧ wa.cell? ⟨V, 2, none⟩ = some (.int .i64 c) ∧ wa.cell? ⟨V, 3, none⟩ = some (.int .i64 d) from ⟨BA.out.cell 0, BA.out.cell 1, BA.out.cell 2, BA.out.cell 3⟩)
      clear hf v0 v1 v2 v3
      go_wp2_with fail
      refine (Remove_bad HA.out x).mono ?_
      rintro e w1 ⟨rfl, rfl⟩
      go_wp2_with fail
      refine (Change_bad HA.out x a b c d).mono ?_
      rintro e wb ⟨rfl, hf⟩
      have HB := Lib.hid (HA.out.fr0 hf)
      have FB := Lib.hid (FA.out.then0 hf)
      clear hf u0 u1 u2 u3
      go_wp2_with fail
      refine (Has_bad HB.out x).mono ?_
      rintro e w1 ⟨rfl, rfl⟩
      go_wp2_with fail
      refine (Len_bad HB.out).mono ?_
      rintro e w1 ⟨rfl, rfl⟩
      go_wp2_with fail
      refine (Ids_bad HB.out).mono ?_
      rintro e w1 ⟨rfl, rfl⟩
      go_wp2_with fail
      refine (Copy_bad HB.out).mono ?_
      rintro e w1 ⟨rfl, rfl⟩
      go_wp2
      go_roundw
      case rel => exact ⟨2, rfl, by decide, Lib.hid (HF.out.then0 FB.out), Lib.hid (BV.out.fr FB.out (fun z => z)), Lib.hid (BZ.out.fr FB.out (fun z => z)), Lib.hid (BG.out.fr FB.out (fun z => z))⟩
      case measure => decide
    · have q0 := BG.out.cell 2
      simp only [List.getElem?_toArray, List.getElem?_cons_zero, List.getElem?_cons_succ] at q0
      obtain ⟨v0, v1, v2, v3⟩ := (show wr.cell? ⟨V, 0, none⟩ = some (.int .i64 a) ∧ wr.cell? ⟨V, 1, none⟩ = some (.int .i64 b) ∧ wr.cell? ⟨V, 2, none⟩ = some (.int .i64 c) ∧ wr.cell? ⟨V, 3, none⟩ = some (.int .i64 d) from ⟨BV.out.cell 0, BV.out.cell 1, BV.out.cell 2, BV.out.cell 3⟩)
      go_wp2_with fail
      refine (Top_bad HN.out).mono ?_
      rintro e w1 ⟨rfl, rfl⟩
      go_wp2_with fail
      refine (Pop_bad HN.out).mono ?_
      rintro e w1 ⟨rfl, rfl⟩
      go_wp2_with fail
      refine (Push_bad HN.out x a b c d).mono ?_
      rintro e wa ⟨rfl, hf⟩
      have HA := Lib.hid (HN.out.fr0 hf)
      have FA := Lib.hid hf
      have BA := Lib.hid (BV.out.fr hf (fun z => z))
      obtain ⟨u0, u1, u2, u3⟩ := (show wa.cell? ⟨V, 0, none⟩ = some (.int .i64 a) ∧ wa.cell? ⟨V, 1, none⟩ = some (.int .i64 b) ∧ wa.cell? ⟨V, 2, none⟩ = some (.int .i64 c) ∧ wa.cell? ⟨V, 3, none⟩ = some (.int .i64 d) from ⟨BA.out.cell 0, BA.out.cell 1, BA.out.cell 2, BA.out.cell 3⟩)
      clear hf v0 v1 v2 v3
      go_wp2_with fail
      refine (Remove_bad HA.out x).mono ?_
      rintro e w1 ⟨rfl, rfl⟩
      go_wp2_with fail
      refine (Change_bad HA.out x a b c d).mono ?_
      rintro e wb ⟨rfl, hf⟩
      have HB := Lib.hid (HA.out.fr0 hf)
      have FB := Lib.hid (FA.out.then0 hf)
      clear hf u0 u1 u2 u3
      go_wp2_with fail
      refine (Has_bad HB.out x).mono ?_
      rintro e w1 ⟨rfl, rfl⟩
      go_wp2_with fail
      refine (Len_bad HB.out).mono ?_
      rintro e w1 ⟨rfl, rfl⟩
      go_wp2_with fail
      refine (Ids_bad HB.out).mono ?_
      rintro e w1 ⟨rfl, rfl⟩
      go_wp2_with fail
      refine (Copy_bad HB.out).mono ?_
      rintro e w1 ⟨rfl, rfl⟩
      go_wp2
      go_roundw
      case rel => exact ⟨3, rfl, by decide, Lib.hid (HF.out.then0 FB.out), Lib.hid (BV.out.fr FB.out (fun z => z)), Lib.hid (BZ.out.fr FB.out (fun z => z)), Lib.hid (BG.out.fr FB.out (fun z => z))⟩
      case measure => decide
    · clear BV BZ BG HZ HN
      go_wp2_with fail
      refine (New_nil _).mono ?_
      rintro e w1 ⟨rfl, rfl⟩
      go_wp2_with fail
      refine (works_any _).mono ?_
      rintro e w1 ⟨rfl, hf⟩
      go_wp2
      go_ret
      exact ⟨rfl, HF.out.then0 hf⟩
end Go.Proofs.Ytbndmelkdamgjaa
