/- The walks of AgingKeys and AgingPairs. -/
import Derived.Test.YtabajcofddhelaaWk
namespace Go.Proofs.Ytabajcofddhelaa
open Go.RowKit Go.Wk

theorem blk4 {X : World} {b : Nat} {p q r s : Int} (h : Blk X b 23 #[.int .i64 p, .int .i64 q, .int .i64 r, .int .i64 s]) : X.cell? ⟨b, 0, none⟩ = some (.int .i64 p) ∧ X.cell? ⟨b, 1, none⟩ = some (.int .i64 q) ∧ X.cell? ⟨b, 2, none⟩ = some (.int .i64 r) ∧ X.cell? ⟨b, 3, none⟩ = some (.int .i64 s) :=
  ⟨h.cell 0, h.cell 1, h.cell 2, h.cell 3⟩

set_option maxRecDepth 100000 in
set_option maxHeartbeats 8000000 in
theorem agingKeys_walk (id p s sq y n : Int) (w : World) : Calls Try.prog 3 #[.agg #[.int .i64 id, .int .i64 p, .int .i64 s, .int .i64 sq], .int .i64 y, .int .i64 n] w fun e w' => e = .returned (.bool true) ∧ Fr No w w' := by
  have K1 := Lib.hid (fun X => Key_any p s y X)
  have K2 := Lib.hid (fun X => rKey_any p s y X)
  have L1 := Lib.hid (fun X => Level_any p s y n X)
  have L2 := Lib.hid (fun X => rLevel_any p s y n X)
  have C1 := Lib.hid (fun X => Check_any ⟨id, p, s, sq⟩ y X)
  have C2 := Lib.hid (fun X => rCheck_any ⟨id, p, s, sq⟩ y X)
  generalize keyK y ⟨0, p, s, 0⟩ = a at *
  generalize chkE y [⟨0, p, s, 0⟩] = b at *
  generalize levV y n ⟨0, p, s, 0⟩ = c at *
  generalize levE y n ⟨0, p, s, 0⟩ = d at *
  generalize chkE y [⟨id, p, s, sq⟩] = e at *
  dsimp only at C1 C2
  obtain ⟨w0, hw0⟩ : ∃ w0, w0 = w.alloc (.cells #[.int .i64 id, .int .i64 p, .int .i64 s, .int .i64 sq] 23) := ⟨_, rfl⟩
  have B := Lib.hid (show Blk w0 w.heap.size 23 #[.int .i64 id, .int .i64 p, .int .i64 s, .int .i64 sq] by rw [hw0]; exact Blk.new _ _ _)
  have F0 := Lib.hid (show Fr No w w0 by rw [hw0]; exact (Fr.refl No w).alloc _)
  have HW := Lib.hid hw0
  clear hw0
  obtain ⟨c0, c1, c2, c3⟩ := blk4 B.out
  go_enter Try.func3, Try.ntmps3
  go_wp2_with fail
  rw [← HW.out]
  refine (K1.out _).mono ?_
  rintro x w1 ⟨rfl, hf⟩
  have F1 := Lib.hid ((Fr.refl No w0).then0 hf)
  clear hf c0 c1 c2 c3
  obtain ⟨c0, c1, c2, c3⟩ := blk4 (B.out.fr F1.out (fun x => x))
  go_wp2_with fail
  refine (K2.out _).mono ?_
  rintro x w2 ⟨rfl, hf⟩
  have F2 := Lib.hid (F1.out.then0 hf)
  clear hf c0 c1 c2 c3
  obtain ⟨c0, c1, c2, c3⟩ := blk4 (B.out.fr F2.out (fun x => x))
  go_wp2_with fail
  refine (L1.out _).mono ?_
  rintro x w3 ⟨rfl, hf⟩
  have F3 := Lib.hid (F2.out.then0 hf)
  clear hf c0 c1 c2 c3
  obtain ⟨c0, c1, c2, c3⟩ := blk4 (B.out.fr F3.out (fun x => x))
  go_wp2_with fail
  refine (L2.out _).mono ?_
  rintro x w4 ⟨rfl, hf⟩
  have F4 := Lib.hid (F3.out.then0 hf)
  clear hf c0 c1 c2 c3
  obtain ⟨c0, c1, c2, c3⟩ := blk4 (B.out.fr F4.out (fun x => x))
  have FD := Lib.hid F4.out.drew
  have SK := Lib.hid (fun (X : World) (hX : Fr No w0 X) => blk4 (B.out.fr hX (fun x => x)))
  go_wp2
  go_region_held3 (fun w' => w'.cell? ⟨w.heap.size, 0, none⟩ = some (.int .i64 id) ∧ w'.cell? ⟨w.heap.size, 1, none⟩ = some (.int .i64 p) ∧ w'.cell? ⟨w.heap.size, 2, none⟩ = some (.int .i64 s) ∧ w'.cell? ⟨w.heap.size, 3, none⟩ = some (.int .i64 sq))
    (first | exact SK.out _ FC.out | exact SK.out _ FB.out | exact SK.out _ FA.out | exact SK.out _ FD.out | go_keep)
    (first
      | (go_at_call 16; ((with_reducible refine (C1.out _).mono ?_); rintro x wA ⟨rfl, hf⟩); first | (have FB := Lib.hid (FA.out.then0 hf); clear hf) | (have FA := Lib.hid (FD.out.then0 hf); clear hf))
      | (go_at_call 17; ((with_reducible refine (C2.out _).mono ?_); rintro x wA ⟨rfl, hf⟩); first | (have FB := Lib.hid (FA.out.then0 hf); clear hf) | (have FA := Lib.hid (FD.out.then0 hf); clear hf))
      | (go_at_call 18; ((with_reducible refine (works_any _).mono ?_); rintro x wA ⟨rfl, hf⟩); have FC := Lib.hid (FB.out.then0 hf); clear hf))
  all_goals
    go_wp2
    go_ret
    exact ⟨rfl, F0.out.then0 FC.out⟩

set_option maxRecDepth 100000 in
set_option maxHeartbeats 8000000 in
theorem agingPairs_walk (id p s sq id' p' s' sq' y : Int) (w : World) : Calls Try.prog 4 #[.agg #[.int .i64 id, .int .i64 p, .int .i64 s, .int .i64 sq], .agg #[.int .i64 id', .int .i64 p', .int .i64 s', .int .i64 sq'], .int .i64 y] w fun e w' => e = .returned (.bool true) ∧ Fr No w w' := by
  have K1 := Lib.hid (fun X => Before_any ⟨id, p, s, sq⟩ ⟨id', p', s', sq'⟩ y X)
  have K2 := Lib.hid (fun X => rBefore_any ⟨id, p, s, sq⟩ ⟨id', p', s', sq'⟩ y X)
  have L1 := Lib.hid (fun X => Overtake_any p p' y X)
  have L2 := Lib.hid (fun X => rOvertake_any p p' y X)
  generalize befB y ⟨id, p, s, sq⟩ ⟨id', p', s', sq'⟩ = a at *
  generalize chkE y [⟨id, p, s, sq⟩, ⟨id', p', s', sq'⟩] = b at *
  generalize ovV y p p' = c at *
  generalize ovE y p p' = d at *
  dsimp only at K1 K2
  obtain ⟨w0, hw0⟩ : ∃ w0, w0 = (w.alloc (.cells #[.int .i64 id, .int .i64 p, .int .i64 s, .int .i64 sq] 23)).alloc (.cells #[.int .i64 id', .int .i64 p', .int .i64 s', .int .i64 sq'] 23) := ⟨_, rfl⟩
  have B := Lib.hid (show Blk w0 w.heap.size 23 #[.int .i64 id, .int .i64 p, .int .i64 s, .int .i64 sq] by rw [hw0]; exact (Blk.new _ _ _).alloc _)
  have B' := Lib.hid (show Blk w0 (w.heap.size + 1) 23 #[.int .i64 id', .int .i64 p', .int .i64 s', .int .i64 sq'] by
    rw [hw0]
    have := Blk.new (w.alloc (.cells #[.int .i64 id, .int .i64 p, .int .i64 s, .int .i64 sq] 23)) 23 #[.int .i64 id', .int .i64 p', .int .i64 s', .int .i64 sq']
    rwa [World.size_alloc] at this)
  have F0 := Lib.hid (show Fr No w w0 by rw [hw0]; exact ((Fr.refl No w).alloc _).alloc _)
  have HW := Lib.hid hw0
  clear hw0
  obtain ⟨c0, c1, c2, c3⟩ := blk4 B.out
  obtain ⟨d0, d1, d2, d3⟩ := blk4 B'.out
  go_enter Try.func4, Try.ntmps4
  go_wp2_with fail
  rw [← HW.out]
  refine (K1.out _).mono ?_
  rintro x w1 ⟨rfl, hf⟩
  have F1 := Lib.hid ((Fr.refl No w0).then0 hf)
  clear hf c0 c1 c2 c3 d0 d1 d2 d3
  obtain ⟨c0, c1, c2, c3⟩ := blk4 (B.out.fr F1.out (fun x => x))
  obtain ⟨d0, d1, d2, d3⟩ := blk4 (B'.out.fr F1.out (fun x => x))
  go_wp2_with fail
  refine (K2.out _).mono ?_
  rintro x w2 ⟨rfl, hf⟩
  have F2 := Lib.hid (F1.out.then0 hf)
  clear hf c0 c1 c2 c3 d0 d1 d2 d3
  obtain ⟨c0, c1, c2, c3⟩ := blk4 (B.out.fr F2.out (fun x => x))
  obtain ⟨d0, d1, d2, d3⟩ := blk4 (B'.out.fr F2.out (fun x => x))
  go_wp2_with fail
  refine (L1.out _).mono ?_
  rintro x w3 ⟨rfl, hf⟩
  have F3 := Lib.hid (F2.out.then0 hf)
  clear hf c0 c1 c2 c3 d0 d1 d2 d3
  obtain ⟨c0, c1, c2, c3⟩ := blk4 (B.out.fr F3.out (fun x => x))
  obtain ⟨d0, d1, d2, d3⟩ := blk4 (B'.out.fr F3.out (fun x => x))
  go_wp2_with fail
  refine (L2.out _).mono ?_
  rintro x w4 ⟨rfl, hf⟩
  have F4 := Lib.hid (F3.out.then0 hf)
  clear hf c0 c1 c2 c3 d0 d1 d2 d3
  go_wp2_with fail
  refine (works_any _).mono ?_
  rintro x w5 ⟨rfl, hf⟩
  go_wp2
  go_ret
  exact ⟨rfl, F0.out.then0 (F4.out.then0 hf)⟩
end Go.Proofs.Ytabajcofddhelaa
