/- RunsNil: the walk. -/
import Derived.Test.YtopcjakgfaobcaaBad
import Derived.Test.YtopcjakgfaobcaaRfs
namespace Go.Proofs.Ytopcjakgfaobcaa
open Go.RowKit Go.Wk

structure NilI (w wr : World) (X Y L : Nat) (d j u a t r : Int) : Prop where
  x : Blk wr X 42 #[.int .i64 d, .int .i64 j, .int .i64 u, .int .i64 a, .int .i64 t, .int .i64 r]
  y : Blk wr Y 61 #[.int .i64 0, .slice none 0 0, .int .i64 0, .bool false]
  l : Blk wr L 22 #[.pointer none, .pointer (some ⟨Y, 0, none⟩)]
  fr : Fr No w wr
theorem NilI.fr0 {w w1 w2 : World} {X Y L : Nat} {d j u a t r : Int} (h : NilI w w1 X Y L d j u a t r) (hf : Fr No w1 w2) : NilI w w2 X Y L d j u a t r :=
  ⟨h.x.fr0' hf, h.y.fr0' hf, h.l.fr0' hf, h.fr.then0 hf⟩
theorem NilI.bad {w wr : World} {X Y L : Nat} {d j u a t r : Int} (h : NilI w wr X Y L d j u a t r) {k : Nat} (hk : k < 2) : ∃ p, BadT wr p ∧ wr.cell? ⟨L, k, none⟩ = some (.pointer p) ∧ (p = none ∨ p = some ⟨Y, 0, none⟩) := by
  rcases (show k = 0 ∨ k = 1 by omega) with rfl | rfl
  · exact ⟨none, .inl rfl, h.l.cell 0, .inl rfl⟩
  · exact ⟨some ⟨Y, 0, none⟩, .inr ⟨Y, rfl, h.y⟩, h.l.cell 1, .inr rfl⟩
theorem NilI.still {w wr : World} {X Y L : Nat} {d j u a t r : Int} (h : NilI w wr X Y L d j u a t r) {p : Option Addr} (hp : p = none ∨ p = some ⟨Y, 0, none⟩) : BadT wr p := by
  rcases hp with rfl | rfl
  · exact .inl rfl
  · exact .inr ⟨Y, rfl, h.y⟩

set_option maxRecDepth 100000 in
set_option maxHeartbeats 4000000 in
theorem runsNil_walk (d j u a t r : Int) (w : World) :
    Calls Try.prog 10 #[.agg #[.int .i64 d, .int .i64 j, .int .i64 u, .int .i64 a, .int .i64 t, .int .i64 r]] w fun e w' => e = .returned (.bool true) ∧ Fr No w w' := by
  have NI : NilI w (((w.alloc (.cells #[.int .i64 d, .int .i64 j, .int .i64 u, .int .i64 a, .int .i64 t, .int .i64 r] 42)).alloc (.cells #[.int .i64 0, .slice none 0 0, .int .i64 0, .bool false] 61)).alloc (.cells #[.pointer none, .pointer (some ⟨w.heap.size + 1, 0, none⟩)] 22)) w.heap.size (w.heap.size + 1) (w.heap.size + 1 + 1) d j u a t r := by
    refine ⟨((Blk.new w 42 _).alloc _).alloc _, ?_, ?_, (((Fr.refl No w).alloc _).alloc _).alloc _⟩
    · have := Blk.new (w.alloc (.cells #[.int .i64 d, .int .i64 j, .int .i64 u, .int .i64 a, .int .i64 t, .int .i64 r] 42)) 61 #[.int .i64 0, .slice none 0 0, .int .i64 0, .bool false]
      rw [World.size_alloc] at this
      exact this.alloc _
    · have := Blk.new ((w.alloc (.cells #[.int .i64 d, .int .i64 j, .int .i64 u, .int .i64 a, .int .i64 t, .int .i64 r] 42)).alloc (.cells #[.int .i64 0, .slice none 0 0, .int .i64 0, .bool false] 61)) 22 #[.pointer none, .pointer (some ⟨w.heap.size + 1, 0, none⟩)]
      rw [World.size_alloc, World.size_alloc] at this
      exact this
  go_enter Try.func10, Try.ntmps10
  go_wp2_with fail
  generalize ((w.alloc (.cells #[.int .i64 d, .int .i64 j, .int .i64 u, .int .i64 a, .int .i64 t, .int .i64 r] 42)).alloc (.cells #[.int .i64 0, .slice none 0 0, .int .i64 0, .bool false] 61)).alloc (.cells #[.pointer none, .pointer (some ⟨w.heap.size + 1, 0, none⟩)] 22) = w0 at *
  go_loopw [5] (fun i wr => ∃ k : Nat, i = .int .i64 k ∧ k ≤ 2 ∧ NilI w wr w.heap.size (w.heap.size + 1) (w.heap.size + 1 + 1) d j u a t r) (fun i _ => 2 - (intOf i).toNat)
  case atStart => exact ⟨0, rfl, by omega, NI⟩
  case round =>
    clear NI
    obtain ⟨k, rfl, hk, NI0⟩ := hrel
    have NI := Lib.hid NI0
    by_cases hlt : k < 2
    · obtain ⟨p, hbad, hcell, hpp⟩ := NI0.bad hlt
      have HB := Lib.hid hbad
      have HPP := Lib.hid hpp
      obtain ⟨x0, x1, x2, x3, x4, x5⟩ := cells6 NI0.x
      clear NI0 hbad hpp
      generalize w.heap.size + 1 + 1 = L at *
      generalize w.heap.size + 1 = Y at *
      generalize w.heap.size = X at *
      go_wp2_with fail
      refine (start_bad p _ j u a t HB.out).mono ?_
      rintro e _ ⟨rfl, rfl⟩
      go_wp2_with fail
      refine (finish_bad p _ r HB.out).mono ?_
      rintro e w1 ⟨rfl, hf⟩
      rw [zero_agg]
      have F1 := hf.alloc (.cells #[.int .i64 0, .int .i64 0, .int .i64 0, .int .i64 0, .int .i64 0] 31)
      have HX := Lib.hid (Blk.new w1 31 #[.int .i64 0, .int .i64 0, .int .i64 0, .int .i64 0, .int .i64 0])
      replace NI := Lib.hid (NI.out.fr0 F1)
      replace HB := Lib.hid (HB.out.fr F1)
      clear F1 hf x0 x1 x2 x3 x4 x5 hcell
      obtain ⟨x0, x1, x2, x3, x4, x5⟩ := cells6 NI.out.x
      go_wp2_with fail
      refine (get_bad p _ r HB.out).mono ?_
      rintro e w2 ⟨rfl, hf⟩
      rw [zero_agg]
      have F1 := hf.alloc (.cells #[.int .i64 0, .int .i64 0, .int .i64 0, .int .i64 0, .int .i64 0] 31)
      obtain ⟨y0, y1, y2, y3, y4⟩ := cells5 (Blk.new w2 31 #[.int .i64 0, .int .i64 0, .int .i64 0, .int .i64 0, .int .i64 0])
      replace NI := Lib.hid (NI.out.fr0 F1)
      replace HB := Lib.hid (HB.out.fr F1)
      replace HX := Lib.hid (HX.out.fr0' F1)
      clear F1 hf x0 x1 x2 x3 x4 x5
      obtain ⟨x0, x1, x2, x3, x4, x5⟩ := cells6 NI.out.x
      obtain ⟨z0, z1, z2, z3, z4⟩ := cells5 HX.out
      go_wp2_with fail
      refine (oldest_bad p _ t HB.out).mono ?_
      rintro e _ ⟨rfl, rfl⟩
      go_wp2_with fail
      refine (live_bad p _ HB.out).mono ?_
      rintro e w3 ⟨⟨A, c, rfl⟩, hf⟩
      replace NI := Lib.hid (NI.out.fr0 hf)
      replace HB := Lib.hid (HB.out.fr hf)
      clear hf x0 x1 x2 x3 x4 x5 y0 y1 y2 y3 y4 z0 z1 z2 z3 z4 HX
      obtain ⟨x0, x1, x2, x3, x4, x5⟩ := cells6 NI.out.x
      go_wp2_with fail
      refine (count_bad p j _ HB.out).mono ?_
      rintro e w4 ⟨rfl, hf⟩
      replace NI := Lib.hid (NI.out.fr0 hf)
      replace HB := Lib.hid (HB.out.fr hf)
      clear hf x0 x1 x2 x3 x4 x5
      go_wp2_with fail
      refine (len_bad p _ HB.out).mono ?_
      rintro e _ ⟨rfl, rfl⟩
      go_wp2_with fail
      refine (last_bad p _ HB.out).mono ?_
      rintro e _ ⟨rfl, rfl⟩
      go_wp2_with fail
      refine (copy_bad p _ HB.out).mono ?_
      rintro e _ ⟨rfl, rfl⟩
      go_wp2
      go_roundw
      case rel => exact ⟨k + 1, by go_num, by omega, NI.out⟩
      case measure => simp [intOf]; omega
    · clear NI0
      go_wp2_with fail
      refine (works_any _).mono ?_
      rintro e w1 ⟨rfl, hf⟩
      go_wp2
      go_ret
      exact ⟨rfl, NI.out.fr.then0 hf⟩
end Go.Proofs.Ytopcjakgfaobcaa
