/- The walk of AgingKnown. -/
import Derived.Test.YtabajcofddhelaaKn
namespace Go.Proofs.Ytabajcofddhelaa
open Go.RowKit Go.Wk

set_option maxRecDepth 100000 in
set_option maxHeartbeats 16000000 in
theorem agingKnown_walk (w : World) : Calls Try.prog 11 #[] w fun e w' => e = .returned (.bool true) ∧ Fr No w w' := by
  have K1 := Lib.hid (fun X => Key_any 0 400 60 X)
  rw [show keyK 60 ⟨0, 0, 400, 0⟩ = 400 by decide] at K1
  rw [show chkE 60 [⟨0, 0, 400, 0⟩] = 0 by decide] at K1
  have L1 := Lib.hid (fun X => Level_any 10 1000 60 1059 X)
  rw [show levV 60 1059 ⟨0, 10, 1000, 0⟩ = 10 by decide] at L1
  rw [show levE 60 1059 ⟨0, 10, 1000, 0⟩ = 0 by decide] at L1
  have L2 := Lib.hid (fun X => Level_any 10 1000 60 999 X)
  rw [show levE 60 999 ⟨0, 10, 1000, 0⟩ = 8 by decide] at L2
  have O1 := Lib.hid (fun X => Overtake_any 3 3 60 X)
  rw [show ovV 60 3 3 = 0 by decide] at O1
  rw [show ovE 60 3 3 = 0 by decide] at O1
  have O2 := Lib.hid (fun X => Overtake_any 0 1 60 X)
  rw [show ovE 60 0 1 = 8 by decide] at O2
  have B1 := Lib.hid (fun X => Before_any ⟨1, 10, 1000, 5⟩ ⟨2, 0, 400, 4⟩ 60 X)
  rw [show befB 60 ⟨1, 10, 1000, 5⟩ ⟨2, 0, 400, 4⟩ = false by decide] at B1
  rw [show chkE 60 [⟨1, 10, 1000, 5⟩, ⟨2, 0, 400, 4⟩] = 0 by decide] at B1
  have K2 := Lib.hid (fun X => Key_any 100 0 68719476736 X)
  rw [show keyK 68719476736 ⟨0, 100, 0, 0⟩ = -6871947673600 by decide] at K2
  rw [show chkE 68719476736 [⟨0, 100, 0, 0⟩] = 0 by decide] at K2
  have K3 := Lib.hid (fun X => Key_any 101 (-1) 0 X)
  rw [show chkE 0 [⟨0, 101, -1, 0⟩] = 2 by decide] at K3
  have K4 := Lib.hid (fun X => Key_any 101 (-1) 1 X)
  rw [show chkE 1 [⟨0, 101, -1, 0⟩] = 2 by decide] at K4
  have K5 := Lib.hid (fun X => Key_any 100 (-1) 1 X)
  rw [show chkE 1 [⟨0, 100, -1, 0⟩] = 14 by decide] at K5
  have L3 := Lib.hid (fun X => Level_any 0 5 1 253402300800 X)
  rw [show levE 1 253402300800 ⟨0, 0, 5, 0⟩ = 14 by decide] at L3
  have L4 := Lib.hid (fun X => Level_any 0 5 1 (-1) X)
  rw [show levE 1 (-1) ⟨0, 0, 5, 0⟩ = 14 by decide] at L4
  dsimp only at B1
  have SV := Lib.hid (fun (X : World) => Span_any (some ⟨X.heap.size, 0, none⟩) 3 3 [⟨0, 0, 400, 0⟩, ⟨0, 0, 1000, 0⟩, ⟨0, 0, 700, 0⟩] 60 (X.alloc (.cells (icells [⟨0, 0, 400, 0⟩, ⟨0, 0, 1000, 0⟩, ⟨0, 0, 700, 0⟩]).toArray 23)) (reads_blk X 23 _ 3 4 rfl) (by omega))
  rw [show listE 60 [⟨0, 0, 400, 0⟩, ⟨0, 0, 1000, 0⟩, ⟨0, 0, 700, 0⟩] [] = 0 by decide] at SV
  simp only [icells, IV.cells, List.flatMap_cons, List.flatMap_nil, List.append_nil, List.cons_append, List.nil_append] at SV
  have SN := Lib.hid (fun (X : World) => Span_any none 0 0 [] 1 X Reads.none_ (by omega))
  rw [show listE 1 [] [] = 0 by decide] at SN
  obtain ⟨n, hn, hn1⟩ : ∃ n : Nat, n = 1024 ∧ n + 1 = 1025 := ⟨1024, rfl, rfl⟩
  obtain ⟨i0, hi, hz0, hz1, hz2⟩ : ∃ i, Try.prog.info? 23 = some i ∧ i.zero = some (.agg #[.int .i64 0, .int .i64 0, .int .i64 0, .int .i64 0]) ∧ i.size = 4 ∧ i.bytes = 32 := ⟨_, rfl, rfl, rfl, rfl⟩
  obtain ⟨M, HM, hmk⟩ : ∃ M : Obj, Hid (M = Obj.cells (icells (manyL n 0)).toArray 23) ∧ ∀ W, (Instr.makeSlice 40 (.int .i64 1025) (.int .i64 1025)).run Try.prog W = .ok (.slice (some ⟨W.heap.size, 0, none⟩) 1025 1025) (W.alloc M) := by
    refine ⟨Obj.cells (madeCells (Value.agg #[.int .i64 0, .int .i64 0, .int .i64 0, .int .i64 0]).cells (1025 * 4)) 23, Lib.hid ?_, fun W => ?_⟩
    · rw [← hn1, ← made_items n]
    · have := run_make (P := Try.prog) W 40 23 i0 (.agg #[.int .i64 0, .int .i64 0, .int .i64 0, .int .i64 0]) Try.underlying40 hi hz0 .i64 .i64 1025 1025 (by omega) (by omega) (by rw [hz2]; omega) (by omega)
      rw [hz1] at this
      exact this
  have HS := Lib.hid (known_sort n)
  have HMA := Lib.hid (known_many n (by omega))
  have HNI := Lib.hid (known_nine n (by omega))
  have HRE := Lib.hid (known_rest n (by omega))
  have HML := Lib.hid (manyL_len n (-1))
  have HN := Lib.hid hn
  clear hn hn1 hi hz0 hz1 hz2
  go_enter Try.func11, Try.ntmps11
  go_wp2_with fail
  refine (K1.out _).mono ?_
  rintro e w1 ⟨rfl, hf⟩
  have F1 := Lib.hid (hf)
  clear hf
  go_wp2_with fail
  refine (L1.out _).mono ?_
  rintro e w2 ⟨rfl, hf⟩
  have F2 := Lib.hid (F1.out.then0 hf)
  clear hf
  go_wp2_with fail
  refine (L2.out _).mono ?_
  rintro e w3 ⟨rfl, hf⟩
  have F3 := Lib.hid (F2.out.then0 hf)
  clear hf
  go_wp2_with fail
  refine (O1.out _).mono ?_
  rintro e w4 ⟨rfl, hf⟩
  have F4 := Lib.hid (F3.out.then0 hf)
  clear hf
  go_wp2_with fail
  refine (O2.out _).mono ?_
  rintro e w5 ⟨rfl, hf⟩
  have F5 := Lib.hid (F4.out.then0 hf)
  clear hf
  go_wp2_with fail
  refine (B1.out _).mono ?_
  rintro e w6 ⟨rfl, hf⟩
  have F6 := Lib.hid (F5.out.then0 hf)
  clear hf
  go_wp2_with fail
  refine (SV.out _).mono ?_
  rintro e w7 ⟨⟨v, rfl, hv⟩, hf⟩
  obtain rfl := known_span v hv
  have F7 := Lib.hid ((F6.out.alloc _).then0 hf)
  clear hf hv
  go_wp2_with fail
  refine (K2.out _).mono ?_
  rintro e w8 ⟨rfl, hf⟩
  have F8 := Lib.hid (F7.out.then0 hf)
  clear hf
  go_wp2_with fail
  refine (K3.out _).mono ?_
  rintro e w9 ⟨rfl, hf⟩
  have F9 := Lib.hid (F8.out.then0 hf)
  clear hf
  go_wp2_with fail
  refine (K4.out _).mono ?_
  rintro e w10 ⟨rfl, hf⟩
  have F10 := Lib.hid (F9.out.then0 hf)
  clear hf
  go_wp2_with fail
  refine (K5.out _).mono ?_
  rintro e w11 ⟨rfl, hf⟩
  have F11 := Lib.hid (F10.out.then0 hf)
  clear hf
  go_wp2_with fail
  refine (L3.out _).mono ?_
  rintro e w12 ⟨rfl, hf⟩
  have F12 := Lib.hid (F11.out.then0 hf)
  clear hf
  go_wp2_with fail
  refine (L4.out _).mono ?_
  rintro e w13 ⟨rfl, hf⟩
  have F13 := Lib.hid (F12.out.then0 hf)
  clear hf
  obtain ⟨w9, hw9⟩ : ∃ w9, w9 = (w13.alloc M).setCell ⟨w13.heap.size, 1, none⟩ (.int .i64 (-1)) := ⟨_, rfl⟩
  have BM0 := Lib.hid (show Blk (w13.alloc M) w13.heap.size 23 (icells (manyL n 0)).toArray by rw [HM.out]; exact Blk.new _ _ _)
  have m1 : (w13.alloc M).cell? ⟨w13.heap.size, 1, none⟩ = some (.int .i64 0) := BM0.out.cell 1
  have mz := BM0.out.frozen 1
  have BM := Lib.hid (show Blk w9 w13.heap.size 23 (icells (manyL n (-1))).toArray by rw [hw9]; exact many_set n _ _ BM0.out)
  have FM := Lib.hid (show Fr No w w9 by rw [hw9]; exact (F13.out.alloc M).setCell (.inl (show w.heap.size ≤ w13.heap.size from F13.out.size)) _)
  have HW9 := Lib.hid hw9
  clear hw9
  have S1 := Lib.hid (fun X (hX : Blk X w13.heap.size 23 (icells (manyL n (-1))).toArray) => (Sort_any (some ⟨w13.heap.size, 0, none⟩) 1025 1025 (manyL n (-1)) 0 X (by
    have := blk_items hX 0 1025 (by rw [HML.out, HN.out]; omega)
    rwa [List.drop_zero, List.take_of_length_le (by rw [HML.out, HN.out]; omega), Nat.zero_mul] at this) (by omega)))
  have A1 := Lib.hid (fun X (hX : Blk X w13.heap.size 23 (icells (manyL n (-1))).toArray) => (Ahead_any (some ⟨w13.heap.size, 0, none⟩) 1025 1025 (manyL n (-1)) IV.zero 1 X (by
    have := blk_items hX 0 1025 (by rw [HML.out, HN.out]; omega)
    rwa [List.drop_zero, List.take_of_length_le (by rw [HML.out, HN.out]; omega), Nat.zero_mul] at this) (by omega)))
  have A2 := Lib.hid (fun X (hX : Blk X w13.heap.size 23 (icells (manyL n (-1))).toArray) => (Ahead_any (some ⟨w13.heap.size, 0, none⟩) 9 1025 (((manyL n (-1)).drop 0).take 9) ⟨0, 0, -1, 0⟩ 1 X (by
    have := blk_items hX 0 9 (by rw [HML.out, HN.out]; omega)
    rwa [Nat.zero_mul] at this) (by omega)))
  have A3 := Lib.hid (fun X (hX : Blk X w13.heap.size 23 (icells (manyL n (-1))).toArray) => (Ahead_any (some ⟨w13.heap.size, 4, none⟩) 1024 1024 (((manyL n (-1)).drop 1).take n) ⟨0, 0, -1, 0⟩ 1 X (by
    have h5 : Reads X X.heap.size 4 (some ⟨w13.heap.size, 4, none⟩) n (icells (((manyL n (-1)).drop 1).take n)) := blk_items hX 1 n (by rw [HML.out]; omega)
    exact (congrArg (fun k => Reads X X.heap.size 4 (some ⟨w13.heap.size, 4, none⟩) k (icells (((manyL n (-1)).drop 1).take n))) HN.out).mp h5) (by omega)))
  rw [HMA.out] at A1
  rw [HNI.out] at A2
  rw [HRE.out] at A3
  have V1 : aheadV 1 (manyL n (-1)) IV.zero = 0 := by unfold aheadV; rw [HMA.out]; rfl
  have V2 : aheadV 1 (((manyL n (-1)).drop 0).take 9) ⟨0, 0, -1, 0⟩ = 0 := by unfold aheadV; rw [HNI.out]; rfl
  have V3 : aheadV 1 (((manyL n (-1)).drop 1).take n) ⟨0, 0, -1, 0⟩ = 0 := by unfold aheadV; rw [HRE.out]; rfl
  rw [V1] at A1
  rw [V2] at A2
  rw [V3] at A3
  clear V1 V2 V3
  dsimp only [IV.zero] at A1 A2 A3
  go_wp2_with fail
  rw [← HW9.out]
  refine (S1.out w9 BM.out).mono ?_
  rintro e w20 ⟨hf, ⟨h0, rfl⟩ | ⟨h0, _⟩⟩
  rotate_left
  · exact absurd (HS.out.symm.trans h0) (by omega)
  rw [HS.out]
  have F20 := Lib.hid ((Fr.refl No w9).then0 hf)
  have B20 := Lib.hid (BM.out.fr F20.out (fun x => x))
  clear hf h0
  go_wp2_with fail
  refine (A1.out w20 B20.out).mono ?_
  rintro e w21 ⟨rfl, hf⟩
  have F21 := Lib.hid (F20.out.then0 hf)
  have B21 := Lib.hid (BM.out.fr F21.out (fun x => x))
  clear hf
  go_wp2_with fail
  refine (A2.out w21 B21.out).mono ?_
  rintro e w22 ⟨rfl, hf⟩
  have F22 := Lib.hid (F21.out.then0 hf)
  have B22 := Lib.hid (BM.out.fr F22.out (fun x => x))
  clear hf
  go_wp2_with fail
  refine (A3.out w22 B22.out).mono ?_
  rintro e w23 ⟨rfl, hf⟩
  have F23 := Lib.hid (F22.out.then0 hf)
  clear hf
  go_wp2_with fail
  refine (SN.out w23).mono ?_
  rintro e w24 ⟨⟨v, rfl, hv⟩, hf⟩
  obtain rfl := hv.nil rfl
  have F24 := Lib.hid (F23.out.then0 hf)
  clear hf hv
  go_wp2_with fail
  refine (works_any _).mono ?_
  rintro e w25 ⟨rfl, hf⟩
  go_wp2
  go_ret
  exact ⟨rfl, FM.out.then0 (F24.out.then0 hf)⟩
end Go.Proofs.Ytabajcofddhelaa
