/- The walk of RunsRoom. -/
import Derived.Test.YtopcjakgfaobcaaRoom
namespace Go.Proofs.Ytopcjakgfaobcaa
open Go.RowKit Go.Wk

set_option maxHeartbeats 4000000 in
theorem runsRoom_walk (n : Int) (w : World) : Calls Try.prog 3 #[.int .i64 n] w fun e w' => e = .returned (.bool true) ∧ Fr No w w' := by
  by_cases h0 : n < 0
  · go_enter Try.func3, Try.ntmps3
    go_wp2_with fail
    refine (new_bad n _ (.inl h0)).mono ?_
    rintro e w1 ⟨rfl, rfl⟩
    go_wp2_with fail
    refine (works_any _).mono ?_
    rintro e w1 ⟨rfl, hf⟩
    go_wp2
    go_ret
    exact ⟨rfl, hf⟩
  by_cases h1 : 1000 < n
  · go_enter Try.func3, Try.ntmps3
    go_wp2_with fail
    refine (new_bad n _ (.inr h1)).mono ?_
    rintro e w1 ⟨rfl, rfl⟩
    go_wp2_with fail
    refine (works_any _).mono ?_
    rintro e w1 ⟨rfl, hf⟩
    go_wp2
    go_ret
    exact ⟨rfl, hf⟩
  obtain ⟨N, rfl⟩ := Int.eq_ofNat_of_zero_le (show 0 ≤ n by omega)
  have hN : N ≤ 1000 := by omega
  go_enter Try.func3, Try.ntmps3
  go_wp2_with fail
  refine (new_good N _ (by omega) (by omega)).mono ?_
  rintro e w1 ⟨rfl, hc, hf⟩
  have HI : ∃ s D, RoomI w w1 w.heap.size N 0 s D := ⟨_, _, hc, fun j hj => by omega, hf, rfl, rfl, rfl, fun r h1 h2 => by simp at h2; omega⟩
  clear hc hf
  go_wp2
  go_loopw [5] (fun i wr => ∃ k : Nat, i = .int .i64 ((k : Int) + 1) ∧ k ≤ N ∧ ∃ s D, RoomI w wr w.heap.size N k s D) (fun i _ => N + 1 - (intOf i).toNat)
  case atStart => exact ⟨0, by simp, Nat.zero_le _, HI⟩
  case round =>
    clear HI
    obtain ⟨k, rfl, hk, s, D, HI⟩ := hrel
    by_cases hlt : k < N
    · have HR := Lib.hid HI
      have hv := HI.vals ((k : Int) + 1) (by omega)
      rw [if_pos hlt, if_pos hlt] at hv
      have HV := Lib.hid hv
      have HL := Lib.hid (show s.last < 1000000 by rw [HI.last]; omega)
      clear HI hv
      go_wp2_with fail
      refine (start_any _ _ s _ ((k : Int) + 1) 5 1 5 HR.out.tab HL.out).mono ?_
      rintro e w2 ⟨rfl, D', hc, hf, hd⟩
      rw [HV.out.1, HV.out.2]
      have HI2 := Lib.hid (HR.out.step ((k : Int) + 1) (by omega) hlt hc hf hd)
      clear hc hf hd HR HV HL
      go_wp2
      go_roundw
      case rel => exact ⟨k + 1, by go_num, by omega, _, _, HI2.out⟩
      case measure => simp [intOf]; omega
    · have HJ := Lib.hid (show RoomJ w wr w.heap.size N N N s D from by
        have hkN : k = N := by omega
        rw [hkN] at HI
        exact ⟨HI.tab, HI.base, HI.fr, HI.size, HI.len, HI.last⟩)
      have HIDS := Lib.hid (show ∀ r : Int, 1 ≤ r → r ≤ N → s.has r = true from fun r h1 h2 => HI.ids r h1 (by omega))
      have HL := Lib.hid (show s.last < 1000000 by rw [HI.last]; omega)
      have HV := Lib.hid (by have := HJ.out.vals 0 (by omega); rwa [if_neg (Nat.lt_irrefl N), if_neg (Nat.lt_irrefl N)] at this : s.startV 0 5 1 5 = 0 ∧ s.startE 0 5 1 5 = 4)
      clear HI
      go_wp2_with fail
      refine (start_any _ _ s _ 0 5 1 5 HJ.out.tab HL.out).mono ?_
      rintro e w2 ⟨rfl, D2, hc, hf, hd⟩
      rw [HV.out.1, HV.out.2]
      have HJ2 := Lib.hid (HJ.out.refused 0 (by omega) (Nat.lt_irrefl N) hc hf hd)
      clear hc hf hd HV HJ
      go_wp2_with fail
      refine (len_any _ _ s _ HJ2.out.tab).mono ?_
      rintro e w3 ⟨rfl, rfl⟩
      rw [HJ2.out.len]
      by_cases hz : N = 0
      · have hzb : ((N : Int) == 0) = true := by simpa using hz
        have HZ := Lib.hid hz
        clear hz
        go_wp2_with fail
        refine (works_any _).mono ?_
        rintro e w3 ⟨rfl, hf⟩
        go_wp2
        go_ret
        exact ⟨rfl, HJ2.out.fr.then0 hf⟩
      · have hzb : ((N : Int) == 0) = false := by simpa using hz
        obtain ⟨q, hq⟩ : ∃ q : Nat, N / 2 = q := ⟨_, rfl⟩
        have hq1 : (N : Int).tdiv 2 = (q : Int) := by rw [Int.tdiv_eq_ediv_of_nonneg (by omega)]; omega
        have hq2 : (N : Int) / 2 = (q : Int) := by omega
        have hqN : q < N := by omega
        have HH := Lib.hid (HIDS.out (1 + (q : Int)) (by omega) (by omega))
        clear hq
        go_wp2_with fail
        refine (finish_any _ _ s _ (1 + (q : Int)) HJ2.out.tab).mono ?_
        rintro e w3 ⟨rfl, hc, hf⟩
        rw [show s.finE (1 + (q : Int)) = 0 by unfold TS.finE; rw [HH.out]; rfl]
        have HJ3 := Lib.hid ((HJ2.out.fin HH.out hc hf).keep ((Fr.refl No w3).alloc (.cells #[.int .i64 (s.getV (1 + (q : Int))).id, .int .i64 (s.getV (1 + (q : Int))).job, .int .i64 (s.getV (1 + (q : Int))).due, .int .i64 (s.getV (1 + (q : Int))).att, .int .i64 (s.getV (1 + (q : Int))).start] 31)))
        clear hc hf HJ2 HH HIDS
        unfold RV.agg
        generalize s.getV (1 + (q : Int)) = x at *
        generalize s.finS (1 + (q : Int)) = s3 at *
        go_wp2_with fail
        have HL3 := Lib.hid (show s3.last < 1000000 by rw [HJ3.out.last]; omega)
        have HV3 := Lib.hid (by have := HJ3.out.vals 0 (by omega); rwa [if_pos (show N - 1 < N by omega), if_pos (show N - 1 < N by omega)] at this : s3.startV 0 5 1 5 = (N : Int) + 1 ∧ s3.startE 0 5 1 5 = 0)
        refine (start_any _ _ s3 _ 0 5 1 5 HJ3.out.tab HL3.out).mono ?_
        rintro e w4 ⟨rfl, D4, hc, hf, hd⟩
        rw [HV3.out.1, HV3.out.2]
        have HJ4 := Lib.hid (by have := HJ3.out.step 0 (by omega) (show N - 1 < N by omega) hc hf hd; rwa [show N - 1 + 1 = N by omega] at this : RoomJ w w4 w.heap.size N N ((N : Int) + 1) (s3.startS 0 5 1 5) D4)
        clear hc hf hd HJ3 HL3 HV3
        generalize s3.startS 0 5 1 5 = s4 at *
        go_wp2_with fail
        have HL4 := Lib.hid (show s4.last < 1000000 by rw [HJ4.out.last]; omega)
        have HV4 := Lib.hid (by have := HJ4.out.vals 0 (by omega); rwa [if_neg (Nat.lt_irrefl N), if_neg (Nat.lt_irrefl N)] at this : s4.startV 0 5 1 5 = 0 ∧ s4.startE 0 5 1 5 = 4)
        refine (start_any _ _ s4 _ 0 5 1 5 HJ4.out.tab HL4.out).mono ?_
        rintro e w5 ⟨rfl, D5, hc, hf, hd⟩
        rw [HV4.out.1, HV4.out.2]
        have HJ5 := Lib.hid (HJ4.out.refused 0 (by omega) (Nat.lt_irrefl N) hc hf hd)
        clear hc hf hd HJ4 HL4 HV4
        go_wp2_with fail
        refine (works_any _).mono ?_
        rintro e w6 ⟨rfl, hf⟩
        go_wp2
        go_ret
        exact ⟨rfl, HJ5.out.fr.then0 hf⟩
end Go.Proofs.Ytopcjakgfaobcaa
