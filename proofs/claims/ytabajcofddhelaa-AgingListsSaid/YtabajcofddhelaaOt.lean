/- The walk of AgingOvertakes. -/
import Derived.Test.YtabajcofddhelaaOv
namespace Go.Proofs.Ytabajcofddhelaa
open Go.RowKit Go.Wk

set_option maxRecDepth 100000 in
set_option maxHeartbeats 16000000 in
theorem agingOvertakes_walk (hi lo yr since af : Int) (w : World) (h0 : 0 ≤ hi ∧ hi ≤ 255) (h1 : 0 ≤ lo ∧ lo ≤ 255) (h2 : 0 ≤ yr ∧ yr ≤ 65535) (h3 : 0 ≤ since ∧ since ≤ 4294967295) (h4 : 0 ≤ af ∧ af ≤ 4294967295) :
    Calls Try.prog 7 #[.int .u8 hi, .int .u8 lo, .int .u16 yr, .int .u32 since, .int .u32 af] w fun e w' => e = .returned (.bool true) ∧ Fr No w w' := by
  obtain ⟨p, hp1, hp2, hpb⟩ : ∃ p : Int, hi % 101 = p ∧ hi.tmod 101 = p ∧ 0 ≤ p ∧ p ≤ 100 := ⟨_, rfl, Int.tmod_eq_emod_of_nonneg h0.1, by omega, by omega⟩
  obtain ⟨q, hq1, hq2, hqb⟩ : ∃ p : Int, lo % 101 = p ∧ lo.tmod 101 = p ∧ 0 ≤ p ∧ p ≤ 100 := ⟨_, rfl, Int.tmod_eq_emod_of_nonneg h1.1, by omega, by omega⟩
  obtain ⟨late, hl, hlb⟩ : ∃ l : Int, (af % (2 * (yr + 1) * 101 + 2) = l ∧ af.tmod (2 * (yr + 1) * 101 + 2) = l) ∧ 0 ≤ l ∧ l ≤ 20000000 := ⟨_, ⟨rfl, Int.tmod_eq_emod_of_nonneg h4.1⟩, Int.emod_nonneg _ (by omega), by have := Int.emod_lt_of_pos af (b := 2 * (yr + 1) * 101 + 2) (by omega); omega⟩
  have m1 : IntKind.i64.wrap (2 * (yr + 1)) = 2 * (yr + 1) := by simp only [IntKind.wrap_i64]; omega
  have m2 : wrap64 (2 * (yr + 1)) = 2 * (yr + 1) := by unfold wrap64; omega
  have m3 : IntKind.i64.wrap (2 * (yr + 1) * 101) = 2 * (yr + 1) * 101 := by simp only [IntKind.wrap_i64]; omega
  have m4 : wrap64 (2 * (yr + 1) * 101) = 2 * (yr + 1) * 101 := by unfold wrap64; omega
  have m5 : (2 * (yr + 1) * 101 + 2 == 0) = false := by simp; omega
  by_cases hpq : p < q
  · have hP : 0 ≤ q ∧ q ≤ 100 ∧ 0 ≤ p ∧ p ≤ 100 ∧ p ≤ q := by omega
    have hovE : ovE (yr + 1) q p = 0 := by
      unfold ovE
      have : chkE (yr + 1) [⟨0, q, 0, 0⟩, ⟨0, p, 0, 0⟩] = 0 := chkE_good (by omega) (by omega) (fun v hv => by
        simp at hv
        rcases hv with rfl | rfl
        · exact ⟨hP.1, hP.2.1, Int.le_refl 0, by show (0 : Int) ≤ 253402300799; omega⟩
        · exact ⟨hP.2.2.1, hP.2.2.2.1, Int.le_refl 0, by show (0 : Int) ≤ 253402300799; omega⟩)
      rw [if_neg (by simpa using this), if_neg (by omega)]
    have hovV : ovV (yr + 1) q p = (q - p) * (yr + 1) := by unfold ovV; rw [if_pos hovE]
    have hmb := mul_bnd (p := q - p) (y := yr + 1) (by omega) (by omega) (by omega) (by omega)
    have hkey : ∀ s, keyV (yr + 1) ⟨9, p, since, 1⟩ < keyV (yr + 1) ⟨1, q, since + s, 2⟩ ↔ (q - p) * (yr + 1) < s := fun s => by
      unfold keyV
      dsimp only
      rw [Int.sub_mul]
      omega
    have hkey2 : ∀ s, keyV (yr + 1) ⟨9, p, since, 1⟩ = keyV (yr + 1) ⟨1, q, since + s, 2⟩ ↔ (q - p) * (yr + 1) = s := fun s => by
      unfold keyV
      dsimp only
      rw [Int.sub_mul]
      omega
    have OK : ∀ s, 0 ≤ s → s ≤ 100000000 → chkE (yr + 1) [⟨9, p, since, 1⟩, ⟨1, q, since + s, 2⟩] = 0 := fun s s0 s1 => chkE_good (by omega) (by omega) (fun v hv => by
        simp at hv
        rcases hv with rfl | rfl
        · exact ⟨hP.2.2.1, hP.2.2.2.1, by show 0 ≤ since; omega, by show since ≤ _; omega⟩
        · exact ⟨hP.1, hP.2.1, by show 0 ≤ since + s; omega, by show since + s ≤ _; omega⟩)
    have BF : ∀ s, 0 ≤ s → s ≤ 100000000 → befB (yr + 1) ⟨9, p, since, 1⟩ ⟨1, q, since + s, 2⟩ = decide ((q - p) * (yr + 1) ≤ s) := fun s s0 s1 => by
      unfold befB
      refine decide_eq_decide.2 ?_
      rw [OK s s0 s1, ordI_lt, hkey, hkey2]
      dsimp only
      omega
    have O1 := Lib.hid (fun X => Overtake_any q p (yr + 1) X)
    rw [hovE, hovV] at O1
    obtain ⟨D, hD⟩ : ∃ D, (q - p) * (yr + 1) = D := ⟨_, rfl⟩
    have hD1 : D ≤ 6871947673600 := by rw [← hD]; exact hmb.2
    have hD0 : 0 ≤ D := by rw [← hD]; exact hmb.1
    have hD2 : D ≤ 6553600 := by
      rw [← hD]
      have h1 : (q - p) * (yr + 1) ≤ 100 * (yr + 1) := Int.mul_le_mul_of_nonneg_right (by omega) (by omega)
      omega
    rw [hD] at O1 BF
    have B1 := Lib.hid (fun X => Before_any ⟨9, p, since, 1⟩ ⟨1, q, since + late, 2⟩ (yr + 1) X)
    rw [BF late (by omega) (by omega), OK late (by omega) (by omega)] at B1
    have B2 := Lib.hid (fun X => Before_any ⟨9, p, since, 1⟩ ⟨1, q, since + D, 2⟩ (yr + 1) X)
    rw [BF D (by omega) (by omega), OK D (by omega) (by omega)] at B2
    have B3 := Lib.hid (fun (h : 1 ≤ D) X => Before_any ⟨9, p, since, 1⟩ ⟨1, q, since + (D - 1), 2⟩ (yr + 1) X)
    have B3' := Lib.hid (fun (h : 1 ≤ D) => (⟨BF (D - 1) (by omega) (by omega), OK (D - 1) (by omega) (by omega)⟩ : _ ∧ _))
    have hdd : decide (D ≤ D) = true := by simp
    rw [hdd] at B2
    clear hkey hkey2 hovE hovV hmb OK BF hD hdd
    dsimp only at B1 B2 B3 B3'
    obtain ⟨l1, l2⟩ := hl
    go_enter Try.func7, Try.ntmps7
    go_wp2_with fail
    refine (O1.out _).mono ?_
    rintro x w1 ⟨rfl, hf⟩
    have F1 := Lib.hid hf
    obtain ⟨w2, hw2⟩ : ∃ w2, w2 = w1.alloc (.cells #[.int .i64 9, .int .i64 p, .int .i64 since, .int .i64 1] 23) := ⟨_, rfl⟩
    have BK := Lib.hid (show Blk w2 w1.heap.size 23 #[.int .i64 9, .int .i64 p, .int .i64 since, .int .i64 1] by rw [hw2]; exact Blk.new _ _ _)
    have F2 := Lib.hid (show Fr No w w2 by rw [hw2]; exact F1.out.alloc _)
    clear hf

    have HW2 := Lib.hid hw2
    clear hw2
    have e3 : since + (D - 1) = since + D - 1 := by omega
    rw [e3] at B3 B3'
    clear e3
    by_cases hge : D ≤ late
    all_goals
      have hgb : decide (D ≤ late) = true ∨ decide (D ≤ late) = false := by cases decide (D ≤ late) <;> simp
      first
        | (have hgt : decide (D ≤ late) = true := by simpa using hge)
        | (have hgt : decide (D ≤ late) = false := by simpa using hge)
      rw [hgt] at B1
      clear hgb
      go_wp2_with fail
      rw [← HW2.out]
      refine (B1.out _).mono ?_
      rintro x w3 ⟨rfl, hf⟩
      have F3 := Lib.hid ((Fr.refl No w2).then0 hf)
      clear hf
      obtain ⟨c0, c1, c2, c3⟩ := blk4 (BK.out.fr F3.out (fun x => x))
      go_wp2_with fail
      refine (B2.out _).mono ?_
      rintro x w4 ⟨rfl, hf⟩
      have F4 := Lib.hid (F3.out.then0 hf)
      clear hf c0 c1 c2 c3
      obtain ⟨c0, c1, c2, c3⟩ := blk4 (BK.out.fr F4.out (fun x => x))
      by_cases hz : D = 0
      · have hzb : (D == 0) = true := by simpa using hz
        clear hz
        go_wp2_with fail
        refine (works_any _).mono ?_
        rintro x w5 ⟨rfl, hf⟩
        go_wp2
        go_ret
        exact ⟨rfl, F2.out.then0 (F4.out.then0 hf)⟩
      · have hzb : (D == 0) = false := by simpa using hz
        have hd1 : 1 ≤ D := by omega
        obtain ⟨b1, b2⟩ := B3'.out hd1
        have B4 := Lib.hid (B3.out hd1)
        have b3 : decide (D ≤ D - 1) = false := by simp; omega
        rw [b3] at b1
        rw [b1, b2] at B4
        clear hz b1 b2 b3
        go_wp2_with fail
        refine (B4.out _).mono ?_
        rintro x w5 ⟨rfl, hf⟩
        have F5 := Lib.hid (F4.out.then0 hf)
        clear hf
        go_wp2_with fail
        refine (works_any _).mono ?_
        rintro x w6 ⟨rfl, hf⟩
        go_wp2
        go_ret
        exact ⟨rfl, F2.out.then0 (F5.out.then0 hf)⟩
  · have hP : 0 ≤ p ∧ p ≤ 100 ∧ 0 ≤ q ∧ q ≤ 100 ∧ q ≤ p := by omega
    have hovE : ovE (yr + 1) p q = 0 := by
      unfold ovE
      have : chkE (yr + 1) [⟨0, p, 0, 0⟩, ⟨0, q, 0, 0⟩] = 0 := chkE_good (by omega) (by omega) (fun v hv => by
        simp at hv
        rcases hv with rfl | rfl
        · exact ⟨hP.1, hP.2.1, Int.le_refl 0, by show (0 : Int) ≤ 253402300799; omega⟩
        · exact ⟨hP.2.2.1, hP.2.2.2.1, Int.le_refl 0, by show (0 : Int) ≤ 253402300799; omega⟩)
      rw [if_neg (by simpa using this), if_neg (by omega)]
    have hovV : ovV (yr + 1) p q = (p - q) * (yr + 1) := by unfold ovV; rw [if_pos hovE]
    have hmb := mul_bnd (p := p - q) (y := yr + 1) (by omega) (by omega) (by omega) (by omega)
    have hkey : ∀ s, keyV (yr + 1) ⟨9, q, since, 1⟩ < keyV (yr + 1) ⟨1, p, since + s, 2⟩ ↔ (p - q) * (yr + 1) < s := fun s => by
      unfold keyV
      dsimp only
      rw [Int.sub_mul]
      omega
    have hkey2 : ∀ s, keyV (yr + 1) ⟨9, q, since, 1⟩ = keyV (yr + 1) ⟨1, p, since + s, 2⟩ ↔ (p - q) * (yr + 1) = s := fun s => by
      unfold keyV
      dsimp only
      rw [Int.sub_mul]
      omega
    have OK : ∀ s, 0 ≤ s → s ≤ 100000000 → chkE (yr + 1) [⟨9, q, since, 1⟩, ⟨1, p, since + s, 2⟩] = 0 := fun s s0 s1 => chkE_good (by omega) (by omega) (fun v hv => by
        simp at hv
        rcases hv with rfl | rfl
        · exact ⟨hP.2.2.1, hP.2.2.2.1, by show 0 ≤ since; omega, by show since ≤ _; omega⟩
        · exact ⟨hP.1, hP.2.1, by show 0 ≤ since + s; omega, by show since + s ≤ _; omega⟩)
    have BF : ∀ s, 0 ≤ s → s ≤ 100000000 → befB (yr + 1) ⟨9, q, since, 1⟩ ⟨1, p, since + s, 2⟩ = decide ((p - q) * (yr + 1) ≤ s) := fun s s0 s1 => by
      unfold befB
      refine decide_eq_decide.2 ?_
      rw [OK s s0 s1, ordI_lt, hkey, hkey2]
      dsimp only
      omega
    have O1 := Lib.hid (fun X => Overtake_any p q (yr + 1) X)
    rw [hovE, hovV] at O1
    obtain ⟨D, hD⟩ : ∃ D, (p - q) * (yr + 1) = D := ⟨_, rfl⟩
    have hD1 : D ≤ 6871947673600 := by rw [← hD]; exact hmb.2
    have hD0 : 0 ≤ D := by rw [← hD]; exact hmb.1
    have hD2 : D ≤ 6553600 := by
      rw [← hD]
      have h1 : (p - q) * (yr + 1) ≤ 100 * (yr + 1) := Int.mul_le_mul_of_nonneg_right (by omega) (by omega)
      omega
    rw [hD] at O1 BF
    have B1 := Lib.hid (fun X => Before_any ⟨9, q, since, 1⟩ ⟨1, p, since + late, 2⟩ (yr + 1) X)
    rw [BF late (by omega) (by omega), OK late (by omega) (by omega)] at B1
    have B2 := Lib.hid (fun X => Before_any ⟨9, q, since, 1⟩ ⟨1, p, since + D, 2⟩ (yr + 1) X)
    rw [BF D (by omega) (by omega), OK D (by omega) (by omega)] at B2
    have B3 := Lib.hid (fun (h : 1 ≤ D) X => Before_any ⟨9, q, since, 1⟩ ⟨1, p, since + (D - 1), 2⟩ (yr + 1) X)
    have B3' := Lib.hid (fun (h : 1 ≤ D) => (⟨BF (D - 1) (by omega) (by omega), OK (D - 1) (by omega) (by omega)⟩ : _ ∧ _))
    have hdd : decide (D ≤ D) = true := by simp
    rw [hdd] at B2
    clear hkey hkey2 hovE hovV hmb OK BF hD hdd
    dsimp only at B1 B2 B3 B3'
    obtain ⟨l1, l2⟩ := hl
    go_enter Try.func7, Try.ntmps7
    go_wp2_with fail
    refine (O1.out _).mono ?_
    rintro x w1 ⟨rfl, hf⟩
    have F1 := Lib.hid hf
    obtain ⟨w2, hw2⟩ : ∃ w2, w2 = w1.alloc (.cells #[.int .i64 9, .int .i64 q, .int .i64 since, .int .i64 1] 23) := ⟨_, rfl⟩
    have BK := Lib.hid (show Blk w2 w1.heap.size 23 #[.int .i64 9, .int .i64 q, .int .i64 since, .int .i64 1] by rw [hw2]; exact Blk.new _ _ _)
    have F2 := Lib.hid (show Fr No w w2 by rw [hw2]; exact F1.out.alloc _)
    clear hf

    have HW2 := Lib.hid hw2
    clear hw2
    have e3 : since + (D - 1) = since + D - 1 := by omega
    rw [e3] at B3 B3'
    clear e3
    by_cases hge : D ≤ late
    all_goals
      have hgb : decide (D ≤ late) = true ∨ decide (D ≤ late) = false := by cases decide (D ≤ late) <;> simp
      first
        | (have hgt : decide (D ≤ late) = true := by simpa using hge)
        | (have hgt : decide (D ≤ late) = false := by simpa using hge)
      rw [hgt] at B1
      clear hgb
      go_wp2_with fail
      rw [← HW2.out]
      refine (B1.out _).mono ?_
      rintro x w3 ⟨rfl, hf⟩
      have F3 := Lib.hid ((Fr.refl No w2).then0 hf)
      clear hf
      obtain ⟨c0, c1, c2, c3⟩ := blk4 (BK.out.fr F3.out (fun x => x))
      go_wp2_with fail
      refine (B2.out _).mono ?_
      rintro x w4 ⟨rfl, hf⟩
      have F4 := Lib.hid (F3.out.then0 hf)
      clear hf c0 c1 c2 c3
      obtain ⟨c0, c1, c2, c3⟩ := blk4 (BK.out.fr F4.out (fun x => x))
      by_cases hz : D = 0
      · have hzb : (D == 0) = true := by simpa using hz
        clear hz
        go_wp2_with fail
        refine (works_any _).mono ?_
        rintro x w5 ⟨rfl, hf⟩
        go_wp2
        go_ret
        exact ⟨rfl, F2.out.then0 (F4.out.then0 hf)⟩
      · have hzb : (D == 0) = false := by simpa using hz
        have hd1 : 1 ≤ D := by omega
        obtain ⟨b1, b2⟩ := B3'.out hd1
        have B4 := Lib.hid (B3.out hd1)
        have b3 : decide (D ≤ D - 1) = false := by simp; omega
        rw [b3] at b1
        rw [b1, b2] at B4
        clear hz b1 b2 b3
        go_wp2_with fail
        refine (B4.out _).mono ?_
        rintro x w5 ⟨rfl, hf⟩
        have F5 := Lib.hid (F4.out.then0 hf)
        clear hf
        go_wp2_with fail
        refine (works_any _).mono ?_
        rintro x w6 ⟨rfl, hf⟩
        go_wp2
        go_ret
        exact ⟨rfl, F2.out.then0 (F5.out.then0 hf)⟩
end Go.Proofs.Ytabajcofddhelaa
