/- The contracts of aging's Level, Overtake, Before. -/
import Derived.Test.YtabajcofddhelaaE
namespace Go.Proofs.Ytabajcofddhelaa
open Go.RowKit Go.Wk

def levE (y n : Int) (x : IV) : Int := if chkE y [x] ≠ 0 then chkE y [x] else if n < 0 ∨ 253402300799 < n then 14 else if n < x.since then 8 else 0
def levV (y n : Int) (x : IV) : Int := if levE y n x = 0 then x.pr + (n - x.since) / y else 0
theorem levE_cases (y n : Int) (x : IV) (hk : chkE y [x] = 0) : (n < 0 ∧ levE y n x = 14) ∨ (¬ n < 0 ∧ 253402300799 < n ∧ levE y n x = 14) ∨ (¬ n < 0 ∧ ¬ 253402300799 < n ∧ n < x.since ∧ levE y n x = 8) ∨ (¬ n < 0 ∧ ¬ 253402300799 < n ∧ ¬ n < x.since ∧ levE y n x = 0) := by
  unfold levE
  rw [if_neg (by simpa using hk)]
  by_cases h1 : n < 0
  · left; exact ⟨h1, by rw [if_pos (.inl h1)]⟩
  · by_cases h2 : 253402300799 < n
    · right; left; exact ⟨h1, h2, by rw [if_pos (.inr h2)]⟩
    · by_cases h3 : n < x.since
      · right; right; left; exact ⟨h1, h2, h3, by rw [if_neg (by omega), if_pos h3]⟩
      · right; right; right; exact ⟨h1, h2, h3, by rw [if_neg (by omega), if_neg h3]⟩
theorem div_bnd {d y : Int} (h0 : 0 ≤ d) (h1 : d ≤ 253402300799) (y0 : 1 ≤ y) : 0 ≤ d / y ∧ d / y ≤ 253402300799 := by
  constructor
  · exact Int.ediv_nonneg h0 (by omega)
  · have := Int.ediv_le_self y h0; omega

set_option maxHeartbeats 1000000 in
theorem Level_any (p s y n : Int) (w : World) : Calls Try.prog 14 #[.int .i64 p, .int .i64 s, .int .i64 y, .int .i64 n] w fun e w' => e = .returned (.tuple #[.int .i64 (levV y n ⟨0, p, s, 0⟩), .int .i64 (levE y n ⟨0, p, s, 0⟩)]) ∧ Fr No w w' := by
  have HC := Lib.hid (check1 ⟨0, p, s, 0⟩ y (w.alloc (.cells #[.int .i64 0, .int .i64 p, .int .i64 s, .int .i64 0] 23)))
  have HF := Lib.hid (((Fr.refl No w).alloc (.cells #[.int .i64 0, .int .i64 p, .int .i64 s, .int .i64 0] 23)).alloc (.cells #[.int .i64 0, .int .i64 p, .int .i64 s, .int .i64 0] 23))
  dsimp only at HC
  rw [World.size_alloc] at HC
  unfold levV
  by_cases hk : chkE y [⟨0, p, s, 0⟩] = 0
  · obtain ⟨⟨y0, y1⟩, hok⟩ := chkE_ok hk
    have ho := hok _ (List.mem_singleton.2 rfl)
    obtain ⟨p0, p1, s0, s1⟩ := ho
    dsimp only at p0 p1 s0 s1
    have hcs := levE_cases y n _ hk
    rw [hk] at HC
    dsimp only at hcs
    clear hk hok
    rcases hcs with ⟨h1, h⟩ | ⟨h1, h2, h⟩ | ⟨h1, h2, h3, h⟩ | ⟨h1, h2, h3, h⟩
    case inr.inr.inr =>
      rw [h, if_pos rfl]
      clear h
      obtain ⟨hb0, hb1⟩ := mul_bnd p0 p1 y0 y1
      have HD := Lib.hid (show (n - s + p * y) / y = p + (n - s) / y by rw [Int.add_mul_ediv_right _ _ (by omega)]; omega)
      obtain ⟨q, hq⟩ : ∃ q, p * y = q := ⟨_, rfl⟩
      rw [hq] at HD hb0 hb1
      have hy : (y == 0) = false := by simp; omega
      have hw1 : IntKind.i64.wrap q = q := by simp only [IntKind.wrap_i64]; omega
      have hw2 : wrap64 q = q := by unfold wrap64; omega
      have hb2 : 0 ≤ n - s + q := by omega
      go_enter Try.func14, Try.ntmps14
      go_wp2_with fail
      refine HC.out.mono ?_
      rintro e w1 ⟨rfl, hf⟩
      have HF1 := Lib.hid (HF.out.then0 hf)
      clear hf
      obtain ⟨hq1, hq2⟩ : 0 ≤ (n - s + q) / y ∧ (n - s + q) / y ≤ 9223372036854775807 := ⟨Int.ediv_nonneg hb2 (by omega), by have := Int.ediv_le_self y hb2; omega⟩
      go_wp2
      go_ret2
      exact ⟨ret2i HD.out, HF1.out⟩
    all_goals
      rw [h, if_neg (by omega)]
      clear h
      go_enter Try.func14, Try.ntmps14
      go_wp2_with fail
      refine HC.out.mono ?_
      rintro e w1 ⟨rfl, hf⟩
      go_wp2
      go_ret2
      exact ⟨rfl, HF.out.then0 hf⟩
  · have hE : levE y n ⟨0, p, s, 0⟩ = chkE y [⟨0, p, s, 0⟩] := by unfold levE; rw [if_pos hk]
    rw [hE, if_neg hk]
    have hkb : (chkE y [⟨0, p, s, 0⟩] != 0) = true := by simpa using hk
    clear hE
    generalize chkE y [⟨0, p, s, 0⟩] = k at *
    go_enter Try.func14, Try.ntmps14
    go_wp2_with fail
    refine HC.out.mono ?_
    rintro e w1 ⟨rfl, hf⟩
    go_wp2
    go_ret2
    exact ⟨rfl, HF.out.then0 hf⟩

def ovE (y hi lo : Int) : Int := if chkE y [⟨0, hi, 0, 0⟩, ⟨0, lo, 0, 0⟩] ≠ 0 then chkE y [⟨0, hi, 0, 0⟩, ⟨0, lo, 0, 0⟩] else if hi < lo then 8 else 0
def ovV (y hi lo : Int) : Int := if ovE y hi lo = 0 then (hi - lo) * y else 0
set_option maxHeartbeats 1000000 in
theorem Overtake_any (hi lo y : Int) (w : World) : Calls Try.prog 21 #[.int .i64 hi, .int .i64 lo, .int .i64 y] w fun e w' => e = .returned (.tuple #[.int .i64 (ovV y hi lo), .int .i64 (ovE y hi lo)]) ∧ Fr No w w' := by
  have HC := Lib.hid (check2 ⟨0, hi, 0, 0⟩ ⟨0, lo, 0, 0⟩ y w)
  have HF := Lib.hid ((Fr.refl No w).alloc (.cells #[.int .i64 0, .int .i64 hi, .int .i64 0, .int .i64 0, .int .i64 0, .int .i64 lo, .int .i64 0, .int .i64 0] 23))
  dsimp only at HC
  by_cases hk : chkE y [⟨0, hi, 0, 0⟩, ⟨0, lo, 0, 0⟩] = 0
  · obtain ⟨⟨y0, y1⟩, hok⟩ := chkE_ok hk
    obtain ⟨p0, p1, _, _⟩ := hok ⟨0, hi, 0, 0⟩ (by simp)
    obtain ⟨q0, q1, _, _⟩ := hok ⟨0, lo, 0, 0⟩ (by simp)
    dsimp only at p0 p1 q0 q1
    rw [hk] at HC
    clear hok
    by_cases hl : hi < lo
    · have hE : ovE y hi lo = 8 := by unfold ovE; rw [if_neg (by simpa using hk), if_pos hl]
      have hV : ovV y hi lo = 0 := by unfold ovV; rw [hE]; rfl
      rw [hE, hV]
      clear hE hV hk
      go_enter Try.func21, Try.ntmps21
      go_wp2_with fail
      refine HC.out.mono ?_
      rintro e w1 ⟨rfl, hf⟩
      go_wp2
      go_ret2
      exact ⟨rfl, HF.out.then0 hf⟩
    · have hE : ovE y hi lo = 0 := by unfold ovE; rw [if_neg (by simpa using hk), if_neg hl]
      have hV : ovV y hi lo = (hi - lo) * y := by unfold ovV; rw [hE]; rfl
      rw [hE, hV]
      clear hE hV hk
      obtain ⟨hb0, hb1⟩ := mul_bnd (p := hi - lo) (by omega) (by omega) y0 y1
      obtain ⟨q, hq⟩ : ∃ q, (hi - lo) * y = q := ⟨_, rfl⟩
      rw [hq] at hb0 hb1 ⊢
      have hw1 : IntKind.i64.wrap q = q := by simp only [IntKind.wrap_i64]; omega
      have hw2 : wrap64 q = q := by unfold wrap64; omega
      go_enter Try.func21, Try.ntmps21
      go_wp2_with fail
      refine HC.out.mono ?_
      rintro e w1 ⟨rfl, hf⟩
      go_wp2
      go_ret2
      exact ⟨rfl, HF.out.then0 hf⟩
  · have hE : ovE y hi lo = chkE y [⟨0, hi, 0, 0⟩, ⟨0, lo, 0, 0⟩] := by unfold ovE; rw [if_pos hk]
    have hV : ovV y hi lo = 0 := by unfold ovV; rw [hE, if_neg hk]
    rw [hE, hV]
    clear hE hV
    have hkb : (chkE y [⟨0, hi, 0, 0⟩, ⟨0, lo, 0, 0⟩] != 0) = true := by simpa using hk
    generalize chkE y [⟨0, hi, 0, 0⟩, ⟨0, lo, 0, 0⟩] = k at *
    go_enter Try.func21, Try.ntmps21
    go_wp2_with fail
    refine HC.out.mono ?_
    rintro e w1 ⟨rfl, hf⟩
    go_wp2
    go_ret2
    exact ⟨rfl, HF.out.then0 hf⟩

/-- Before: whether, and the error. -/
def befB (y : Int) (a b : IV) : Bool := decide (chkE y [a, b] = 0 ∧ ordI y a b < 0)
set_option maxRecDepth 100000 in
set_option maxHeartbeats 4000000 in
theorem Before_any (a b : IV) (y : Int) (w : World) : Calls Try.prog 19 #[.agg #[.int .i64 a.id, .int .i64 a.pr, .int .i64 a.since, .int .i64 a.seq], .agg #[.int .i64 b.id, .int .i64 b.pr, .int .i64 b.since, .int .i64 b.seq], .int .i64 y] w fun e w' => e = .returned (.tuple #[.bool (befB y a b), .int .i64 (chkE y [a, b])]) ∧ Fr No w w' := by
  have HCX := Lib.hid (fun X => check2 a b y X)
  have HD := Lib.hid (show befB y a b = decide (chkE y [a, b] = 0 ∧ ordI y a b < 0) from rfl)
  have HOX := Lib.hid (fun (hk : chkE y [a, b] = 0) X g (hg : Blk X g 2 #[.int .i64 y]) => ord_any g a b y X hg ((chkE_ok hk).2 a (by simp)) ((chkE_ok hk).2 b (by simp)) (chkE_ok hk).1.1 (chkE_ok hk).1.2)
  generalize ordI y a b = r at *
  generalize befB y a b = d at *
  generalize chkE y [a, b] = k at *
  obtain ⟨aid, apr, asi, asq⟩ := a
  obtain ⟨bid, bpr, bsi, bsq⟩ := b
  dsimp only at *
  have b3 := Blk.new w 23 #[.int .i64 aid, .int .i64 apr, .int .i64 asi, .int .i64 asq]
  obtain ⟨w1, hw1⟩ : ∃ w1, w1 = w.alloc (.cells #[.int .i64 aid, .int .i64 apr, .int .i64 asi, .int .i64 asq] 23) := ⟨_, rfl⟩
  have b4 := Blk.new w1 23 #[.int .i64 bid, .int .i64 bpr, .int .i64 bsi, .int .i64 bsq]
  have hs1 : w1.heap.size = w.heap.size + 1 := by rw [hw1]; simp
  obtain ⟨w0, hw0⟩ : ∃ w0, w0 = w1.alloc (.cells #[.int .i64 bid, .int .i64 bpr, .int .i64 bsi, .int .i64 bsq] 23) := ⟨_, rfl⟩
  have hs0 : w0.heap.size = w.heap.size + 1 + 1 := by rw [hw0]; simp [hs1]
  have F0 : Fr No w w0 := by rw [hw0, hw1]; exact ((Fr.refl No w).alloc _).alloc _
  have B3 : Blk w0 w.heap.size 23 #[.int .i64 aid, .int .i64 apr, .int .i64 asi, .int .i64 asq] := by rw [hw0]; rw [← hw1] at b3; exact b3.alloc _
  have B4 : Blk w0 (w.heap.size + 1) 23 #[.int .i64 bid, .int .i64 bpr, .int .i64 bsi, .int .i64 bsq] := by rw [← hs1, hw0]; exact b4
  have SK := Lib.hid (fun (X : World) (hX : Fr No w0 X) =>
    (show (X.cell? ⟨w.heap.size, 0, none⟩ = some (.int .i64 aid) ∧ X.cell? ⟨w.heap.size, 1, none⟩ = some (.int .i64 apr) ∧ X.cell? ⟨w.heap.size, 2, none⟩ = some (.int .i64 asi) ∧ X.cell? ⟨w.heap.size, 3, none⟩ = some (.int .i64 asq)
      ∧ X.cell? ⟨w.heap.size + 1, 0, none⟩ = some (.int .i64 bid) ∧ X.cell? ⟨w.heap.size + 1, 1, none⟩ = some (.int .i64 bpr) ∧ X.cell? ⟨w.heap.size + 1, 2, none⟩ = some (.int .i64 bsi) ∧ X.cell? ⟨w.heap.size + 1, 3, none⟩ = some (.int .i64 bsq)) from
    ⟨(B3.fr hX (fun x => x)).cell 0, (B3.fr hX (fun x => x)).cell 1, (B3.fr hX (fun x => x)).cell 2, (B3.fr hX (fun x => x)).cell 3, (B4.fr hX (fun x => x)).cell 0, (B4.fr hX (fun x => x)).cell 1, (B4.fr hX (fun x => x)).cell 2, (B4.fr hX (fun x => x)).cell 3⟩))
  obtain ⟨s1, s2, s3, s4, s5, s6, s7, s8⟩ := SK.out w0 (Fr.refl No w0)
  have HW0 := Lib.hid (show w0 = (w.alloc (.cells #[.int .i64 aid, .int .i64 apr, .int .i64 asi, .int .i64 asq] 23)).alloc (.cells #[.int .i64 bid, .int .i64 bpr, .int .i64 bsi, .int .i64 bsq] 23) by rw [hw0, hw1])
  have HF0 := Lib.hid F0
  have HC := Lib.hid (HCX.out w0)
  have HF1 := Lib.hid ((Fr.refl No w0).alloc (.cells #[.int .i64 aid, .int .i64 apr, .int .i64 asi, .int .i64 asq, .int .i64 bid, .int .i64 bpr, .int .i64 bsi, .int .i64 bsq] 23))
  have HS0 := Lib.hid hs0
  rw [hs0] at HC
  clear HCX b3 b4 B3 B4 hw0 hw1 hs1 F0 hs0
  by_cases hk : k = 0
  · subst hk
    have HDD := Lib.hid (show d = decide (r < 0) by rw [HD.out]; simp)
    have HO := Lib.hid (HOX.out rfl)
    clear HD HOX
    go_enter Try.func19, Try.ntmps19
    go_wp2_with fail
    rw [← HW0.out, ← HS0.out]
    refine (by rw [HS0.out]; exact HC.out : Calls Try.prog 32 #[.int .i64 y, .slice (some ⟨w0.heap.size, 0, none⟩) 2 2] _ _).mono ?_
    rintro e w2 ⟨rfl, hf⟩
    have F2 := Lib.hid (HF1.out.then0 hf)
    obtain ⟨t1, t2, t3, t4, t5, t6, t7, t8⟩ := SK.out w2 F2.out
    clear hf s1 s2 s3 s4 s5 s6 s7 s8
    have FD := Lib.hid F2.out.drew
    go_wp2
    go_region_held3 (fun w' => w'.cell? ⟨w.heap.size, 0, none⟩ = some (.int .i64 aid) ∧ w'.cell? ⟨w.heap.size, 1, none⟩ = some (.int .i64 apr) ∧ w'.cell? ⟨w.heap.size, 2, none⟩ = some (.int .i64 asi) ∧ w'.cell? ⟨w.heap.size, 3, none⟩ = some (.int .i64 asq)
        ∧ w'.cell? ⟨w.heap.size + 1, 0, none⟩ = some (.int .i64 bid) ∧ w'.cell? ⟨w.heap.size + 1, 1, none⟩ = some (.int .i64 bpr) ∧ w'.cell? ⟨w.heap.size + 1, 2, none⟩ = some (.int .i64 bsi) ∧ w'.cell? ⟨w.heap.size + 1, 3, none⟩ = some (.int .i64 bsq))
      (first | exact SK.out _ FB.out | exact SK.out _ FA.out | exact SK.out _ FD.out | go_keep)
      (first
        | (go_at_call 35; refine (order_any _ _).mono ?_; rintro e wA ⟨rfl, hwA⟩; have FA := Lib.hid (show Fr No w0 wA by rw [hwA]; exact FD.out.alloc _); have HBX := Lib.hid (show Blk wA w2.drew.heap.size 2 #[.int .i64 y] by rw [hwA]; exact Blk.new _ _ _); clear hwA)
        | (go_at_call 45; refine (HO.out _ _ HBX.out).mono ?_; rintro e wB ⟨rfl, hf⟩; have FB := Lib.hid (FA.out.then0 hf); clear hf))
    all_goals
      go_wp2
      go_ret2
      rw [HDD.out]
      exact ⟨rfl, HF0.out.then0 FB.out⟩
  · have HDD := Lib.hid (show d = false by rw [HD.out]; simp [hk])
    have hkb : (k != 0) = true := by simpa using hk
    clear HD HOX
    go_enter Try.func19, Try.ntmps19
    go_wp2_with fail
    rw [← HW0.out]
    refine HC.out.mono ?_
    rintro e w2 ⟨rfl, hf⟩
    go_wp2
    go_ret2
    rw [HDD.out]
    exact ⟨rfl, HF0.out.then0 (HF1.out.then0 hf)⟩
end Go.Proofs.Ytabajcofddhelaa
