/- The walk of AgingEnds. -/
import Derived.Test.YtabajcofddhelaaAh
namespace Go.Proofs.Ytabajcofddhelaa
open Go.RowKit Go.Wk

set_option maxRecDepth 100000 in
set_option maxHeartbeats 16000000 in
theorem agingEnds_walk (id p s sq yr pq lt : Int) (w : World) (h2 : 0 ≤ yr ∧ yr ≤ 65535) (h3 : 0 ≤ pq ∧ pq ≤ 255) (h4 : 0 ≤ lt ∧ lt ≤ 65535) :
    Calls Try.prog 9 #[.agg #[.int .i64 id, .int .i64 p, .int .i64 s, .int .i64 sq], .int .u16 yr, .int .u8 pq, .int .u16 lt] w fun e w' => e = .returned (.bool true) ∧ Fr No w w' := by
  obtain ⟨w0, hw0⟩ : ∃ w0, w0 = w.alloc (.cells #[.int .i64 id, .int .i64 p, .int .i64 s, .int .i64 sq] 23) := ⟨_, rfl⟩
  have B := Lib.hid (show Blk w0 w.heap.size 23 #[.int .i64 id, .int .i64 p, .int .i64 s, .int .i64 sq] by rw [hw0]; exact Blk.new _ _ _)
  have F0 := Lib.hid (show Fr No w w0 by rw [hw0]; exact (Fr.refl No w).alloc _)
  have HW := Lib.hid hw0
  have hs0 : w0.heap.size = w.heap.size + 1 := by rw [hw0]; simp
  clear hw0
  obtain ⟨c0, c1, c2, c3⟩ := blk4 B.out
  by_cases hbad : p < 0 ∨ 100 < p ∨ s < 0 ∨ 137438953472 < s
  · have hw0' := HW.out
    rcases (show p < 0 ∨ (¬ p < 0 ∧ 100 < p) ∨ (¬ p < 0 ∧ ¬ 100 < p ∧ s < 0) ∨ (¬ p < 0 ∧ ¬ 100 < p ∧ ¬ s < 0 ∧ 137438953472 < s) by omega) with h | ⟨h, h'⟩ | ⟨h, h', h''⟩ | ⟨h, h', h'', h'''⟩
    all_goals
      clear hbad hs0 hw0'
      go_enter Try.func9, Try.ntmps9
      go_wp2_with fail
      rw [← HW.out]
      refine (works_any _).mono ?_
      rintro e w1 ⟨rfl, hf⟩
      go_wp2
      go_ret
      exact ⟨rfl, F0.out.then0 hf⟩
  · obtain ⟨r, hr1, hr2, hrb⟩ : ∃ r : Int, pq % 101 = r ∧ pq.tmod 101 = r ∧ 0 ≤ r ∧ r ≤ 100 := ⟨_, rfl, Int.tmod_eq_emod_of_nonneg h3.1, by omega, by omega⟩
    have b1 : ¬ p < 0 := by omega
    have b2 : ¬ 100 < p := by omega
    have b3 : ¬ s < 0 := by omega
    have b4 : ¬ 137438953472 < s := by omega
    have hmb := mul_bnd (p := 100 - p) (y := yr + 1) (by omega) (by omega) (by omega) (by omega)
    obtain ⟨q, hq⟩ : ∃ q, (100 - p) * (yr + 1) = q := ⟨_, rfl⟩
    have hq2 : q ≤ 6553600 := by
      rw [← hq]
      have h1 : (100 - p) * (yr + 1) ≤ 100 * (yr + 1) := Int.mul_le_mul_of_nonneg_right (by omega) (by omega)
      omega
    have hq0 : 0 ≤ q := by rw [← hq]; exact hmb.1
    have hw1 : IntKind.i64.wrap q = q := by simp only [IntKind.wrap_i64]; omega
    have hw2 : wrap64 q = q := by unfold wrap64; omega
    obtain ⟨t, ht⟩ : ∃ t, t = s + q + 1 + lt := ⟨_, rfl⟩
    have HOKX : Ok ⟨id, p, s, sq⟩ := ⟨by show 0 ≤ p; omega, by show p ≤ 100; omega, by show 0 ≤ s; omega, by show s ≤ _; omega⟩
    have HOKY : Ok ⟨id, r, t, sq⟩ := ⟨hrb.1, hrb.2, by show 0 ≤ t; omega, by show t ≤ _; omega⟩
    have hkk : keyV (yr + 1) ⟨id, p, s, sq⟩ < keyV (yr + 1) ⟨id, r, t, sq⟩ := by
      unfold keyV
      dsimp only
      have h1 : r * (yr + 1) ≤ 100 * (yr + 1) := Int.mul_le_mul_of_nonneg_right (by omega) (by omega)
      have h2 : (100 - p) * (yr + 1) = 100 * (yr + 1) - p * (yr + 1) := Int.sub_mul _ _ _
      omega
    have hch : chkE (yr + 1) [⟨id, p, s, sq⟩, ⟨id, r, t, sq⟩] = 0 := chkE_good (by omega) (by omega) (fun v hv => by
      simp at hv
      rcases hv with rfl | rfl
      · exact HOKX
      · exact HOKY)
    have hbe : befB (yr + 1) ⟨id, p, s, sq⟩ ⟨id, r, t, sq⟩ = true := by
      unfold befB
      simp only [decide_eq_true_eq]
      exact ⟨hch, (ordI_lt _ _ _).2 (.inl hkk)⟩
    have K1 := Lib.hid (fun X => Before_any ⟨id, p, s, sq⟩ ⟨id, r, t, sq⟩ (yr + 1) X)
    rw [hch, hbe] at K1
    have KX : ∀ x : IV, Ok x → keyK (yr + 1) ⟨0, x.pr, x.since, 0⟩ = keyV (yr + 1) x ∧ chkE (yr + 1) [⟨0, x.pr, x.since, 0⟩] = 0 := fun x hx => by
      have h1 : chkE (yr + 1) [⟨0, x.pr, x.since, 0⟩] = 0 := chkE_good (by omega) (by omega) (fun z hz => by
        rw [List.mem_singleton.1 hz]; exact ⟨hx.p0, hx.p1, hx.s0, hx.s1⟩)
      exact ⟨by unfold keyK; rw [if_pos h1]; rfl, h1⟩
    have k1 := KX _ HOKX
    have k2 := KX _ HOKY
    have K2 := Lib.hid (fun X => Key_any p s (yr + 1) X)
    have K3 := Lib.hid (fun X => Key_any r t (yr + 1) X)
    rw [k1.1, k1.2] at K2
    rw [k2.1, k2.2] at K3
    have hle : listE (yr + 1) [⟨id, r, t, sq⟩, ⟨id, p, s, sq⟩, ⟨id, r, t, sq⟩] [] = 0 := by
      unfold listE yearsE
      rw [if_neg (show ¬ (yr + 1 < 1 ∨ 68719476736 < yr + 1) by omega), if_neg (by simp), if_neg (by simp)]
      exact chkE_good (by omega) (by omega) (fun v hv => by
        simp only [List.append_nil, List.mem_cons, List.not_mem_nil, or_false] at hv
        rcases hv with rfl | rfl | rfl
        · exact HOKY
        · exact HOKX
        · exact HOKY)
    have hsp : SpanR (yr + 1) [⟨id, r, t, sq⟩, ⟨id, p, s, sq⟩, ⟨id, r, t, sq⟩] (keyV (yr + 1) ⟨id, r, t, sq⟩ - keyV (yr + 1) ⟨id, p, s, sq⟩) :=
      ⟨fun h => absurd hle h, fun h => (by cases h), fun _ _ => ⟨0, 1, by simp, by simp, rfl, fun k hk => by
        rcases (show k = 0 ∨ k = 1 ∨ k = 2 by simp at hk; omega) with rfl | rfl | rfl
        · exact Int.le_refl _
        · exact Int.le_of_lt hkk
        · exact Int.le_refl _, fun k hk => by
        rcases (show k = 0 ∨ k = 1 ∨ k = 2 by simp at hk; omega) with rfl | rfl | rfl
        · exact Int.le_of_lt hkk
        · exact Int.le_refl _
        · exact Int.le_of_lt hkk⟩⟩
    have HSP := Lib.hid hsp
    have KB := keyV_bnd HOKX (y := yr + 1) (by omega) (by omega)
    have KB' := keyV_bnd HOKY (y := yr + 1) (by omega) (by omega)
    have SV := Lib.hid (fun (X : World) => Span_any (some ⟨X.heap.size, 0, none⟩) 3 3 [⟨id, r, t, sq⟩, ⟨id, p, s, sq⟩, ⟨id, r, t, sq⟩] (yr + 1) (X.alloc (.cells (icells [⟨id, r, t, sq⟩, ⟨id, p, s, sq⟩, ⟨id, r, t, sq⟩]).toArray 23)) (reads_blk X 23 _ 3 4 rfl) (by omega))
    rw [hle] at SV
    have hdd := hkk
    generalize keyV (yr + 1) ⟨id, p, s, sq⟩ = kx at *
    generalize keyV (yr + 1) ⟨id, r, t, sq⟩ = ky at *
    simp only [icells, IV.cells, List.flatMap_cons, List.flatMap_nil, List.append_nil, List.cons_append, List.nil_append] at SV
    rw [ht] at K1 K3 SV HSP
    dsimp only at K1
    clear ht hch hbe KX k1 k2 hle hsp HOKX HOKY hkk hbad
    go_enter Try.func9, Try.ntmps9
    go_wp2_with fail
    rw [← HW.out]
    obtain ⟨w2, hw2⟩ : ∃ w2, w2 = w0.alloc (.cells #[.int .i64 id, .int .i64 r, .int .i64 (s + q + 1 + lt), .int .i64 sq] 23) := ⟨_, rfl⟩
    have BY := Lib.hid (show Blk w2 (w.heap.size + 1) 23 #[.int .i64 id, .int .i64 r, .int .i64 (s + q + 1 + lt), .int .i64 sq] by rw [hw2, ← hs0]; exact Blk.new _ _ _)
    have F2 := Lib.hid (show Fr No w0 w2 by rw [hw2]; exact (Fr.refl _ _).alloc _)
    have BX := Lib.hid (B.out.fr F2.out (fun x => x))
    rw [← hw2]
    clear hw2 c0 c1 c2 c3 hs0
    refine (K1.out _).mono ?_
    rintro e w3 ⟨rfl, hf⟩
    have F3 := Lib.hid ((Fr.refl No w2).then0 hf)
    clear hf
    obtain ⟨c0, c1, c2, c3⟩ := blk4 (BX.out.fr F3.out (fun x => x))
    obtain ⟨d0, d1, d2, d3⟩ := blk4 (BY.out.fr F3.out (fun x => x))
    go_wp2_with fail
    refine (K2.out _).mono ?_
    rintro e w4 ⟨rfl, hf⟩
    have F4 := Lib.hid (F3.out.then0 hf)
    clear hf c0 c1 c2 c3 d0 d1 d2 d3
    obtain ⟨c0, c1, c2, c3⟩ := blk4 (BX.out.fr F4.out (fun x => x))
    obtain ⟨d0, d1, d2, d3⟩ := blk4 (BY.out.fr F4.out (fun x => x))
    go_wp2_with fail
    refine (K3.out _).mono ?_
    rintro e w5 ⟨rfl, hf⟩
    have F5 := Lib.hid (F4.out.then0 hf)
    clear hf c0 c1 c2 c3 d0 d1 d2 d3
    obtain ⟨c0, c1, c2, c3⟩ := blk4 (BX.out.fr F5.out (fun x => x))
    obtain ⟨d0, d1, d2, d3⟩ := blk4 (BY.out.fr F5.out (fun x => x))
    go_wp2_with fail
    refine (SV.out _).mono ?_
    rintro e w6 ⟨⟨v, rfl, hv⟩, hf⟩
    obtain rfl : v = ky - kx := hv.one HSP.out
    have F6 := Lib.hid ((F5.out.alloc _).then0 hf)
    clear hf hv c0 c1 c2 c3 d0 d1 d2 d3
    go_wp2_with fail
    refine (works_any _).mono ?_
    rintro e w7 ⟨rfl, hf⟩
    go_wp2
    go_ret
    exact ⟨rfl, F0.out.then0 (F2.out.then0 (F6.out.then0 hf))⟩
end Go.Proofs.Ytabajcofddhelaa
