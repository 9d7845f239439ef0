/- The walks of AgingLevels and AgingOvertakes. -/
import Derived.Test.YtabajcofddhelaaOr
namespace Go.Proofs.Ytabajcofddhelaa
open Go.RowKit Go.Wk

theorem lev_key {p s y n : Int} (y0 : 1 ≤ y) : p + (n - s) / y = (n - (s - p * y)) / y := by
  rw [show n - (s - p * y) = n - s + p * y by omega, Int.add_mul_ediv_right _ _ (by omega)]; omega

set_option maxRecDepth 100000 in
set_option maxHeartbeats 16000000 in
theorem agingLevels_walk (x z : IV) (y t : Int) (w : World) (t0 : 0 ≤ t) (t1 : t ≤ 4294967295) : Calls Try.prog 6 #[.agg #[.int .i64 x.id, .int .i64 x.pr, .int .i64 x.since, .int .i64 x.seq], .agg #[.int .i64 z.id, .int .i64 z.pr, .int .i64 z.since, .int .i64 z.seq], .int .i64 y, .int .u32 t] w fun e w' => e = .returned (.bool true) ∧ Fr No w w' := by
  have K1 := Lib.hid (fun X => Before_any x z y X)
  have hcs : (chkE y [x, z] ≠ 0 ∧ befB y x z = false) ∨ (chkE y [x, z] = 0 ∧ Ok x ∧ Ok z ∧ (1 ≤ y ∧ y ≤ 68719476736) ∧ (befB y x z = true → keyV y x ≤ keyV y z)) := by
    by_cases h : chkE y [x, z] = 0
    · right
      obtain ⟨hy, hok⟩ := chkE_ok h
      refine ⟨h, hok x (by simp), hok z (by simp), hy, fun hb => ?_⟩
      unfold befB at hb
      simp only [decide_eq_true_eq] at hb
      have := (ordI_lt y x z).1 hb.2
      omega
    · exact .inl ⟨h, befB_of_bad h⟩
  have HCS := Lib.hid hcs
  have HA := Lib.hid (show ∀ n, 0 ≤ n → n ≤ 253402300799 → ∀ x : IV, Ok x → 1 ≤ y → y ≤ 68719476736 → x.since ≤ n → levE y n ⟨0, x.pr, x.since, 0⟩ = 0 ∧ levV y n ⟨0, x.pr, x.since, 0⟩ = (n - keyV y x) / y from fun n n0 n1 x hx y0 y1 hs => by
    have h1 : chkE y [⟨0, x.pr, x.since, 0⟩] = 0 := chkE_good y0 y1 (fun z hz => by
      rw [List.mem_singleton.1 hz]; exact ⟨hx.p0, hx.p1, hx.s0, hx.s1⟩)
    have h2 : levE y n ⟨0, x.pr, x.since, 0⟩ = 0 := by
      unfold levE
      rw [if_neg (by simpa using h1), if_neg (by omega), if_neg (by show ¬ n < x.since; omega)]
    refine ⟨h2, ?_⟩
    unfold levV
    rw [if_pos h2]
    exact lev_key y0)
  have HK := Lib.hid (show ∀ x : IV, Ok x → 1 ≤ y → y ≤ 68719476736 → keyK y ⟨0, x.pr, x.since, 0⟩ = keyV y x ∧ chkE y [⟨0, x.pr, x.since, 0⟩] = 0 from fun x hx y0 y1 => by
    have h1 : chkE y [⟨0, x.pr, x.since, 0⟩] = 0 := chkE_good y0 y1 (fun z hz => by
      rw [List.mem_singleton.1 hz]; exact ⟨hx.p0, hx.p1, hx.s0, hx.s1⟩)
    exact ⟨by unfold keyK; rw [if_pos h1]; rfl, h1⟩)
  have HKB := Lib.hid (show ∀ x : IV, Ok x → 1 ≤ y → y ≤ 68719476736 → -6871947673600 ≤ keyV y x ∧ keyV y x ≤ 253402300799 ∧ keyV y x ≤ x.since from fun x hx y0 y1 => by
    have := keyV_bnd hx y0 y1
    have h2 := mul_bnd hx.p0 hx.p1 y0 y1
    refine ⟨this.1, this.2, ?_⟩
    unfold keyV; omega)
  have K6 := Lib.hid (fun X => Key_any x.pr x.since y X)
  have K7 := Lib.hid (fun X n => Level_any x.pr x.since y n X)
  have K8 := Lib.hid (fun X n => Level_any z.pr z.since y n X)
  clear hcs
  have A1 := Lib.hid (fun n h0 h1 hx h2 h3 h4 => HA.out n h0 h1 x hx h2 h3 h4)
  have A2 := Lib.hid (fun n h0 h1 hx h2 h3 h4 => HA.out n h0 h1 z hx h2 h3 h4)
  have A3 := Lib.hid (fun hx h2 h3 => HK.out x hx h2 h3)
  have A4 := Lib.hid (fun hx h2 h3 => HKB.out x hx h2 h3)
  have A5 := Lib.hid (fun hx h2 h3 => HKB.out z hx h2 h3)
  clear HA HK HKB
  have X0 := Lib.hid (fun hx : Ok x => (⟨hx.s0, hx.s1⟩ : 0 ≤ x.since ∧ x.since ≤ 253402300799))
  have Z0 := Lib.hid (fun hx : Ok z => (⟨hx.s0, hx.s1⟩ : 0 ≤ z.since ∧ z.since ≤ 253402300799))
  generalize Ok x = okx at *
  generalize Ok z = okz at *
  generalize befB y x z = a at *
  generalize chkE y [x, z] = e at *
  generalize keyV y x = kx at *
  generalize keyV y z = kz at *
  obtain ⟨xi, xp, xs, xq⟩ := x
  obtain ⟨zi, zp, zs, zq⟩ := z
  dsimp only at *
  obtain ⟨w0, hw0⟩ : ∃ w0, w0 = (w.alloc (.cells #[.int .i64 xi, .int .i64 xp, .int .i64 xs, .int .i64 xq] 23)).alloc (.cells #[.int .i64 zi, .int .i64 zp, .int .i64 zs, .int .i64 zq] 23) := ⟨_, rfl⟩
  have B := Lib.hid (show Blk w0 w.heap.size 23 #[.int .i64 xi, .int .i64 xp, .int .i64 xs, .int .i64 xq] by rw [hw0]; exact (Blk.new _ _ _).alloc _)
  have B' := Lib.hid (show Blk w0 (w.heap.size + 1) 23 #[.int .i64 zi, .int .i64 zp, .int .i64 zs, .int .i64 zq] by
    rw [hw0]
    have := Blk.new (w.alloc (.cells #[.int .i64 xi, .int .i64 xp, .int .i64 xs, .int .i64 xq] 23)) 23 #[.int .i64 zi, .int .i64 zp, .int .i64 zs, .int .i64 zq]
    rwa [World.size_alloc] at this)
  have F0 := Lib.hid (show Fr No w w0 by rw [hw0]; exact ((Fr.refl No w).alloc _).alloc _)
  have HW := Lib.hid hw0
  clear hw0
  obtain ⟨c0, c1, c2, c3⟩ := blk4 B.out
  obtain ⟨d0, d1, d2, d3⟩ := blk4 B'.out
  go_enter Try.func6, Try.ntmps6
  go_wp2_with fail
  rw [← HW.out]
  refine (K1.out _).mono ?_
  rintro x w1 ⟨rfl, hf⟩
  have F1 := Lib.hid ((Fr.refl No w0).then0 hf)
  clear hf c0 c1 c2 c3 d0 d1 d2 d3
  obtain ⟨c0, c1, c2, c3⟩ := blk4 (B.out.fr F1.out (fun x => x))
  obtain ⟨d0, d1, d2, d3⟩ := blk4 (B'.out.fr F1.out (fun x => x))
  rcases HCS.out with ⟨he, rfl⟩ | ⟨rfl, hx, hz, ⟨y0, y1⟩, hb⟩
  · have heb : (e != 0) = true := by simpa using he
    clear HCS
    go_wp2_with fail
    refine (works_any _).mono ?_
    rintro x w2 ⟨rfl, hf⟩
    go_wp2
    go_ret
    exact ⟨rfl, F0.out.then0 (F1.out.then0 hf)⟩
  · clear HCS
    obtain ⟨x0, x1⟩ := X0.out hx
    obtain ⟨z0, z1⟩ := Z0.out hz
    obtain ⟨n, hn, hnx, hnz, hn0⟩ : ∃ n : Int, n = max xs zs + t ∧ xs ≤ n ∧ zs ≤ n ∧ 0 ≤ n := ⟨_, rfl, by omega, by omega, by omega⟩
    by_cases hm : zs ≤ xs
    all_goals
      have hnn := hn
      first
        | rw [Int.max_eq_left hm] at hnn
        | rw [Int.max_eq_right (by omega)] at hnn
      clear hn
      by_cases hbig : 253402300799 < n
      · have HN := Lib.hid hnn
        rw [hnn] at hbig
        clear hnn
        go_wp2_with fail
        refine (works_any _).mono ?_
        rintro x w2 ⟨rfl, hf⟩
        go_wp2
        go_ret
        exact ⟨rfl, F0.out.then0 (F1.out.then0 hf)⟩
      · have a1 := A1.out n hn0 (by omega) hx y0 y1 hnx
        have a2 := A2.out n hn0 (by omega) hz y0 y1 hnz
        have a3 := A3.out hx y0 y1
        have a4 := A4.out hx y0 y1
        have a5 := A5.out hz y0 y1
        have L1 := Lib.hid (fun X => K7.out X n)
        have L2 := Lib.hid (fun X => K8.out X n)
        have L0 := K6
        rw [a1.1, a1.2] at L1
        rw [a2.1, a2.2] at L2
        rw [a3.1, a3.2] at L0
        have hle : a = true → (n - kz) / y ≤ (n - kx) / y := fun h => Int.ediv_le_ediv (by omega) (by have := hb h; omega)
        have HLE := Lib.hid hle
        have hpos : 0 ≤ n - kx := by omega
        have hq : 0 ≤ (n - kx) / y ∧ (n - kx) / y ≤ 9223372036854775807 := ⟨Int.ediv_nonneg hpos (by omega), by have := Int.ediv_le_self y hpos; omega⟩
        have hk0 : n - kx ≤ 9223372036854775807 := by omega
        have hyb : (y == 0) = false := by simp; omega
        rw [hnn] at L1 L2 HLE hbig hpos hq hk0 
        clear K6 K7 K8 a1 a2 a3 A1 A2 A3 A4 A5 hb hle hnx hnz
        go_wp2_with fail
        refine (L0.out _).mono ?_
        rintro x w2 ⟨rfl, hf⟩
        have F2 := Lib.hid (F1.out.then0 hf)
        clear hf c0 c1 c2 c3 d0 d1 d2 d3
        obtain ⟨c0, c1, c2, c3⟩ := blk4 (B.out.fr F2.out (fun x => x))
        obtain ⟨d0, d1, d2, d3⟩ := blk4 (B'.out.fr F2.out (fun x => x))
        go_wp2_with fail
        refine (L1.out _).mono ?_
        rintro x w3 ⟨rfl, hf⟩
        have F3 := Lib.hid (F2.out.then0 hf)
        clear hf c0 c1 c2 c3 d0 d1 d2 d3
        obtain ⟨c0, c1, c2, c3⟩ := blk4 (B.out.fr F3.out (fun x => x))
        obtain ⟨d0, d1, d2, d3⟩ := blk4 (B'.out.fr F3.out (fun x => x))
        go_wp2_with fail
        refine (L2.out _).mono ?_
        rintro x w4 ⟨rfl, hf⟩
        have F4 := Lib.hid (F3.out.then0 hf)
        clear hf c0 c1 c2 c3 d0 d1 d2 d3
        have ha2 : a = false ∨ (a = true ∧ a = true) := by cases a <;> simp
        rcases ha2 with rfl | ⟨rfl, h5⟩
        · go_wp2_with fail
          refine (works_any _).mono ?_
          rintro x w5 ⟨rfl, hf⟩
          go_wp2
          go_ret
          exact ⟨rfl, F0.out.then0 (F4.out.then0 hf)⟩
        · have hle := HLE.out rfl
          go_wp2_with fail
          refine (works_any _).mono ?_
          rintro x w5 ⟨rfl, hf⟩
          go_wp2
          go_ret
          exact ⟨rfl, F0.out.then0 (F4.out.then0 hf)⟩
end Go.Proofs.Ytabajcofddhelaa
