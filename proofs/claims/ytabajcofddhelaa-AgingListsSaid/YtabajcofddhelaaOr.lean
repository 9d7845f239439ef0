/- The walk of AgingOrders. -/
import Derived.Test.YtabajcofddhelaaKy
namespace Go.Proofs.Ytabajcofddhelaa
open Go.RowKit Go.Wk

theorem firstE_ok {l : List IV} (h : ∀ x ∈ l, Ok x) : firstE l = 0 := by
  have := chkE_good (y := 1) (l := l) (by omega) (by omega) h
  unfold chkE at this
  rw [if_neg (by simp [yearsE])] at this
  exact this
theorem oneE_ok {x : IV} (h : Ok x) : oneE x = 0 := by
  have h1 := h.p0; have h2 := h.p1; have h3 := h.s0; have h4 := h.s1
  unfold oneE
  rw [if_neg (by omega), if_neg (by omega)]
theorem oneE_bad {x : IV} (h : ¬ Ok x) : oneE x ≠ 0 := fun e => by
  rcases oneE_cases x with ⟨_, h2⟩ | ⟨_, _, h2⟩ | ⟨_, _, _, h2⟩ | ⟨_, _, _, _, h2⟩ | ⟨h1, h2, h3, h4, _⟩
  · omega
  · omega
  · omega
  · omega
  · exact h ⟨by omega, by omega, by omega, by omega⟩
theorem chkE_two {y : Int} (x z : IV) (y0 : 1 ≤ y) (y1 : y ≤ 68719476736) (hx : Ok x) : chkE y [x, z] = oneE z := by
  have hy : yearsE y = 0 := by unfold yearsE; rw [if_neg (by omega)]
  unfold chkE
  rw [hy, if_neg (by simp)]
  show (if oneE x ≠ 0 then oneE x else if oneE z ≠ 0 then oneE z else 0) = oneE z
  rw [oneE_ok hx, if_neg (by simp)]
  by_cases h : oneE z = 0
  · rw [if_neg (by simpa using h), h]
  · rw [if_pos h]

/-- How two items stand to one another. -/
theorem bef_cases (y : Int) (x z : IV) (h : chkE y [x, z] = 0) (h' : chkE y [z, x] = 0) :
    (keyV y x < keyV y z ∧ befB y x z = true ∧ befB y z x = false) ∨ (keyV y z < keyV y x ∧ befB y x z = false ∧ befB y z x = true) ∨
    (keyV y x = keyV y z ∧ x.seq < z.seq ∧ befB y x z = true ∧ befB y z x = false) ∨ (keyV y x = keyV y z ∧ z.seq < x.seq ∧ befB y x z = false ∧ befB y z x = true) ∨
    (keyV y x = keyV y z ∧ x.seq = z.seq ∧ x.id < z.id ∧ befB y x z = true ∧ befB y z x = false) ∨ (keyV y x = keyV y z ∧ x.seq = z.seq ∧ z.id < x.id ∧ befB y x z = false ∧ befB y z x = true) ∨
    (keyV y x = keyV y z ∧ x.seq = z.seq ∧ x.id = z.id ∧ befB y x z = false ∧ befB y z x = false) := by
  have e1 : befB y x z = decide (ordI y x z < 0) := by unfold befB; rw [h]; simp
  have e2 : befB y z x = decide (ordI y z x < 0) := by unfold befB; rw [h']; simp
  have o1 := ordI_lt y x z
  have o2 := ordI_lt y z x
  have f1 : ∀ P : Prop, [Decidable P] → (ordI y x z < 0 ↔ P) → befB y x z = decide P := fun P _ hp => by rw [e1]; exact decide_eq_decide.2 hp
  have f2 : ∀ P : Prop, [Decidable P] → (ordI y z x < 0 ↔ P) → befB y z x = decide P := fun P _ hp => by rw [e2]; exact decide_eq_decide.2 hp
  rcases Int.lt_trichotomy (keyV y x) (keyV y z) with k | k | k
  · left; exact ⟨k, by rw [f1 _ o1]; simp; omega, by rw [f2 _ o2]; simp; omega⟩
  · rcases Int.lt_trichotomy x.seq z.seq with s | s | s
    · right; right; left; exact ⟨k, s, by rw [f1 _ o1]; simp; omega, by rw [f2 _ o2]; simp; omega⟩
    · rcases Int.lt_trichotomy x.id z.id with i | i | i
      · right; right; right; right; left; exact ⟨k, s, i, by rw [f1 _ o1]; simp; omega, by rw [f2 _ o2]; simp; omega⟩
      · right; right; right; right; right; right; exact ⟨k, s, i, by rw [f1 _ o1]; simp; omega, by rw [f2 _ o2]; simp; omega⟩
      · right; right; right; right; right; left; exact ⟨k, s, i, by rw [f1 _ o1]; simp; omega, by rw [f2 _ o2]; simp; omega⟩
    · right; right; right; left; exact ⟨k, s, by rw [f1 _ o1]; simp; omega, by rw [f2 _ o2]; simp; omega⟩
  · right; left; exact ⟨k, by rw [f1 _ o1]; simp; omega, by rw [f2 _ o2]; simp; omega⟩
theorem bef_trans (y : Int) (x z v : IV) (h1 : befB y x z = true) (h2 : befB y z v = true) (h3 : chkE y [x, v] = 0) : befB y x v = true := by
  unfold befB at *
  simp only [decide_eq_true_eq] at *
  refine ⟨h3, ?_⟩
  have a := (ordI_lt y x z).1 h1.2
  have b := (ordI_lt y z v).1 h2.2
  rw [ordI_lt]
  omega
theorem bef_self (y : Int) (x : IV) : befB y x x = false := by
  unfold befB
  have := ordI_lt y x x
  simp only [decide_eq_false_iff_not]
  rw [this]
  omega

theorem chk_swap {y : Int} {x z : IV} (h : chkE y [x, z] = 0) : chkE y [z, x] = 0 := by
  obtain ⟨⟨y0, y1⟩, hok⟩ := chkE_ok h
  exact chkE_good y0 y1 (fun v hv => hok v (by simp at hv ⊢; rcases hv with h | h <;> simp [h]))
theorem befB_of_bad {y : Int} {x z : IV} (h : chkE y [x, z] ≠ 0) : befB y x z = false := by
  unfold befB; simp [h]

set_option maxRecDepth 100000 in
set_option maxHeartbeats 16000000 in
theorem agingOrders_walk (x z v : IV) (y : Int) (w : World) : Calls Try.prog 5 #[.agg #[.int .i64 x.id, .int .i64 x.pr, .int .i64 x.since, .int .i64 x.seq], .agg #[.int .i64 z.id, .int .i64 z.pr, .int .i64 z.since, .int .i64 z.seq], .agg #[.int .i64 v.id, .int .i64 v.pr, .int .i64 v.since, .int .i64 v.seq], .int .i64 y] w fun e w' => e = .returned (.bool true) ∧ Fr No w w' := by
  have K1 := Lib.hid (fun X => Before_any x z y X)
  have K2 := Lib.hid (fun X => Before_any z x y X)
  have K3 := Lib.hid (fun X => Before_any z v y X)
  have K4 := Lib.hid (fun X => Before_any x v y X)
  have K5 := Lib.hid (fun X => Before_any x x y X)
  have K6 := Lib.hid (fun X => Key_any x.pr x.since y X)
  have K7 := Lib.hid (fun X => Key_any z.pr z.since y X)
  have hcs : (chkE y [x, z] ≠ 0 ∧ chkE y [z, x] ≠ 0 ∧ befB y x z = false ∧ befB y z x = false) ∨ (chkE y [x, z] = 0 ∧ chkE y [z, x] = 0 ∧ chkE y [x, x] = 0 ∧ befB y x x = false ∧ keyK y ⟨0, x.pr, x.since, 0⟩ = keyV y x ∧ keyK y ⟨0, z.pr, z.since, 0⟩ = keyV y z ∧ chkE y [z, v] = chkE y [x, v] ∧
      (chkE y [x, v] = 0 → befB y x z = true → befB y z v = true → befB y x v = true)) := by
    by_cases h : chkE y [x, z] = 0
    · right
      obtain ⟨⟨y0, y1⟩, hok⟩ := chkE_ok h
      have hx := hok x (by simp)
      have hz := hok z (by simp)
      have KX : ∀ x : IV, Ok x → keyK y ⟨0, x.pr, x.since, 0⟩ = keyV y x := fun x hx => by
        have h1 : chkE y [⟨0, x.pr, x.since, 0⟩] = 0 := chkE_good y0 y1 (fun z hz => by
          rw [List.mem_singleton.1 hz]; exact ⟨hx.p0, hx.p1, hx.s0, hx.s1⟩)
        unfold keyK; rw [if_pos h1]; rfl
      exact ⟨h, chk_swap h, chkE_good y0 y1 (fun u hu => by simp at hu; rw [hu]; exact hx), bef_self y x, KX x hx, KX z hz, by rw [chkE_two z v y0 y1 hz, chkE_two x v y0 y1 hx], fun h3 h1 h2 => bef_trans y x z v h1 h2 h3⟩
    · left
      have h2 : chkE y [z, x] ≠ 0 := fun e => h (chk_swap e)
      exact ⟨h, h2, befB_of_bad h, befB_of_bad h2⟩
  have HBC := Lib.hid (bef_cases y x z)
  generalize befB y x z = a at *
  generalize befB y z x = b at *
  generalize befB y z v = c at *
  generalize befB y x v = d at *
  generalize befB y x x = own at *
  generalize chkE y [x, z] = e at *
  generalize chkE y [z, x] = f at *
  generalize chkE y [z, v] = g at *
  generalize chkE y [x, v] = h at *
  generalize chkE y [x, x] = i at *
  generalize keyK y ⟨0, x.pr, x.since, 0⟩ = k at *
  generalize keyK y ⟨0, z.pr, z.since, 0⟩ = m at *
  generalize keyV y x = kx at *
  generalize keyV y z = kz at *
  generalize chkE y [⟨0, x.pr, x.since, 0⟩] = j1 at *
  generalize chkE y [⟨0, z.pr, z.since, 0⟩] = j2 at *
  obtain ⟨xi, xp, xs, xq⟩ := x
  obtain ⟨zi, zp, zs, zq⟩ := z
  obtain ⟨vi, vp, vs, vq⟩ := v
  dsimp only at *
  obtain ⟨w0, hw0⟩ : ∃ w0, w0 = ((w.alloc (.cells #[.int .i64 xi, .int .i64 xp, .int .i64 xs, .int .i64 xq] 23)).alloc (.cells #[.int .i64 zi, .int .i64 zp, .int .i64 zs, .int .i64 zq] 23)).alloc (.cells #[.int .i64 vi, .int .i64 vp, .int .i64 vs, .int .i64 vq] 23) := ⟨_, rfl⟩
  have B := Lib.hid (show Blk w0 w.heap.size 23 #[.int .i64 xi, .int .i64 xp, .int .i64 xs, .int .i64 xq] by rw [hw0]; exact ((Blk.new _ _ _).alloc _).alloc _)
  have B' := Lib.hid (show Blk w0 (w.heap.size + 1) 23 #[.int .i64 zi, .int .i64 zp, .int .i64 zs, .int .i64 zq] by
    rw [hw0]
    have := (Blk.new (w.alloc (.cells #[.int .i64 xi, .int .i64 xp, .int .i64 xs, .int .i64 xq] 23)) 23 #[.int .i64 zi, .int .i64 zp, .int .i64 zs, .int .i64 zq]).alloc (.cells #[.int .i64 vi, .int .i64 vp, .int .i64 vs, .int .i64 vq] 23)
    rwa [World.size_alloc] at this)
  have B'' := Lib.hid (show Blk w0 (w.heap.size + 1 + 1) 23 #[.int .i64 vi, .int .i64 vp, .int .i64 vs, .int .i64 vq] by
    rw [hw0]
    have := Blk.new ((w.alloc (.cells #[.int .i64 xi, .int .i64 xp, .int .i64 xs, .int .i64 xq] 23)).alloc (.cells #[.int .i64 zi, .int .i64 zp, .int .i64 zs, .int .i64 zq] 23)) 23 #[.int .i64 vi, .int .i64 vp, .int .i64 vs, .int .i64 vq]
    rwa [World.size_alloc, World.size_alloc] at this)
  have F0 := Lib.hid (show Fr No w w0 by rw [hw0]; exact (((Fr.refl No w).alloc _).alloc _).alloc _)
  have HW := Lib.hid hw0
  clear hw0
  obtain ⟨c0, c1, c2, c3⟩ := blk4 B.out
  obtain ⟨d0, d1, d2, d3⟩ := blk4 B'.out
  obtain ⟨e0, e1, e2, e3⟩ := blk4 B''.out
  have HCS := Lib.hid hcs
  clear hcs
  go_enter Try.func5, Try.ntmps5
  go_wp2_with fail
  rw [← HW.out]
  refine (K1.out _).mono ?_
  rintro x w1 ⟨rfl, hf⟩
  have F1 := Lib.hid ((Fr.refl No w0).then0 hf)
  clear hf c0 c1 c2 c3 d0 d1 d2 d3 e0 e1 e2 e3
  obtain ⟨c0, c1, c2, c3⟩ := blk4 (B.out.fr F1.out (fun x => x))
  obtain ⟨d0, d1, d2, d3⟩ := blk4 (B'.out.fr F1.out (fun x => x))
  obtain ⟨e0, e1, e2, e3⟩ := blk4 (B''.out.fr F1.out (fun x => x))
  go_wp2_with fail
  refine (K2.out _).mono ?_
  rintro x w2 ⟨rfl, hf⟩
  have F2 := Lib.hid (F1.out.then0 hf)
  clear hf c0 c1 c2 c3 d0 d1 d2 d3 e0 e1 e2 e3
  obtain ⟨c0, c1, c2, c3⟩ := blk4 (B.out.fr F2.out (fun x => x))
  obtain ⟨d0, d1, d2, d3⟩ := blk4 (B'.out.fr F2.out (fun x => x))
  obtain ⟨e0, e1, e2, e3⟩ := blk4 (B''.out.fr F2.out (fun x => x))
  go_wp2_with fail
  refine (K3.out _).mono ?_
  rintro x w3 ⟨rfl, hf⟩
  have F3 := Lib.hid (F2.out.then0 hf)
  clear hf c0 c1 c2 c3 d0 d1 d2 d3 e0 e1 e2 e3
  obtain ⟨c0, c1, c2, c3⟩ := blk4 (B.out.fr F3.out (fun x => x))
  obtain ⟨d0, d1, d2, d3⟩ := blk4 (B'.out.fr F3.out (fun x => x))
  obtain ⟨e0, e1, e2, e3⟩ := blk4 (B''.out.fr F3.out (fun x => x))
  go_wp2_with fail
  refine (K4.out _).mono ?_
  rintro x w4 ⟨rfl, hf⟩
  have F4 := Lib.hid (F3.out.then0 hf)
  clear hf c0 c1 c2 c3 d0 d1 d2 d3 e0 e1 e2 e3
  obtain ⟨c0, c1, c2, c3⟩ := blk4 (B.out.fr F4.out (fun x => x))
  obtain ⟨d0, d1, d2, d3⟩ := blk4 (B'.out.fr F4.out (fun x => x))
  go_wp2_with fail
  refine (K5.out _).mono ?_
  rintro x w5 ⟨rfl, hf⟩
  have F5 := Lib.hid (F4.out.then0 hf)
  clear hf c0 c1 c2 c3 d0 d1 d2 d3
  obtain ⟨c0, c1, c2, c3⟩ := blk4 (B.out.fr F5.out (fun x => x))
  obtain ⟨d0, d1, d2, d3⟩ := blk4 (B'.out.fr F5.out (fun x => x))
  rcases HCS.out with ⟨he, hf', rfl, rfl⟩ | ⟨rfl, rfl, rfl, rfl, rfl, rfl, rfl, hd⟩
  · have heb : (e != 0) = true := by simpa using he
    clear HCS HBC
    go_wp2_with fail
    refine (works_any _).mono ?_
    rintro x w6 ⟨rfl, hf⟩
    go_wp2
    go_ret
    exact ⟨rfl, F0.out.then0 (F5.out.then0 hf)⟩
  · have HD := Lib.hid hd
    have hbc := HBC.out rfl rfl
    clear hd HCS HBC
    go_wp2_with fail
    refine (K6.out _).mono ?_
    rintro x w6 ⟨rfl, hf⟩
    have F6 := Lib.hid (F5.out.then0 hf)
    clear hf c0 c1 c2 c3 d0 d1 d2 d3
    obtain ⟨c0, c1, c2, c3⟩ := blk4 (B.out.fr F6.out (fun x => x))
    obtain ⟨d0, d1, d2, d3⟩ := blk4 (B'.out.fr F6.out (fun x => x))
    go_wp2_with fail
    refine (K7.out _).mono ?_
    rintro x w7 ⟨rfl, hf⟩
    have F7 := Lib.hid (F6.out.then0 hf)
    clear hf c0 c1 c2 c3 d0 d1 d2 d3
    obtain ⟨c0, c1, c2, c3⟩ := blk4 (B.out.fr F7.out (fun x => x))
    obtain ⟨d0, d1, d2, d3⟩ := blk4 (B'.out.fr F7.out (fun x => x))
    have hgc : (g ≠ 0) ∨ (g = 0 ∧ (a = false ∨ (a = true ∧ c = false) ∨ (a = true ∧ c = true ∧ d = true))) := by
      by_cases hg : g = 0
      · right
        refine ⟨hg, ?_⟩
        have := HD.out hg
        revert this
        cases a <;> cases c <;> cases d <;> simp
      · exact .inl hg
    have HGC := Lib.hid hgc
    clear hgc HD
    rcases hbc with ⟨h1, rfl, rfl⟩ | ⟨h1, rfl, rfl⟩ | ⟨h1, h2, rfl, rfl⟩ | ⟨h1, h2, rfl, rfl⟩ | ⟨h1, h2, h3, rfl, rfl⟩ | ⟨h1, h2, h3, rfl, rfl⟩ | ⟨h1, h2, h3, rfl, rfl⟩
    all_goals
      have t1 : ¬ k < k := by omega
      first
        | (have u1 : (k == m) = false := by simp; omega)
        | (subst h1; first
            | (have u2 : (xq == zq) = false := by simp; omega)
            | (subst h2; first
                | (have u3 : (xi == zi) = false := by simp; omega)
                | subst h3))
      try have t2 : ¬ m < k := by omega
      try have t3 : ¬ k < m := by omega
      rcases HGC.out with hg | ⟨rfl, hg | ⟨h5, rfl⟩ | ⟨h5, rfl, rfl⟩⟩
      all_goals
        first | (exfalso; revert hg; simp; done) | (exfalso; revert h5; simp; done) | skip
        try have hgb : (g != 0) = true := by simpa using hg
        go_wp2_with fail
    all_goals
      refine (works_any _).mono ?_
      rintro x w8 ⟨rfl, hf⟩
      go_wp2
      go_ret
      exact ⟨rfl, F0.out.then0 (F7.out.then0 hf)⟩
end Go.Proofs.Ytabajcofddhelaa
