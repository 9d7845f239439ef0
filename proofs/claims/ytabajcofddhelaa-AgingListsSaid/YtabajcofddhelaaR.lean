/- The document's one, check, Check, Key, Level, Overtake, before, Before. -/
import Derived.Test.YtabajcofddhelaaF
namespace Go.Proofs.Ytabajcofddhelaa
open Go.RowKit Go.Wk

theorem one_any (id p s sq : Int) (w : World) : Calls Try.prog 44 #[.int .i64 p, .int .i64 s] w fun e w' => e = .returned (.int .i64 (oneE ⟨id, p, s, sq⟩)) ∧ w' = w := by
  have hcs := oneE_cases ⟨id, p, s, sq⟩
  dsimp only at hcs
  rcases hcs with ⟨h1, h⟩ | ⟨h1, h2, h⟩ | ⟨h1, h2, h3, h⟩ | ⟨h1, h2, h3, h4, h⟩ | ⟨h1, h2, h3, h4, h⟩
  all_goals
    rw [h]
    clear h
    go_enter Try.func44, Try.ntmps44
    go_wp2
    go_ret
    exact ⟨rfl, rfl⟩

theorem rcheck_loop (A : Option Addr) (m c : Nat) (l : List IV) (y : Int) (w : World) (h : Reads w w.heap.size 4 A m (icells l)) (hm : m ≤ 9223372036854775807) :
    Calls Try.prog 34 #[.int .i64 y, .slice A m c] w fun e w' => e = .returned (.int .i64 (chkE y l)) ∧ Fr No w w' := by
  have HR := Lib.hid h
  have HL := Lib.hid (reads_ilen h)
  obtain ⟨Y, hY, hYc⟩ : ∃ Y, Y = yearsE y ∧ ((y < 1 ∧ Y = 2) ∨ (¬ y < 1 ∧ 68719476736 < y ∧ Y = 2) ∨ (¬ y < 1 ∧ ¬ 68719476736 < y ∧ Y = 0)) := by
    refine ⟨_, rfl, ?_⟩
    unfold yearsE
    by_cases h1 : y < 1
    · left; exact ⟨h1, by rw [if_pos (.inl h1)]⟩
    · by_cases h2 : 68719476736 < y
      · right; left; exact ⟨h1, h2, by rw [if_pos (.inr h2)]⟩
      · right; right; exact ⟨h1, h2, by rw [if_neg (by omega)]⟩
  have HS := Lib.hid (show chkE y l = if Y ≠ 0 then Y else firstE (l.drop 0) by rw [hY]; rfl)
  clear h hY
  generalize chkE y l = r at *
  rcases hYc with ⟨h1, rfl⟩ | ⟨h1, h2, rfl⟩ | ⟨h1, h2, rfl⟩
  all_goals
    go_enter Try.func34, Try.ntmps34
    go_wp2
    go_loopw [5, 6] (fun ev i wr => ∃ (k : Nat) (E : Int) (q : Nat), i = .int .i64 k ∧ k ≤ m ∧ ev = .int .i64 E ∧ wr = w.drewN q ∧ Hid (r = if E ≠ 0 then E else firstE (l.drop k))) (fun _ i _ => m - (intOf i).toNat)
    case atStart => exact ⟨0, _, 0, rfl, Nat.zero_le _, rfl, rfl, HS⟩
    case round =>
      clear HS
      obtain ⟨k, E, q, rfl, hk, rfl, rfl, HI⟩ := hrel
      by_cases hE : E = 0
      · rw [if_neg (by simpa using hE)] at HI
        have hEb : (E == 0) = true := by simpa using hE
        by_cases hlt : k < m
        · obtain ⟨g, off, rfl, hg, _, c0, c1, c2, c3⟩ := reads_item HR.out hlt
          have HD := Lib.hid (show r = if oneE (l.getD k IV.zero) ≠ 0 then oneE (l.getD k IV.zero) else firstE (l.drop (k + 1)) by
            rw [HI.out, List.drop_eq_getElem_cons (by rw [HL.out]; exact hlt)]
            have e : l.getD k IV.zero = l[k]'(by rw [HL.out]; exact hlt) := by simp [show k < l.length by rw [HL.out]; exact hlt]
            rw [e]
            rfl)
          generalize l.getD k IV.zero = x at *
          obtain ⟨id, pr, since, seq⟩ := x
          dsimp only at c1 c2
          have HO := Lib.hid (fun X => one_any id pr since seq X)
          generalize oneE ⟨id, pr, since, seq⟩ = E2 at *
          obtain ⟨wm, HWM⟩ : ∃ wm : World, Hid (wm = w.drewN q) := ⟨_, Lib.hid rfl⟩
          rw [← HWM.out]
          have d1 : wm.cell? ⟨g, off + k * 4 + 1, none⟩ = some (.int .i64 pr) := by rw [HWM.out]; exact c1
          have d2 : wm.cell? ⟨g, off + k * 4 + 2, none⟩ = some (.int .i64 since) := by rw [HWM.out]; exact c2
          have hlt2 : (k : Int) < (m : Int) := by omega
          clear c0 c1 c2 c3 hE
          go_wp2
          go_quiet ((go_at_call 44; exact Calls.quiet_of_same (HO.out _)))
          go_wp2
          go_roundw
          case rel => exact ⟨k + 1, E2, q + nq, by go_num, by omega, rfl, by rw [HWM.out, World.drewN_drewN], HD⟩
          case measure => simp [intOf]; omega
        · have HD := Lib.hid (show r = E by rw [HI.out, List.drop_eq_nil_of_le (by rw [HL.out]; omega), hE]; rfl)
          have hlt2 : ¬ (k : Int) < (m : Int) := by omega
          clear hE
          go_wp2
          go_ret
          exact ⟨ret1i HD.out.symm, (Fr.refl No w).drewN _⟩
      · rw [if_pos hE] at HI
        have hEb : (E == 0) = false := by simpa using hE
        clear hE
        by_cases hlt : k < m
        all_goals
          go_wp2
          go_ret
          exact ⟨ret1i HI.out.symm, (Fr.refl No w).drewN _⟩

theorem rcheck1 (x : IV) (y : Int) (w : World) : Calls Try.prog 34 #[.int .i64 y, .slice (some ⟨w.heap.size, 0, none⟩) 1 1] (w.alloc (.cells #[.int .i64 x.id, .int .i64 x.pr, .int .i64 x.since, .int .i64 x.seq] 23)) fun e w' => e = .returned (.int .i64 (chkE y [x])) ∧ Fr No (w.alloc (.cells #[.int .i64 x.id, .int .i64 x.pr, .int .i64 x.since, .int .i64 x.seq] 23)) w' :=
  rcheck_loop _ 1 1 [x] y _ (reads1 w x) (by omega)
theorem rcheck2 (x z : IV) (y : Int) (w : World) : Calls Try.prog 34 #[.int .i64 y, .slice (some ⟨w.heap.size, 0, none⟩) 2 2] (w.alloc (.cells #[.int .i64 x.id, .int .i64 x.pr, .int .i64 x.since, .int .i64 x.seq, .int .i64 z.id, .int .i64 z.pr, .int .i64 z.since, .int .i64 z.seq] 23)) fun e w' => e = .returned (.int .i64 (chkE y [x, z])) ∧ Fr No (w.alloc (.cells #[.int .i64 x.id, .int .i64 x.pr, .int .i64 x.since, .int .i64 x.seq, .int .i64 z.id, .int .i64 z.pr, .int .i64 z.since, .int .i64 z.seq] 23)) w' :=
  rcheck_loop _ 2 2 [x, z] y _ (reads2 w x z) (by omega)
theorem rCheck_any (x : IV) (y : Int) (w : World) : Calls Try.prog 17 #[.agg #[.int .i64 x.id, .int .i64 x.pr, .int .i64 x.since, .int .i64 x.seq], .int .i64 y] w fun e w' => e = .returned (.int .i64 (chkE y [x])) ∧ Fr No w w' := by
  have HC := Lib.hid (rcheck1 x y (w.alloc (.cells #[.int .i64 x.id, .int .i64 x.pr, .int .i64 x.since, .int .i64 x.seq] 23)))
  have HF := Lib.hid (((Fr.refl No w).alloc (.cells #[.int .i64 x.id, .int .i64 x.pr, .int .i64 x.since, .int .i64 x.seq] 23)).alloc (.cells #[.int .i64 x.id, .int .i64 x.pr, .int .i64 x.since, .int .i64 x.seq] 23))
  rw [World.size_alloc] at HC
  go_enter Try.func17, Try.ntmps17
  go_wp2_with fail
  refine HC.out.mono ?_
  rintro e w1 ⟨rfl, hf⟩
  go_wp2
  go_ret
  exact ⟨rfl, HF.out.then0 hf⟩

theorem rKey_any (p s y : Int) (w : World) : Calls Try.prog 13 #[.int .i64 p, .int .i64 s, .int .i64 y] w fun e w' => e = .returned (.tuple #[.int .i64 (keyK y ⟨0, p, s, 0⟩), .int .i64 (chkE y [⟨0, p, s, 0⟩])]) ∧ Fr No w w' := by
  have HC := Lib.hid (rcheck1 ⟨0, p, s, 0⟩ y w)
  have HF := Lib.hid ((Fr.refl No w).alloc (.cells #[.int .i64 0, .int .i64 p, .int .i64 s, .int .i64 0] 23))
  dsimp only at HC
  unfold keyK
  by_cases hk : chkE y [⟨0, p, s, 0⟩] = 0
  · obtain ⟨⟨y0, y1⟩, hok⟩ := chkE_ok hk
    obtain ⟨p0, p1, s0, s1⟩ := hok _ (List.mem_singleton.2 rfl)
    dsimp only at p0 p1 s0 s1
    rw [hk] at HC ⊢
    rw [if_pos rfl]
    have HK := Lib.hid (show keyV y ⟨0, p, s, 0⟩ = s - p * y from rfl)
    obtain ⟨hb0, hb1⟩ := mul_bnd p0 p1 y0 y1
    obtain ⟨q, hq⟩ : ∃ q, p * y = q := ⟨_, rfl⟩
    rw [hq] at hb0 hb1 HK
    have hw1 : IntKind.i64.wrap q = q := by simp only [IntKind.wrap_i64]; omega
    have hw2 : wrap64 q = q := by unfold wrap64; omega
    clear hk hok
    generalize keyV y ⟨0, p, s, 0⟩ = r at *
    go_enter Try.func13, Try.ntmps13
    go_wp2_with fail
    refine HC.out.mono ?_
    rintro e w1 ⟨rfl, hf⟩
    go_wp2
    go_ret2
    exact ⟨ret2i HK.out.symm, HF.out.then0 hf⟩
  · rw [if_neg hk]
    have hkb : (chkE y [⟨0, p, s, 0⟩] != 0) = true := by simpa using hk
    generalize chkE y [⟨0, p, s, 0⟩] = k at *
    go_enter Try.func13, Try.ntmps13
    go_wp2_with fail
    refine HC.out.mono ?_
    rintro e w1 ⟨rfl, hf⟩
    go_wp2
    go_ret2
    exact ⟨rfl, HF.out.then0 hf⟩

set_option maxHeartbeats 1000000 in
theorem rLevel_any (p s y n : Int) (w : World) : Calls Try.prog 15 #[.int .i64 p, .int .i64 s, .int .i64 y, .int .i64 n] w fun e w' => e = .returned (.tuple #[.int .i64 (levV y n ⟨0, p, s, 0⟩), .int .i64 (levE y n ⟨0, p, s, 0⟩)]) ∧ Fr No w w' := by
  have HC := Lib.hid (rcheck1 ⟨0, p, s, 0⟩ y w)
  have HF := Lib.hid ((Fr.refl No w).alloc (.cells #[.int .i64 0, .int .i64 p, .int .i64 s, .int .i64 0] 23))
  dsimp only at HC
  unfold levV
  by_cases hk : chkE y [⟨0, p, s, 0⟩] = 0
  · obtain ⟨⟨y0, y1⟩, hok⟩ := chkE_ok hk
    have ho := hok _ (List.mem_singleton.2 rfl)
    obtain ⟨p0, p1, s0, s1⟩ := ho
    dsimp only at p0 p1 s0 s1
    have hcs := levE_cases y n _ hk
    rw [hk] at HC
    dsimp only at hcs
    clear hk hok
    rcases hcs with ⟨h1, h⟩ | ⟨h1, h2, h⟩ | ⟨h1, h2, h3, h⟩ | ⟨h1, h2, h3, h⟩
    case inr.inr.inr =>
      rw [h, if_pos rfl]
      clear h
      obtain ⟨hq1, hq2⟩ := div_bnd (d := n - s) (y := y) (by omega) (by omega) y0
      have hy : (y == 0) = false := by simp; omega
      have hd0 : 0 ≤ n - s := by omega
      go_enter Try.func15, Try.ntmps15
      go_wp2_with fail
      refine HC.out.mono ?_
      rintro e w1 ⟨rfl, hf⟩
      have HF1 := Lib.hid (HF.out.then0 hf)
      clear hf
      go_wp2
      go_ret2
      exact ⟨rfl, HF1.out⟩
    all_goals
      rw [h, if_neg (by omega)]
      clear h
      go_enter Try.func15, Try.ntmps15
      go_wp2_with fail
      refine HC.out.mono ?_
      rintro e w1 ⟨rfl, hf⟩
      go_wp2
      go_ret2
      exact ⟨rfl, HF.out.then0 hf⟩
  · have hE : levE y n ⟨0, p, s, 0⟩ = chkE y [⟨0, p, s, 0⟩] := by unfold levE; rw [if_pos hk]
    rw [hE, if_neg hk]
    have hkb : (chkE y [⟨0, p, s, 0⟩] != 0) = true := by simpa using hk
    clear hE
    generalize chkE y [⟨0, p, s, 0⟩] = k at *
    go_enter Try.func15, Try.ntmps15
    go_wp2_with fail
    refine HC.out.mono ?_
    rintro e w1 ⟨rfl, hf⟩
    go_wp2
    go_ret2
    exact ⟨rfl, HF.out.then0 hf⟩

set_option maxHeartbeats 1000000 in
theorem rOvertake_any (hi lo y : Int) (w : World) : Calls Try.prog 22 #[.int .i64 hi, .int .i64 lo, .int .i64 y] w fun e w' => e = .returned (.tuple #[.int .i64 (ovV y hi lo), .int .i64 (ovE y hi lo)]) ∧ Fr No w w' := by
  have HC := Lib.hid (rcheck2 ⟨0, hi, 0, 0⟩ ⟨0, lo, 0, 0⟩ y w)
  have HF := Lib.hid ((Fr.refl No w).alloc (.cells #[.int .i64 0, .int .i64 hi, .int .i64 0, .int .i64 0, .int .i64 0, .int .i64 lo, .int .i64 0, .int .i64 0] 23))
  dsimp only at HC
  by_cases hk : chkE y [⟨0, hi, 0, 0⟩, ⟨0, lo, 0, 0⟩] = 0
  · obtain ⟨⟨y0, y1⟩, hok⟩ := chkE_ok hk
    obtain ⟨p0, p1, _, _⟩ := hok ⟨0, hi, 0, 0⟩ (by simp)
    obtain ⟨q0, q1, _, _⟩ := hok ⟨0, lo, 0, 0⟩ (by simp)
    dsimp only at p0 p1 q0 q1
    rw [hk] at HC
    clear hok
    by_cases hl : hi < lo
    · have hE : ovE y hi lo = 8 := by unfold ovE; rw [if_neg (by simpa using hk), if_pos hl]
      have hV : ovV y hi lo = 0 := by unfold ovV; rw [hE]; rfl
      rw [hE, hV]
      clear hE hV hk
      go_enter Try.func22, Try.ntmps22
      go_wp2_with fail
      refine HC.out.mono ?_
      rintro e w1 ⟨rfl, hf⟩
      go_wp2
      go_ret2
      exact ⟨rfl, HF.out.then0 hf⟩
    · have hE : ovE y hi lo = 0 := by unfold ovE; rw [if_neg (by simpa using hk), if_neg hl]
      have hV : ovV y hi lo = (hi - lo) * y := by unfold ovV; rw [hE]; rfl
      rw [hE, hV]
      clear hE hV hk
      obtain ⟨hb0, hb1⟩ := mul_bnd (p := hi - lo) (by omega) (by omega) y0 y1
      obtain ⟨q, hq⟩ : ∃ q, (hi - lo) * y = q := ⟨_, rfl⟩
      rw [hq] at hb0 hb1 ⊢
      have hw1 : IntKind.i64.wrap q = q := by simp only [IntKind.wrap_i64]; omega
      have hw2 : wrap64 q = q := by unfold wrap64; omega
      go_enter Try.func22, Try.ntmps22
      go_wp2_with fail
      refine HC.out.mono ?_
      rintro e w1 ⟨rfl, hf⟩
      go_wp2
      go_ret2
      exact ⟨rfl, HF.out.then0 hf⟩
  · have hE : ovE y hi lo = chkE y [⟨0, hi, 0, 0⟩, ⟨0, lo, 0, 0⟩] := by unfold ovE; rw [if_pos hk]
    have hV : ovV y hi lo = 0 := by unfold ovV; rw [hE, if_neg hk]
    rw [hE, hV]
    clear hE hV
    have hkb : (chkE y [⟨0, hi, 0, 0⟩, ⟨0, lo, 0, 0⟩] != 0) = true := by simpa using hk
    have hkc : (chkE y [⟨0, hi, 0, 0⟩, ⟨0, lo, 0, 0⟩] == 0) = false := by simpa using hk
    generalize chkE y [⟨0, hi, 0, 0⟩, ⟨0, lo, 0, 0⟩] = k at *
    go_enter Try.func22, Try.ntmps22
    go_wp2_with fail
    refine HC.out.mono ?_
    rintro e w1 ⟨rfl, hf⟩
    go_wp2
    go_ret2
    exact ⟨rfl, HF.out.then0 hf⟩

theorem ordI_lt (y : Int) (a b : IV) : ordI y a b < 0 ↔ keyV y a < keyV y b ∨ (keyV y a = keyV y b ∧ (a.seq < b.seq ∨ (a.seq = b.seq ∧ a.id < b.id))) := by
  unfold ordI or3
  rcases cmpI_cases (keyV y a) (keyV y b) with ⟨h1, h2, h3⟩ | ⟨h1, h2, h3⟩ | ⟨h1, h2, h3⟩ <;>
  rcases cmpI_cases a.seq b.seq with ⟨k1, k2, k3⟩ | ⟨k1, k2, k3⟩ | ⟨k1, k2, k3⟩ <;>
  rcases cmpI_cases a.id b.id with ⟨j1, j2, j3⟩ | ⟨j1, j2, j3⟩ | ⟨j1, j2, j3⟩ <;>
  rw [h3, k3, j3] <;> simp <;> omega
set_option maxRecDepth 100000 in
set_option maxHeartbeats 2000000 in
theorem rbefore_any (a b : IV) (y : Int) (w : World) (ha : Ok a) (hb : Ok b) (y0 : 1 ≤ y) (y1 : y ≤ 68719476736) :
    Calls Try.prog 36 #[.agg #[.int .i64 a.id, .int .i64 a.pr, .int .i64 a.since, .int .i64 a.seq], .agg #[.int .i64 b.id, .int .i64 b.pr, .int .i64 b.since, .int .i64 b.seq], .int .i64 y] w fun e w' => e = .returned (.bool (decide (ordI y a b < 0))) ∧ Fr No w w' := by
  have KX : ∀ x : IV, Ok x → chkE y [⟨0, x.pr, x.since, 0⟩] = 0 ∧ keyK y ⟨0, x.pr, x.since, 0⟩ = keyV y x := fun x hx => by
    have h1 : chkE y [⟨0, x.pr, x.since, 0⟩] = 0 := chkE_good y0 y1 (fun z hz => by
      rw [List.mem_singleton.1 hz]; exact ⟨hx.p0, hx.p1, hx.s0, hx.s1⟩)
    exact ⟨h1, by unfold keyK; rw [if_pos h1]; rfl⟩
  have KA := Lib.hid (fun X => rKey_any a.pr a.since y X)
  have KB := Lib.hid (fun X => rKey_any b.pr b.since y X)
  rw [(KX a ha).1, (KX a ha).2] at KA
  rw [(KX b hb).1, (KX b hb).2] at KB
  have HO := Lib.hid (ordI_lt y a b)
  clear KX ha hb
  generalize ordI y a b = r at *
  generalize keyV y a = ka at *
  generalize keyV y b = kb at *
  obtain ⟨aid, apr, asi, asq⟩ := a
  obtain ⟨bid, bpr, bsi, bsq⟩ := b
  dsimp only at *
  have b3 := Blk.new w 23 #[.int .i64 aid, .int .i64 apr, .int .i64 asi, .int .i64 asq]
  obtain ⟨w1, hw1⟩ : ∃ w1, w1 = w.alloc (.cells #[.int .i64 aid, .int .i64 apr, .int .i64 asi, .int .i64 asq] 23) := ⟨_, rfl⟩
  have b4 := Blk.new w1 23 #[.int .i64 bid, .int .i64 bpr, .int .i64 bsi, .int .i64 bsq]
  have hs1 : w1.heap.size = w.heap.size + 1 := by rw [hw1]; simp
  obtain ⟨w0, hw0⟩ : ∃ w0, w0 = w1.alloc (.cells #[.int .i64 bid, .int .i64 bpr, .int .i64 bsi, .int .i64 bsq] 23) := ⟨_, rfl⟩
  have F0 : Fr No w w0 := by rw [hw0, hw1]; exact ((Fr.refl No w).alloc _).alloc _
  have B3 : Blk w0 w.heap.size 23 #[.int .i64 aid, .int .i64 apr, .int .i64 asi, .int .i64 asq] := by rw [hw0]; rw [← hw1] at b3; exact b3.alloc _
  have B4 : Blk w0 (w.heap.size + 1) 23 #[.int .i64 bid, .int .i64 bpr, .int .i64 bsi, .int .i64 bsq] := by rw [← hs1, hw0]; exact b4
  have SK := Lib.hid (fun (X : World) (hX : Fr No w0 X) =>
    (show (X.cell? ⟨w.heap.size, 0, none⟩ = some (.int .i64 aid) ∧ X.cell? ⟨w.heap.size, 1, none⟩ = some (.int .i64 apr) ∧ X.cell? ⟨w.heap.size, 2, none⟩ = some (.int .i64 asi) ∧ X.cell? ⟨w.heap.size, 3, none⟩ = some (.int .i64 asq)
      ∧ X.cell? ⟨w.heap.size + 1, 0, none⟩ = some (.int .i64 bid) ∧ X.cell? ⟨w.heap.size + 1, 1, none⟩ = some (.int .i64 bpr) ∧ X.cell? ⟨w.heap.size + 1, 2, none⟩ = some (.int .i64 bsi) ∧ X.cell? ⟨w.heap.size + 1, 3, none⟩ = some (.int .i64 bsq)) from
    ⟨(B3.fr hX (fun x => x)).cell 0, (B3.fr hX (fun x => x)).cell 1, (B3.fr hX (fun x => x)).cell 2, (B3.fr hX (fun x => x)).cell 3, (B4.fr hX (fun x => x)).cell 0, (B4.fr hX (fun x => x)).cell 1, (B4.fr hX (fun x => x)).cell 2, (B4.fr hX (fun x => x)).cell 3⟩))
  have HW0 := Lib.hid (show w0 = (w.alloc (.cells #[.int .i64 aid, .int .i64 apr, .int .i64 asi, .int .i64 asq] 23)).alloc (.cells #[.int .i64 bid, .int .i64 bpr, .int .i64 bsi, .int .i64 bsq] 23) by rw [hw0, hw1])
  have HF0 := Lib.hid F0
  clear b3 b4 B3 B4 hw0 hw1 hs1 F0
  have hcs : ∃ d : Bool, d = decide (r < 0) ∧ (((ka != kb) = true ∧ d = decide (ka < kb)) ∨ ((ka != kb) = false ∧ (asq != bsq) = true ∧ d = decide (asq < bsq)) ∨ ((ka != kb) = false ∧ (asq != bsq) = false ∧ d = decide (aid < bid))) := by
    refine ⟨_, rfl, ?_⟩
    have ho := HO.out
    by_cases h1 : ka = kb
    · by_cases h2 : asq = bsq
      · right; right
        exact ⟨by simpa using h1, by simpa using h2, decide_eq_decide.2 (by rw [ho]; omega)⟩
      · right; left
        exact ⟨by simpa using h1, by simpa using h2, decide_eq_decide.2 (by rw [ho]; omega)⟩
    · left
      exact ⟨by simpa using h1, decide_eq_decide.2 (by rw [ho]; omega)⟩
  obtain ⟨d, hd, hcs⟩ := hcs
  rw [← hd]
  clear hd HO
  rcases hcs with ⟨h1, h⟩ | ⟨h1, h2, h⟩ | ⟨h1, h2, h⟩
  all_goals
    have HD := Lib.hid h
    clear h
    obtain ⟨s1, s2, s3, s4, s5, s6, s7, s8⟩ := SK.out w0 (Fr.refl No w0)
    go_enter Try.func36, Try.ntmps36
    go_wp2_with fail
    rw [← HW0.out]
    refine (KA.out _).mono ?_
    rintro e w2 ⟨rfl, hf⟩
    have F2 := Lib.hid ((Fr.refl No w0).then0 hf)
    clear s1 s2 s3 s4 s5 s6 s7 s8 hf
    obtain ⟨s1, s2, s3, s4, s5, s6, s7, s8⟩ := SK.out w2 F2.out
    go_wp2_with fail
    refine (KB.out _).mono ?_
    rintro e w3 ⟨rfl, hf⟩
    have F3 := Lib.hid (F2.out.then0 hf)
    clear s1 s2 s3 s4 s5 s6 s7 s8 hf
    obtain ⟨s1, s2, s3, s4, s5, s6, s7, s8⟩ := SK.out w3 F3.out
    go_wp2
    go_ret
    exact ⟨ret1b HD.out.symm, HF0.out.then0 F3.out⟩

set_option maxRecDepth 100000 in
set_option maxHeartbeats 2000000 in
theorem rBefore_any (a b : IV) (y : Int) (w : World) : Calls Try.prog 20 #[.agg #[.int .i64 a.id, .int .i64 a.pr, .int .i64 a.since, .int .i64 a.seq], .agg #[.int .i64 b.id, .int .i64 b.pr, .int .i64 b.since, .int .i64 b.seq], .int .i64 y] w fun e w' => e = .returned (.tuple #[.bool (befB y a b), .int .i64 (chkE y [a, b])]) ∧ Fr No w w' := by
  have HCX := Lib.hid (fun X => rcheck2 a b y X)
  have HD := Lib.hid (show befB y a b = decide (chkE y [a, b] = 0 ∧ ordI y a b < 0) from rfl)
  have HOX := Lib.hid (fun (hk : chkE y [a, b] = 0) X => rbefore_any a b y X ((chkE_ok hk).2 a (by simp)) ((chkE_ok hk).2 b (by simp)) (chkE_ok hk).1.1 (chkE_ok hk).1.2)
  generalize ordI y a b = r at *
  generalize befB y a b = d at *
  generalize chkE y [a, b] = k at *
  obtain ⟨aid, apr, asi, asq⟩ := a
  obtain ⟨bid, bpr, bsi, bsq⟩ := b
  dsimp only at *
  have b3 := Blk.new w 23 #[.int .i64 aid, .int .i64 apr, .int .i64 asi, .int .i64 asq]
  obtain ⟨w1, hw1⟩ : ∃ w1, w1 = w.alloc (.cells #[.int .i64 aid, .int .i64 apr, .int .i64 asi, .int .i64 asq] 23) := ⟨_, rfl⟩
  have b4 := Blk.new w1 23 #[.int .i64 bid, .int .i64 bpr, .int .i64 bsi, .int .i64 bsq]
  have hs1 : w1.heap.size = w.heap.size + 1 := by rw [hw1]; simp
  obtain ⟨w0, hw0⟩ : ∃ w0, w0 = w1.alloc (.cells #[.int .i64 bid, .int .i64 bpr, .int .i64 bsi, .int .i64 bsq] 23) := ⟨_, rfl⟩
  have hs0 : w0.heap.size = w.heap.size + 1 + 1 := by rw [hw0]; simp [hs1]
  have F0 : Fr No w w0 := by rw [hw0, hw1]; exact ((Fr.refl No w).alloc _).alloc _
  have B3 : Blk w0 w.heap.size 23 #[.int .i64 aid, .int .i64 apr, .int .i64 asi, .int .i64 asq] := by rw [hw0]; rw [← hw1] at b3; exact b3.alloc _
  have B4 : Blk w0 (w.heap.size + 1) 23 #[.int .i64 bid, .int .i64 bpr, .int .i64 bsi, .int .i64 bsq] := by rw [← hs1, hw0]; exact b4
  have SK := Lib.hid (fun (X : World) (hX : Fr No w0 X) =>
    (show (X.cell? ⟨w.heap.size, 0, none⟩ = some (.int .i64 aid) ∧ X.cell? ⟨w.heap.size, 1, none⟩ = some (.int .i64 apr) ∧ X.cell? ⟨w.heap.size, 2, none⟩ = some (.int .i64 asi) ∧ X.cell? ⟨w.heap.size, 3, none⟩ = some (.int .i64 asq)
      ∧ X.cell? ⟨w.heap.size + 1, 0, none⟩ = some (.int .i64 bid) ∧ X.cell? ⟨w.heap.size + 1, 1, none⟩ = some (.int .i64 bpr) ∧ X.cell? ⟨w.heap.size + 1, 2, none⟩ = some (.int .i64 bsi) ∧ X.cell? ⟨w.heap.size + 1, 3, none⟩ = some (.int .i64 bsq)) from
    ⟨(B3.fr hX (fun x => x)).cell 0, (B3.fr hX (fun x => x)).cell 1, (B3.fr hX (fun x => x)).cell 2, (B3.fr hX (fun x => x)).cell 3, (B4.fr hX (fun x => x)).cell 0, (B4.fr hX (fun x => x)).cell 1, (B4.fr hX (fun x => x)).cell 2, (B4.fr hX (fun x => x)).cell 3⟩))
  obtain ⟨s1, s2, s3, s4, s5, s6, s7, s8⟩ := SK.out w0 (Fr.refl No w0)
  have HW0 := Lib.hid (show w0 = (w.alloc (.cells #[.int .i64 aid, .int .i64 apr, .int .i64 asi, .int .i64 asq] 23)).alloc (.cells #[.int .i64 bid, .int .i64 bpr, .int .i64 bsi, .int .i64 bsq] 23) by rw [hw0, hw1])
  have HF0 := Lib.hid F0
  have HC := Lib.hid (HCX.out w0)
  have HF1 := Lib.hid ((Fr.refl No w0).alloc (.cells #[.int .i64 aid, .int .i64 apr, .int .i64 asi, .int .i64 asq, .int .i64 bid, .int .i64 bpr, .int .i64 bsi, .int .i64 bsq] 23))
  rw [hs0] at HC
  clear HCX b3 b4 B3 B4 hw0 hw1 hs1 F0 hs0
  by_cases hk : k = 0
  · subst hk
    have HDD := Lib.hid (show d = decide (r < 0) by rw [HD.out]; simp)
    have HO := Lib.hid (HOX.out rfl)
    clear HD HOX
    go_enter Try.func20, Try.ntmps20
    go_wp2_with fail
    rw [← HW0.out]
    refine HC.out.mono ?_
    rintro e w2 ⟨rfl, hf⟩
    have F2 := Lib.hid (HF1.out.then0 hf)
    clear hf s1 s2 s3 s4 s5 s6 s7 s8
    obtain ⟨s1, s2, s3, s4, s5, s6, s7, s8⟩ := SK.out w2 F2.out
    go_wp2_with fail
    refine (HO.out _).mono ?_
    rintro e w3 ⟨rfl, hf⟩
    go_wp2
    go_ret2
    rw [HDD.out]
    exact ⟨rfl, HF0.out.then0 (F2.out.then0 hf)⟩
  · have HDD := Lib.hid (show d = false by rw [HD.out]; simp [hk])
    have hkb : (k == 0) = false := by simpa using hk
    clear HD HOX
    go_enter Try.func20, Try.ntmps20
    go_wp2_with fail
    rw [← HW0.out]
    refine HC.out.mono ?_
    rintro e w2 ⟨rfl, hf⟩
    go_wp2
    go_ret2
    rw [HDD.out]
    exact ⟨rfl, HF0.out.then0 (HF1.out.then0 hf)⟩
end Go.Proofs.Ytabajcofddhelaa
