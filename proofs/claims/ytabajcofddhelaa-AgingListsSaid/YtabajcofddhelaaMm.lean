/- The contracts of slices.MaxFunc, slices.MinFunc, and of aging's Span and Ahead. -/
import Derived.Test.YtabajcofddhelaaOt
namespace Go.Proofs.Ytabajcofddhelaa
open Go.RowKit Go.Wk

/-- An item of a list that is read, for any world that has not turned. -/
theorem reads_item' {w X : World} {n : Nat} {A : Option Addr} {l : List IV} (h : Reads w w.heap.size 4 A n (icells l)) {i : Nat} (hi : i < n) (hX : Fr No w X) : ∃ g off, A = some ⟨g, off, none⟩ ∧ g < w.heap.size ∧ l.length = n ∧
    X.cell? ⟨g, off + i * 4, none⟩ = some (.int .i64 (l.getD i IV.zero).id) ∧ X.cell? ⟨g, off + i * 4 + 1, none⟩ = some (.int .i64 (l.getD i IV.zero).pr) ∧ X.cell? ⟨g, off + i * 4 + 2, none⟩ = some (.int .i64 (l.getD i IV.zero).since) ∧
    X.cell? ⟨g, off + i * 4 + 3, none⟩ = some (.int .i64 (l.getD i IV.zero).seq) := by
  obtain ⟨g, off, e, hg, hl, c0, c1, c2, c3⟩ := reads_item h hi
  exact ⟨g, off, e, hg, hl, (hX.cell hg (fun x => x)).trans c0, (hX.cell hg (fun x => x)).trans c1, (hX.cell hg (fun x => x)).trans c2, (hX.cell hg (fun x => x)).trans c3⟩

theorem ord_key {y : Int} {a b : IV} (h : ¬ 0 < ordI y a b) : keyV y a ≤ keyV y b := by
  unfold ordI or3 at h
  rcases cmpI_cases (keyV y a) (keyV y b) with ⟨h1, h2, h3⟩ | ⟨h1, h2, h3⟩ | ⟨h1, h2, h3⟩
  · omega
  · rw [h3] at h; simp at h
  · omega
theorem ord_key1 {y : Int} {a b : IV} (h : 0 < ordI y a b) : keyV y b ≤ keyV y a := by
  unfold ordI or3 at h
  rcases cmpI_cases (keyV y a) (keyV y b) with ⟨h1, h2, h3⟩ | ⟨h1, h2, h3⟩ | ⟨h1, h2, h3⟩
  · rw [h3] at h; simp at h
  · omega
  · omega
theorem ord_key2 {y : Int} {a b : IV} (h : ¬ ordI y a b < 0) : keyV y b ≤ keyV y a := by
  rw [ordI_lt] at h; omega
theorem ord_key3 {y : Int} {a b : IV} (h : ordI y a b < 0) : keyV y a ≤ keyV y b := by
  rw [ordI_lt] at h; omega

set_option maxRecDepth 100000 in
set_option maxHeartbeats 8000000 in
theorem max_any (g : Nat) (A : Option Addr) (n c : Nat) (l : List IV) (y : Int) (w : World) (hg : Blk w g 2 #[.int .i64 y]) (h : Reads w w.heap.size 4 A n (icells l)) (hok : ∀ i, i < n → Ok (l.getD i IV.zero)) (y0 : 1 ≤ y) (y1 : y ≤ 68719476736) (hn : 0 < n) (hn2 : n ≤ 1000000) :
    Calls Try.prog 40 #[.slice A n c, .func (.func 45) #[] #[.pointer (some ⟨g, 0, none⟩)]] w fun x w' => ∃ k, k < n ∧ x = .returned (.agg #[.int .i64 (l.getD k IV.zero).id, .int .i64 (l.getD k IV.zero).pr, .int .i64 (l.getD k IV.zero).since, .int .i64 (l.getD k IV.zero).seq]) ∧ (∀ j, j < n → keyV y (l.getD j IV.zero) ≤ keyV y (l.getD k IV.zero)) ∧ Fr No w w' := by
  have HR := Lib.hid h
  have HOK := Lib.hid hok
  have HG := Lib.hid hg
  obtain ⟨q, off, rfl, _, _, a0, a1, a2, a3⟩ := reads_item' h hn (Fr.refl No w)
  have HM0 := Lib.hid (show ∀ j, j < 1 → keyV y (l.getD j IV.zero) ≤ keyV y (l.getD 0 IV.zero) from fun j hj => by
    obtain rfl : j = 0 := by omega
    exact Int.le_refl _)
  have hn1 : ¬ (n : Int) < 1 := by omega
  clear h hok hg
  obtain ⟨x0, hx0⟩ : ∃ x0, x0 = l.getD 0 IV.zero := ⟨_, rfl⟩
  rw [← hx0] at a0 a1 a2 a3 HM0
  have HX0 := Lib.hid hx0
  clear hx0
  obtain ⟨xi, xp, xs, xq⟩ := x0
  dsimp only at a0 a1 a2 a3
  simp only [Nat.zero_mul, Nat.add_zero] at a0 a1 a2 a3
  go_enter Try.func40, Try.ntmps40
  go_wp2
  go_loopw [6] (fun i wr => ∃ (k r : Nat) (v : IV), i = .int .i64 k ∧ 1 ≤ k ∧ k ≤ n ∧ r < n ∧ Hid (v = l.getD r IV.zero) ∧ Hid (Blk wr (w.heap.size + 1) 23 #[.int .i64 v.id, .int .i64 v.pr, .int .i64 v.since, .int .i64 v.seq]) ∧ Hid (Blk wr w.heap.size 23 #[.int .i64 0, .int .i64 0, .int .i64 0, .int .i64 0]) ∧ Hid (∀ j, j < k → keyV y (l.getD j IV.zero) ≤ keyV y v) ∧ Hid (Fr No w wr)) (fun i _ => n - (intOf i).toNat)
  case atStart =>
    refine ⟨1, 0, ⟨xi, xp, xs, xq⟩, rfl, Nat.le_refl _, hn, hn, HX0, Lib.hid ?_, Lib.hid ?_, HM0, Lib.hid ?_⟩
    · have := Blk.new (w.alloc (.cells #[.int .i64 0, .int .i64 0, .int .i64 0, .int .i64 0] 23)) 23 #[.int .i64 xi, .int .i64 xp, .int .i64 xs, .int .i64 xq]
      rwa [World.size_alloc] at this
    · exact (Blk.new w 23 _).alloc _
    · exact ((Fr.refl No w).alloc _).alloc _
  case round =>
    clear HM0 HX0 a0 a1 a2 a3
    obtain ⟨k, r, v, rfl, hk1, hk, hr, HV, HB, HB0, HM, HF⟩ := hrel
    have HSZ := Lib.hid HF.out.size
    obtain ⟨vi, vp, vs, vq⟩ := v
    dsimp only at HB
    obtain ⟨b0, b1, b2, b3⟩ := blk4 HB.out
    by_cases hlt : k < n
    · obtain ⟨_, _, he, hq, _, a0, a1, a2, a3⟩ := reads_item' HR.out hlt HF.out
      cases he
      have HC := Lib.hid (fun X (hX : Fr No wr X) => ord_any g (l.getD k IV.zero) ⟨vi, vp, vs, vq⟩ y X ((HG.out.fr HF.out (fun x => x)).fr hX (fun x => x)) (HOK.out k hlt) (by rw [HV.out]; exact HOK.out r hr) y0 y1)
      have hk4 : (k : Int) < (n : Int) := by omega
      obtain ⟨o, ho⟩ : ∃ o, o = ordI y (l.getD k IV.zero) ⟨vi, vp, vs, vq⟩ := ⟨_, rfl⟩
      rw [← ho] at HC
      have HGT := Lib.hid (fun h : 0 < o => ord_key1 (by rw [← ho]; exact h))
      have HLE := Lib.hid (fun h : ¬ 0 < o => ord_key (by rw [← ho]; exact h))
      clear ho
      obtain ⟨x, hx⟩ : ∃ x, x = l.getD k IV.zero := ⟨_, rfl⟩
      rw [← hx] at HC HGT HLE a0 a1 a2 a3
      have HX := Lib.hid hx
      clear hx
      obtain ⟨xi, xp, xs, xq⟩ := x
      dsimp only at *
      have FD := Lib.hid (Fr.refl No wr).drew
      have HCD := Lib.hid (HC.out wr.drew FD.out)
      have hqs : q < wr.heap.size := Nat.lt_of_lt_of_le hq HSZ.out
      have SK := Lib.hid (fun (X : World) (hX : Fr No wr X) => (show (X.cell? ⟨q, off + k * 4, none⟩ = some (.int .i64 xi) ∧ X.cell? ⟨q, off + k * 4 + 1, none⟩ = some (.int .i64 xp) ∧ X.cell? ⟨q, off + k * 4 + 2, none⟩ = some (.int .i64 xs) ∧ X.cell? ⟨q, off + k * 4 + 3, none⟩ = some (.int .i64 xq)
          ∧ X.cell? ⟨w.heap.size + 1, 0, none⟩ = some (.int .i64 vi) ∧ X.cell? ⟨w.heap.size + 1, 1, none⟩ = some (.int .i64 vp) ∧ X.cell? ⟨w.heap.size + 1, 2, none⟩ = some (.int .i64 vs) ∧ X.cell? ⟨w.heap.size + 1, 3, none⟩ = some (.int .i64 vq)) from
        ⟨(hX.cell hqs (fun x => x)).trans a0, (hX.cell hqs (fun x => x)).trans a1, (hX.cell hqs (fun x => x)).trans a2, (hX.cell hqs (fun x => x)).trans a3, (blk4 (HB.out.fr hX (fun x => x))).1, (blk4 (HB.out.fr hX (fun x => x))).2.1, (blk4 (HB.out.fr hX (fun x => x))).2.2.1, (blk4 (HB.out.fr hX (fun x => x))).2.2.2⟩))
      by_cases hgt : 0 < o
      · have HA := Lib.hid (show ∀ j, j < k + 1 → keyV y (l.getD j IV.zero) ≤ keyV y ⟨xi, xp, xs, xq⟩ from fun j hj => by
          by_cases e : j = k
          · rw [e, ← HX.out]; exact Int.le_refl _
          · exact Int.le_trans (HM.out j (by omega)) (HGT.out hgt))
        go_wp2
        go_region_held3 (fun w' => w'.cell? ⟨q, off + k * 4, none⟩ = some (.int .i64 xi) ∧ w'.cell? ⟨q, off + k * 4 + 1, none⟩ = some (.int .i64 xp) ∧ w'.cell? ⟨q, off + k * 4 + 2, none⟩ = some (.int .i64 xs) ∧ w'.cell? ⟨q, off + k * 4 + 3, none⟩ = some (.int .i64 xq)
            ∧ w'.cell? ⟨w.heap.size + 1, 0, none⟩ = some (.int .i64 vi) ∧ w'.cell? ⟨w.heap.size + 1, 1, none⟩ = some (.int .i64 vp) ∧ w'.cell? ⟨w.heap.size + 1, 2, none⟩ = some (.int .i64 vs) ∧ w'.cell? ⟨w.heap.size + 1, 3, none⟩ = some (.int .i64 vq))
          (first | exact SK.out _ (FD.out.then0 FA.out) | exact SK.out _ FD.out | go_keep)
          (first | (go_at_call 45; ((with_reducible refine HCD.out.mono ?_); rintro ex wA ⟨rfl, hf⟩); have FA := Lib.hid hf; clear hf))
        all_goals
          have F2 := Lib.hid (FD.out.then0 FA.out)
          clear a0 a1 a2 a3 b0 b1 b2 b3
          obtain ⟨a0, a1, a2, a3, b0, b1, b2, b3⟩ := SK.out _ F2.out
          have HBA := Lib.hid (HB.out.fr F2.out (fun x => x))
          have z0 := HBA.out.frozen 0
          have z1 := HBA.out.frozen 1
          have z2 := HBA.out.frozen 2
          have z3 := HBA.out.frozen 3
          go_wp2
          go_roundw
          case rel =>
            refine ⟨k + 1, k, ⟨xi, xp, xs, xq⟩, by go_num, by omega, hlt, hlt, HX, Lib.hid ?_, Lib.hid ?_, HA, Lib.hid ?_⟩
            · exact (((HBA.out.set_ 0 _).set_ 1 _).set_ 2 _).set_ 3 _
            · exact ((((HB0.out.fr F2.out (fun x => x)).far (by simp) _).far (by simp) _).far (by simp) _).far (by simp) _
            · exact ((((HF.out.then0 F2.out).setCell (.inl (by simp)) _).setCell (.inl (by simp)) _).setCell (.inl (by simp)) _).setCell (.inl (by simp)) _
          case measure => simp [intOf]; omega
      · have HA := Lib.hid (show ∀ j, j < k + 1 → keyV y (l.getD j IV.zero) ≤ keyV y ⟨vi, vp, vs, vq⟩ from fun j hj => by
          by_cases e : j = k
          · rw [e, ← HX.out]; exact HLE.out hgt
          · exact HM.out j (by omega))
        go_wp2
        go_region_held3 (fun w' => w'.cell? ⟨q, off + k * 4, none⟩ = some (.int .i64 xi) ∧ w'.cell? ⟨q, off + k * 4 + 1, none⟩ = some (.int .i64 xp) ∧ w'.cell? ⟨q, off + k * 4 + 2, none⟩ = some (.int .i64 xs) ∧ w'.cell? ⟨q, off + k * 4 + 3, none⟩ = some (.int .i64 xq)
            ∧ w'.cell? ⟨w.heap.size + 1, 0, none⟩ = some (.int .i64 vi) ∧ w'.cell? ⟨w.heap.size + 1, 1, none⟩ = some (.int .i64 vp) ∧ w'.cell? ⟨w.heap.size + 1, 2, none⟩ = some (.int .i64 vs) ∧ w'.cell? ⟨w.heap.size + 1, 3, none⟩ = some (.int .i64 vq))
          (first | exact SK.out _ (FD.out.then0 FA.out) | exact SK.out _ FD.out | go_keep)
          (first | (go_at_call 45; ((with_reducible refine HCD.out.mono ?_); rintro ex wA ⟨rfl, hf⟩); have FA := Lib.hid hf; clear hf))
        all_goals
          have F2 := Lib.hid (FD.out.then0 FA.out)
          go_wp2
          go_roundw
          case rel => exact ⟨k + 1, r, ⟨vi, vp, vs, vq⟩, by go_num, by omega, hlt, hr, HV, Lib.hid (HB.out.fr F2.out (fun x => x)), Lib.hid (HB0.out.fr F2.out (fun x => x)), HA, Lib.hid (HF.out.then0 F2.out)⟩
          case measure => simp [intOf]; omega
    · obtain rfl : k = n := by omega
      obtain ⟨e0, e1, e2, e3⟩ := blk4 HB0.out
      have z0 := HB0.out.frozen 0
      have z1 := HB0.out.frozen 1
      have z2 := HB0.out.frozen 2
      have z3 := HB0.out.frozen 3
      go_wp2
      have HZ := (((HB0.out.set_ 0 (.int .i64 vi)).set_ 1 (.int .i64 vp)).set_ 2 (.int .i64 vs)).set_ 3 (.int .i64 vq)
      obtain ⟨t0, t1, t2, t3⟩ := blk4 (X := (((wr.setCell ⟨w.heap.size, 0, none⟩ (.int .i64 vi)).setCell ⟨w.heap.size, 1, none⟩ (.int .i64 vp)).setCell ⟨w.heap.size, 2, none⟩ (.int .i64 vs)).setCell ⟨w.heap.size, 3, none⟩ (.int .i64 vq)) HZ
      refine bodyPost_ret (v := .agg #[.int .i64 vi, .int .i64 vp, .int .i64 vs, .int .i64 vq]) (by simp [results, Try.f40, go_sem, t0, t1, t2, t3]) rfl ?_
      refine ⟨r, hr, ?_, fun j hj => ?_, ((((HF.out.setCell (.inl (by simp)) _).setCell (.inl (by simp)) _).setCell (.inl (by simp)) _).setCell (.inl (by simp)) _)⟩
      · rw [← HV.out]
      · rw [← HV.out]; exact HM.out j hj
end Go.Proofs.Ytabajcofddhelaa
