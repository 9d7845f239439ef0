/- The contracts of slices.MinFunc, and of aging's Span. -/
import Derived.Test.YtabajcofddhelaaMm
namespace Go.Proofs.Ytabajcofddhelaa
open Go.RowKit Go.Wk

set_option maxRecDepth 100000 in
set_option maxHeartbeats 8000000 in
theorem min_any (g : Nat) (A : Option Addr) (n c : Nat) (l : List IV) (y : Int) (w : World) (hg : Blk w g 2 #[.int .i64 y]) (h : Reads w w.heap.size 4 A n (icells l)) (hok : ∀ i, i < n → Ok (l.getD i IV.zero)) (y0 : 1 ≤ y) (y1 : y ≤ 68719476736) (hn : 0 < n) (hn2 : n ≤ 1000000) :
    Calls Try.prog 41 #[.slice A n c, .func (.func 45) #[] #[.pointer (some ⟨g, 0, none⟩)]] w fun x w' => ∃ k, k < n ∧ x = .returned (.agg #[.int .i64 (l.getD k IV.zero).id, .int .i64 (l.getD k IV.zero).pr, .int .i64 (l.getD k IV.zero).since, .int .i64 (l.getD k IV.zero).seq]) ∧ (∀ j, j < n → keyV y (l.getD k IV.zero) ≤ keyV y (l.getD j IV.zero)) ∧ Fr No w w' := by
  have HR := Lib.hid h
  have HOK := Lib.hid hok
  have HG := Lib.hid hg
  obtain ⟨q, off, rfl, _, _, a0, a1, a2, a3⟩ := reads_item' h hn (Fr.refl No w)
  have HM0 := Lib.hid (show ∀ j, j < 1 → keyV y (l.getD 0 IV.zero) ≤ keyV y (l.getD j IV.zero) from fun j hj => by
    obtain rfl : j = 0 := by omega
    exact Int.le_refl _)
  have hn1 : ¬ (n : Int) < 1 := by omega
  clear h hok hg
  obtain ⟨x0, hx0⟩ : ∃ x0, x0 = l.getD 0 IV.zero := ⟨_, rfl⟩
  rw [← hx0] at a0 a1 a2 a3 HM0
  have HX0 := Lib.hid hx0
  clear hx0
  obtain ⟨xi, xp, xs, xq⟩ := x0
  dsimp only at a0 a1 a2 a3
  simp only [Nat.zero_mul, Nat.add_zero] at a0 a1 a2 a3
  go_enter Try.func41, Try.ntmps41
  go_wp2
  go_loopw [6] (fun i wr => ∃ (k r : Nat) (v : IV), i = .int .i64 k ∧ 1 ≤ k ∧ k ≤ n ∧ r < n ∧ Hid (v = l.getD r IV.zero) ∧ Hid (Blk wr (w.heap.size + 1) 23 #[.int .i64 v.id, .int .i64 v.pr, .int .i64 v.since, .int .i64 v.seq]) ∧ Hid (Blk wr w.heap.size 23 #[.int .i64 0, .int .i64 0, .int .i64 0, .int .i64 0]) ∧ Hid (∀ j, j < k → keyV y v ≤ keyV y (l.getD j IV.zero)) ∧ Hid (Fr No w wr)) (fun i _ => n - (intOf i).toNat)
  case atStart =>
    refine ⟨1, 0, ⟨xi, xp, xs, xq⟩, rfl, Nat.le_refl _, hn, hn, HX0, Lib.hid ?_, Lib.hid ?_, HM0, Lib.hid ?_⟩
    · have := Blk.new (w.alloc (.cells #[.int .i64 0, .int .i64 0, .int .i64 0, .int .i64 0] 23)) 23 #[.int .i64 xi, .int .i64 xp, .int .i64 xs, .int .i64 xq]
      rwa [World.size_alloc] at this
    · exact (Blk.new w 23 _).alloc _
    · exact ((Fr.refl No w).alloc _).alloc _
  case round =>
    clear HM0 HX0 a0 a1 a2 a3
    obtain ⟨k, r, v, rfl, hk1, hk, hr, HV, HB, HB0, HM, HF⟩ := hrel
    have HSZ := Lib.hid HF.out.size
    obtain ⟨vi, vp, vs, vq⟩ := v
    dsimp only at HB
    obtain ⟨b0, b1, b2, b3⟩ := blk4 HB.out
    by_cases hlt : k < n
    · obtain ⟨_, _, he, hq, _, a0, a1, a2, a3⟩ := reads_item' HR.out hlt HF.out
      cases he
      have HC := Lib.hid (fun X (hX : Fr No wr X) => ord_any g (l.getD k IV.zero) ⟨vi, vp, vs, vq⟩ y X ((HG.out.fr HF.out (fun x => x)).fr hX (fun x => x)) (HOK.out k hlt) (by rw [HV.out]; exact HOK.out r hr) y0 y1)
      have hk4 : (k : Int) < (n : Int) := by omega
      obtain ⟨o, ho⟩ : ∃ o, o = ordI y (l.getD k IV.zero) ⟨vi, vp, vs, vq⟩ := ⟨_, rfl⟩
      rw [← ho] at HC
      have HGT := Lib.hid (fun h : o < 0 => ord_key3 (by rw [← ho]; exact h))
      have HLE := Lib.hid (fun h : ¬ o < 0 => ord_key2 (by rw [← ho]; exact h))
      clear ho
      obtain ⟨x, hx⟩ : ∃ x, x = l.getD k IV.zero := ⟨_, rfl⟩
      rw [← hx] at HC HGT HLE a0 a1 a2 a3
      have HX := Lib.hid hx
      clear hx
      obtain ⟨xi, xp, xs, xq⟩ := x
      dsimp only at *
      have FD := Lib.hid (Fr.refl No wr).drew
      have HCD := Lib.hid (HC.out wr.drew FD.out)
      have hqs : q < wr.heap.size := Nat.lt_of_lt_of_le hq HSZ.out
      have SK := Lib.hid (fun (X : World) (hX : Fr No wr X) => (show (X.cell? ⟨q, off + k * 4, none⟩ = some (.int .i64 xi) ∧ X.cell? ⟨q, off + k * 4 + 1, none⟩ = some (.int .i64 xp) ∧ X.cell? ⟨q, off + k * 4 + 2, none⟩ = some (.int .i64 xs) ∧ X.cell? ⟨q, off + k * 4 + 3, none⟩ = some (.int .i64 xq)
          ∧ X.cell? ⟨w.heap.size + 1, 0, none⟩ = some (.int .i64 vi) ∧ X.cell? ⟨w.heap.size + 1, 1, none⟩ = some (.int .i64 vp) ∧ X.cell? ⟨w.heap.size + 1, 2, none⟩ = some (.int .i64 vs) ∧ X.cell? ⟨w.heap.size + 1, 3, none⟩ = some (.int .i64 vq)) from
        ⟨(hX.cell hqs (fun x => x)).trans a0, (hX.cell hqs (fun x => x)).trans a1, (hX.cell hqs (fun x => x)).trans a2, (hX.cell hqs (fun x => x)).trans a3, (blk4 (HB.out.fr hX (fun x => x))).1, (blk4 (HB.out.fr hX (fun x => x))).2.1, (blk4 (HB.out.fr hX (fun x => x))).2.2.1, (blk4 (HB.out.fr hX (fun x => x))).2.2.2⟩))
      by_cases hgt : o < 0
      · have HA := Lib.hid (show ∀ j, j < k + 1 → keyV y ⟨xi, xp, xs, xq⟩ ≤ keyV y (l.getD j IV.zero) from fun j hj => by
          by_cases e : j = k
          · rw [e, ← HX.out]; exact Int.le_refl _
          · exact Int.le_trans (HGT.out hgt) (HM.out j (by omega)))
        go_wp2
        go_region_held3 (fun w' => w'.cell? ⟨q, off + k * 4, none⟩ = some (.int .i64 xi) ∧ w'.cell? ⟨q, off + k * 4 + 1, none⟩ = some (.int .i64 xp) ∧ w'.cell? ⟨q, off + k * 4 + 2, none⟩ = some (.int .i64 xs) ∧ w'.cell? ⟨q, off + k * 4 + 3, none⟩ = some (.int .i64 xq)
            ∧ w'.cell? ⟨w.heap.size + 1, 0, none⟩ = some (.int .i64 vi) ∧ w'.cell? ⟨w.heap.size + 1, 1, none⟩ = some (.int .i64 vp) ∧ w'.cell? ⟨w.heap.size + 1, 2, none⟩ = some (.int .i64 vs) ∧ w'.cell? ⟨w.heap.size + 1, 3, none⟩ = some (.int .i64 vq))
          (first | exact SK.out _ (FD.out.then0 FA.out) | exact SK.out _ FD.out | go_keep)
          (first | (go_at_call 45; ((with_reducible refine HCD.out.mono ?_); rintro ex wA ⟨rfl, hf⟩); have FA := Lib.hid hf; clear hf))
        all_goals
          have F2 := Lib.hid (FD.out.then0 FA.out)
          clear a0 a1 a2 a3 b0 b1 b2 b3
          obtain ⟨a0, a1, a2, a3, b0, b1, b2, b3⟩ := SK.out _ F2.out
          have HBA := Lib.hid (HB.out.fr F2.out (fun x => x))
          have z0 := HBA.out.frozen 0
          have z1 := HBA.out.frozen 1
          have z2 := HBA.out.frozen 2
          have z3 := HBA.out.frozen 3
          go_wp2
          go_roundw
          case rel =>
            refine ⟨k + 1, k, ⟨xi, xp, xs, xq⟩, by go_num, by omega, hlt, hlt, HX, Lib.hid ?_, Lib.hid ?_, HA, Lib.hid ?_⟩
            · exact (((HBA.out.set_ 0 _).set_ 1 _).set_ 2 _).set_ 3 _
            · exact ((((HB0.out.fr F2.out (fun x => x)).far (by simp) _).far (by simp) _).far (by simp) _).far (by simp) _
            · exact ((((HF.out.then0 F2.out).setCell (.inl (by simp)) _).setCell (.inl (by simp)) _).setCell (.inl (by simp)) _).setCell (.inl (by simp)) _
          case measure => simp [intOf]; omega
      · have HA := Lib.hid (show ∀ j, j < k + 1 → keyV y ⟨vi, vp, vs, vq⟩ ≤ keyV y (l.getD j IV.zero) from fun j hj => by
          by_cases e : j = k
          · rw [e, ← HX.out]; exact HLE.out hgt
          · exact HM.out j (by omega))
        go_wp2
        go_region_held3 (fun w' => w'.cell? ⟨q, off + k * 4, none⟩ = some (.int .i64 xi) ∧ w'.cell? ⟨q, off + k * 4 + 1, none⟩ = some (.int .i64 xp) ∧ w'.cell? ⟨q, off + k * 4 + 2, none⟩ = some (.int .i64 xs) ∧ w'.cell? ⟨q, off + k * 4 + 3, none⟩ = some (.int .i64 xq)
            ∧ w'.cell? ⟨w.heap.size + 1, 0, none⟩ = some (.int .i64 vi) ∧ w'.cell? ⟨w.heap.size + 1, 1, none⟩ = some (.int .i64 vp) ∧ w'.cell? ⟨w.heap.size + 1, 2, none⟩ = some (.int .i64 vs) ∧ w'.cell? ⟨w.heap.size + 1, 3, none⟩ = some (.int .i64 vq))
          (first | exact SK.out _ (FD.out.then0 FA.out) | exact SK.out _ FD.out | go_keep)
          (first | (go_at_call 45; ((with_reducible refine HCD.out.mono ?_); rintro ex wA ⟨rfl, hf⟩); have FA := Lib.hid hf; clear hf))
        all_goals
          have F2 := Lib.hid (FD.out.then0 FA.out)
          go_wp2
          go_roundw
          case rel => exact ⟨k + 1, r, ⟨vi, vp, vs, vq⟩, by go_num, by omega, hlt, hr, HV, Lib.hid (HB.out.fr F2.out (fun x => x)), Lib.hid (HB0.out.fr F2.out (fun x => x)), HA, Lib.hid (HF.out.then0 F2.out)⟩
          case measure => simp [intOf]; omega
    · obtain rfl : k = n := by omega
      obtain ⟨e0, e1, e2, e3⟩ := blk4 HB0.out
      have z0 := HB0.out.frozen 0
      have z1 := HB0.out.frozen 1
      have z2 := HB0.out.frozen 2
      have z3 := HB0.out.frozen 3
      go_wp2
      have HZ := (((HB0.out.set_ 0 (.int .i64 vi)).set_ 1 (.int .i64 vp)).set_ 2 (.int .i64 vs)).set_ 3 (.int .i64 vq)
      obtain ⟨t0, t1, t2, t3⟩ := blk4 (X := (((wr.setCell ⟨w.heap.size, 0, none⟩ (.int .i64 vi)).setCell ⟨w.heap.size, 1, none⟩ (.int .i64 vp)).setCell ⟨w.heap.size, 2, none⟩ (.int .i64 vs)).setCell ⟨w.heap.size, 3, none⟩ (.int .i64 vq)) HZ
      refine bodyPost_ret (v := .agg #[.int .i64 vi, .int .i64 vp, .int .i64 vs, .int .i64 vq]) (by simp [results, Try.f41, go_sem, t0, t1, t2, t3]) rfl ?_
      refine ⟨r, hr, ?_, fun j hj => ?_, ((((HF.out.setCell (.inl (by simp)) _).setCell (.inl (by simp)) _).setCell (.inl (by simp)) _).setCell (.inl (by simp)) _)⟩
      · rw [← HV.out]
      · rw [← HV.out]; exact HM.out j hj

/-- The distance of the keys: what the answer is. -/
structure SpanR (y : Int) (l : List IV) (v : Int) : Prop where
  bad : listE y l [] ≠ 0 → v = 0
  nil : l = [] → v = 0
  good : listE y l [] = 0 → l ≠ [] → ∃ i j, i < l.length ∧ j < l.length ∧ v = keyV y (l.getD i IV.zero) - keyV y (l.getD j IV.zero) ∧ (∀ k, k < l.length → keyV y (l.getD k IV.zero) ≤ keyV y (l.getD i IV.zero)) ∧ (∀ k, k < l.length → keyV y (l.getD j IV.zero) ≤ keyV y (l.getD k IV.zero))
theorem SpanR.one {y : Int} {l : List IV} {v u : Int} (h : SpanR y l v) (k : SpanR y l u) : v = u := by
  by_cases h0 : listE y l [] = 0
  · by_cases h1 : l = []
    · rw [h.nil h1, k.nil h1]
    · obtain ⟨i, j, hi, hj, e, a, b⟩ := h.good h0 h1
      obtain ⟨i', j', hi', hj', e', a', b'⟩ := k.good h0 h1
      have q1 := a i' hi'
      have q2 := a' i hi
      have q3 := b j' hj'
      have q4 := b' j hj
      omega
  · rw [h.bad h0, k.bad h0]

set_option maxRecDepth 100000 in
set_option maxHeartbeats 4000000 in
theorem Span_any (A : Option Addr) (n c : Nat) (l : List IV) (y : Int) (w : World) (h : Reads w w.heap.size 4 A n (icells l)) (hn : n ≤ 9223372036854775807) :
    Calls Try.prog 27 #[.slice A n c, .int .i64 y] w fun x w' => (∃ v, x = .returned (.tuple #[.int .i64 v, .int .i64 (listE y l [])]) ∧ SpanR y l v) ∧ Fr No w w' := by
  have HR := Lib.hid h
  have hl := reads_ilen h
  have HLE := Lib.hid (list_any A none n c 0 0 l [] y w h Reads.none_ hn (by omega))
  have HOK := Lib.hid (show listE y l [] = 0 → _ from listE_ok)
  clear h
  by_cases h0 : listE y l [] = 0
  · obtain ⟨⟨y0, y1⟩, hlen, hok, _⟩ := HOK.out h0
    have H0 := Lib.hid h0
    rw [h0] at HLE ⊢
    have hn1 : n ≤ 1024 := by omega
    have HK := Lib.hid (show ∀ i, i < n → Ok (l.getD i IV.zero) from fun i hi => by
      have e : l.getD i IV.zero = l[i]'(by omega) := by simp [show i < l.length by omega]
      rw [e]; exact hok _ (List.getElem_mem _))
    clear h0 HOK hok hlen
    have HL := Lib.hid hl
    clear hl
    by_cases hz : n = 0
    · subst hz
      have hl0 : l = [] := List.eq_nil_of_length_eq_zero HL.out
      have HS := Lib.hid (show SpanR y l 0 from ⟨fun _ => rfl, fun _ => rfl, fun _ h => absurd hl0 h⟩)
      clear hl0
      go_enter Try.func27, Try.ntmps27
      go_wp2_with fail
      refine HLE.out.mono ?_
      rintro x w1 ⟨rfl, hf⟩
      go_wp2
      go_ret2
      exact ⟨⟨0, rfl, HS.out⟩, hf⟩
    · have hnb : ((n : Int) == 0) = false := by simp; omega
      go_enter Try.func27, Try.ntmps27
      go_wp2_with fail
      refine HLE.out.mono ?_
      rintro x w1 ⟨rfl, hf⟩
      have HF1 := Lib.hid hf
      clear hf
      go_wp2_with fail
      refine (order_any _ _).mono ?_
      rintro x w2 ⟨rfl, hw2⟩
      have HB := Lib.hid (show Blk w2 w1.heap.size 2 #[.int .i64 y] by rw [hw2]; exact Blk.new _ _ _)
      have HF2 := Lib.hid (show Fr No w w2 by rw [hw2]; exact HF1.out.alloc _)
      clear hw2
      have HMX := Lib.hid (max_any w1.heap.size A n c l y w2 HB.out (HR.out.fr0 HF2.out) HK.out y0 y1 (by omega) (by omega))
      go_wp2_with fail
      refine HMX.out.mono ?_
      rintro x w3 ⟨i, hi, rfl, hmx, hf⟩
      have HX := Lib.hid hmx
      have HF3 := Lib.hid (HF2.out.then0 hf)
      have HB3 := Lib.hid (HB.out.fr hf (fun x => x))
      have hoi := HK.out i hi
      have HKI := Lib.hid (fun X => key_any (l.getD i IV.zero) y X hoi y0 y1)
      have hbi := keyV_bnd hoi y0 y1
      clear hmx hf HMX
      obtain ⟨ki, hki⟩ : ∃ k, k = keyV y (l.getD i IV.zero) := ⟨_, rfl⟩
      rw [← hki] at HKI hbi
      have HKIE := Lib.hid hki
      clear hki hoi
      go_wp2_with fail
      refine (HKI.out _).mono ?_
      rintro x w4 ⟨rfl, hf⟩
      have HF4 := Lib.hid (HF3.out.then0 hf)
      have HB4 := Lib.hid (HB3.out.fr hf (fun x => x))
      clear hf
      have HMN := Lib.hid (min_any w1.heap.size A n c l y w4 HB4.out (HR.out.fr0 HF4.out) HK.out y0 y1 (by omega) (by omega))
      go_wp2_with fail
      refine HMN.out.mono ?_
      rintro x w5 ⟨j, hj, rfl, hmn, hf⟩
      have HN := Lib.hid hmn
      have HF5 := Lib.hid (HF4.out.then0 hf)
      have hoj := HK.out j hj
      have HKJ := Lib.hid (fun X => key_any (l.getD j IV.zero) y X hoj y0 y1)
      have hbj := keyV_bnd hoj y0 y1
      clear hmn hf HMN
      obtain ⟨kj, hkj⟩ : ∃ k, k = keyV y (l.getD j IV.zero) := ⟨_, rfl⟩
      rw [← hkj] at HKJ hbj
      have HKJE := Lib.hid hkj
      clear hkj hoj
      have HS := Lib.hid (show SpanR y l (ki - kj) from ⟨fun h => absurd H0.out h, fun h => by rw [h] at HL; exact absurd HL.out (by simp; omega), fun _ _ => ⟨i, j, by rw [HL.out]; exact hi, by rw [HL.out]; exact hj, by rw [HKIE.out, HKJE.out], fun k hk => HX.out k (by rw [← HL.out]; exact hk), fun k hk => HN.out k (by rw [← HL.out]; exact hk)⟩⟩)
      go_wp2_with fail
      refine (HKJ.out _).mono ?_
      rintro x w6 ⟨rfl, hf⟩
      go_wp2
      go_ret2
      exact ⟨⟨_, rfl, HS.out⟩, HF5.out.then0 hf⟩
  · have hb : (listE y l [] != 0) = true := by simpa using h0
    have HS := Lib.hid (show SpanR y l 0 from ⟨fun _ => rfl, fun _ => rfl, fun h => absurd h h0⟩)
    clear HOK h0 hl
    obtain ⟨r, hr⟩ : ∃ r, r = listE y l [] := ⟨_, rfl⟩
    rw [← hr] at HLE hb ⊢
    clear hr
    go_enter Try.func27, Try.ntmps27
    go_wp2_with fail
    refine HLE.out.mono ?_
    rintro x w1 ⟨rfl, hf⟩
    go_wp2
    go_ret2
    exact ⟨⟨0, rfl, HS.out⟩, hf⟩
end Go.Proofs.Ytabajcofddhelaa
