/- slices.BinarySearchFunc over the order; find. -/
import Derived.Test.YtgkpmckbdagkcaaB
namespace Go.Proofs.Ytgkpmckbdagkcaa
open Go.RowKit Go.Wk

theorem getD_mem {l : List LE} {i : Nat} (h : i < l.length) : l.getD i LE.zero ∈ l := by
  have e : l.getD i LE.zero = l[i] := by simp [h]
  rw [e]; exact List.getElem_mem h
theorem idx_eq {l : List LE} {t : Int × Int} {i : Nat} (h0 : i ≤ l.length) (h1 : ∀ j, j < i → ltM (l.getD j LE.zero).mk_ t) (h2 : i < l.length → ¬ ltM (l.getD i LE.zero).mk_ t) : idx l t = i := by
  unfold idx
  induction l generalizing i with
  | nil => simp at h0; rw [h0]; rfl
  | cons a l ih =>
    cases i with
    | zero =>
      have := h2 (by simp)
      rw [List.getD_cons_zero] at this
      rw [List.takeWhile_cons_of_neg (by simpa using this)]
      rfl
    | succ i =>
      have := h1 0 (by omega)
      rw [List.getD_cons_zero] at this
      rw [List.takeWhile_cons_of_pos (by simpa using this), List.length_cons]
      congr 1
      refine ih (by simpa using h0) (fun j hj => ?_) (fun hi => ?_)
      · have := h1 (j + 1) (by omega)
        rwa [List.getD_cons_succ] at this
      · have := h2 (by simpa using hi)
        rwa [List.getD_cons_succ] at this
theorem ltM_trans {a b c : Int × Int} (h : ltM a b) (k : ltM b c) : ltM a c := by unfold ltM at *; omega
theorem LS.ok.lt {s : LS} (h : s.ok) {i j : Nat} (hij : i < j) (hj : j < s.l.length) : ltM (s.l.getD i LE.zero).mk_ (s.l.getD j LE.zero).mk_ := by
  have := List.pairwise_iff_getElem.1 h.inc i j (by omega) hj hij
  have e1 : s.l.getD i LE.zero = s.l[i]'(by omega) := by simp [show i < s.l.length by omega]
  have e2 : s.l.getD j LE.zero = s.l[j] := by simp [hj]
  rw [e1, e2]; exact this
theorem idx_le (l : List LE) (t : Int × Int) : idx l t ≤ l.length := by
  unfold idx
  have h := List.takeWhile_prefix (fun e : LE => decide (ltM e.mk_ t)) (l := l)
  exact h.length_le

set_option maxRecDepth 100000 in
set_option maxHeartbeats 8000000 in
theorem bsf_any (b bm p : Nat) (A : Option Addr) (n c : Nat) (s : LS) (t : Int × Int) (w : World) (h : LateV w b bm (.slice A n c) s) (hp : Blk w p 24 #[.pointer (some ⟨b, 0, none⟩)]) :
    Calls Try.prog 45 #[.slice A n c, val2 t, .func (.func 46) #[] #[.pointer (some ⟨p, 0, none⟩)]] w fun e w' => (∃ f, e = .returned (.tuple #[.int .i64 (idx s.l t), .bool f])) ∧ Fr No w w' := by
  have HV := Lib.hid h
  have HP := Lib.hid hp
  have hnl : n = s.l.length := by
    obtain ⟨A', c', e, _⟩ := h.form
    injection e
  have hnb := h.len
  have HNL := Lib.hid hnl
  have HIE := Lib.hid (fun i h0 h1 h2 => idx_eq (l := s.l) (t := t) (i := i) h0 h1 h2)
  rw [← hnl] at HIE hnb
  generalize idx s.l t = r at *
  clear h hp hnl
  obtain ⟨t1, t2⟩ := t
  obtain ⟨w0, hw0⟩ : ∃ w0, w0 = w.alloc (.cells #[.int .i64 t1, .int .i64 t2] 60) := ⟨_, rfl⟩
  have F0 := Lib.hid (show Fr No w w0 by rw [hw0]; exact (Fr.refl No w).alloc _)
  have BT := Lib.hid (show Blk w0 w.heap.size 60 #[.int .i64 t1, .int .i64 t2] by rw [hw0]; exact Blk.new _ _ _)
  have HW := Lib.hid hw0
  clear hw0
  have hval : val2 (t1, t2) = .agg #[.int .i64 t1, .int .i64 t2] := rfl
  rw [hval]
  clear hval
  go_enter Try.func45, Try.ntmps45
  go_wp2
  rw [← HW.out]
  go_loopw [9, 10] (fun i j wr => ∃ k m : Nat, i = .int .i64 k ∧ j = .int .i64 m ∧ k ≤ m ∧ m ≤ n ∧ Hid (Fr No w0 wr) ∧ Hid (∀ q, q < k → ltM (s.l.getD q LE.zero).mk_ (t1, t2)) ∧ Hid (m < n → ¬ ltM (s.l.getD m LE.zero).mk_ (t1, t2))) (fun i j _ => (intOf j).toNat - (intOf i).toNat)
  case atStart => exact ⟨0, n, rfl, rfl, Nat.zero_le _, Nat.le_refl _, Lib.hid (Fr.refl _ _), Lib.hid (fun q h => by omega), Lib.hid (fun h => by omega)⟩
  case round =>
    obtain ⟨k, m, rfl, rfl, hkm, hmn, HF, HL, HR⟩ := hrel
    by_cases hlt : k < m
    · obtain ⟨q, hq2⟩ : ∃ q : Nat, (k + m) / 2 = q := ⟨_, rfl⟩
      have hh : ((k : Int) + (m : Int)) / 2 = (q : Int) := by omega
      have hqk : k ≤ q := by omega
      have hqm : q < m := by omega
      have hql : q < s.l.length := by rw [← HNL.out]; omega
      have HV2 := HV.out.fr (F0.out.then0 HF.out) (fun _ _ x => x)
      obtain ⟨hnq, g, rfl, hg, hc⟩ := HV2.at_ hql
      clear hnq
      have HC := Lib.hid (find1_any b bm p _ s q hql (t1, t2) wr.drew (HV2.fr (Fr.refl No wr).drew (fun _ _ x => x)) ((HP.out.fr (F0.out.then0 HF.out) (fun x => x)).fr (Fr.refl No wr).drew (fun x => x)))
      have SK := Lib.hid (fun (X : World) (hX : Fr No wr X) => (show (X.cell? ⟨g, q, none⟩ = some (.int .i64 (s.l.getD q LE.zero).id) ∧ X.cell? ⟨w.heap.size, 0, none⟩ = some (.int .i64 t1) ∧ X.cell? ⟨w.heap.size, 1, none⟩ = some (.int .i64 t2)) from
        ⟨(hX.cell hg (fun x => x)).trans hc, (blk2 ((BT.out.fr HF.out (fun x => x)).fr hX (fun x => x))).1, (blk2 ((BT.out.fr HF.out (fun x => x)).fr hX (fun x => x))).2⟩))
      obtain ⟨s0, s1, s2⟩ := SK.out wr (Fr.refl _ _)
      have HLT := Lib.hid (ordM_lt (s.l.getD q LE.zero).mk_ (t1, t2))
      have HINC := Lib.hid (show ∀ j, j < q → ltM (s.l.getD j LE.zero).mk_ (s.l.getD q LE.zero).mk_ from fun j hj => HV.out.ok.lt hj hql)
      have FD := Lib.hid (Fr.refl No wr).drew
      generalize hid : (s.l.getD q LE.zero).id = x at *
      clear hid hc
      generalize ordM (s.l.getD q LE.zero).mk_ (t1, t2) = o at *
      have hval : val2 (t1, t2) = .agg #[.int .i64 t1, .int .i64 t2] := rfl
      rw [hval] at HC
      have hqn : (q : Int) < (n : Int) := by omega
      clear hval hql HV2 hq2
      by_cases ho : o < 0
      · have HA := Lib.hid (show ∀ j, j < q + 1 → ltM (s.l.getD j LE.zero).mk_ (t1, t2) from fun j hj => by
          by_cases e : j = q
          · rw [e]; exact HLT.out.1 ho
          · exact ltM_trans (HINC.out j (by omega)) (HLT.out.1 ho))
        go_wp2
        go_region_held3 (fun w' => w'.cell? ⟨g, q, none⟩ = some (.int .i64 x) ∧ w'.cell? ⟨w.heap.size, 0, none⟩ = some (.int .i64 t1) ∧ w'.cell? ⟨w.heap.size, 1, none⟩ = some (.int .i64 t2))
          (first | exact SK.out _ (FD.out.then0 FA.out) | exact SK.out _ FD.out | go_keep)
          (first | (go_at_call 46; ((with_reducible refine HC.out.mono ?_); rintro e wA ⟨rfl, hf⟩); have FA := Lib.hid hf; clear hf))
        all_goals
          go_wp2
          go_roundw
          case rel => exact ⟨q + 1, m, by go_num, rfl, by omega, hmn, Lib.hid (HF.out.then0 (FD.out.then0 FA.out)), HA, HR⟩
          case measure => simp [intOf]; omega
      · have HA := Lib.hid (show q < n → ¬ ltM (s.l.getD q LE.zero).mk_ (t1, t2) from fun _ h => ho (HLT.out.2 h))
        go_wp2
        go_region_held3 (fun w' => w'.cell? ⟨g, q, none⟩ = some (.int .i64 x) ∧ w'.cell? ⟨w.heap.size, 0, none⟩ = some (.int .i64 t1) ∧ w'.cell? ⟨w.heap.size, 1, none⟩ = some (.int .i64 t2))
          (first | exact SK.out _ (FD.out.then0 FA.out) | exact SK.out _ FD.out | go_keep)
          (first | (go_at_call 46; ((with_reducible refine HC.out.mono ?_); rintro e wA ⟨rfl, hf⟩); have FA := Lib.hid hf; clear hf))
        all_goals
          go_wp2
          go_roundw
          case rel => exact ⟨k, q, rfl, rfl, by omega, by omega, Lib.hid (HF.out.then0 (FD.out.then0 FA.out)), HL, HA⟩
          case measure => simp [intOf]; omega
    · obtain rfl : k = m := by omega
      have HE := Lib.hid (HIE.out k hmn HL.out (fun hk => HR.out hk))
      by_cases hkn : k < n
      · have hql : k < s.l.length := by rw [← HNL.out]; omega
        have HV2 := HV.out.fr (F0.out.then0 HF.out) (fun _ _ x => x)
        obtain ⟨hnq, g, rfl, hg, hc⟩ := HV2.at_ hql
        clear hnq
        have HC := Lib.hid (find1_any b bm p _ s k hql (t1, t2) wr.drew (HV2.fr (Fr.refl No wr).drew (fun _ _ x => x)) ((HP.out.fr (F0.out.then0 HF.out) (fun x => x)).fr (Fr.refl No wr).drew (fun x => x)))
        have SK := Lib.hid (fun (X : World) (hX : Fr No wr X) => (show (X.cell? ⟨g, k, none⟩ = some (.int .i64 (s.l.getD k LE.zero).id) ∧ X.cell? ⟨w.heap.size, 0, none⟩ = some (.int .i64 t1) ∧ X.cell? ⟨w.heap.size, 1, none⟩ = some (.int .i64 t2)) from
          ⟨(hX.cell hg (fun x => x)).trans hc, (blk2 ((BT.out.fr HF.out (fun x => x)).fr hX (fun x => x))).1, (blk2 ((BT.out.fr HF.out (fun x => x)).fr hX (fun x => x))).2⟩))
        obtain ⟨s0, s1, s2⟩ := SK.out wr (Fr.refl _ _)
        have FD := Lib.hid (Fr.refl No wr).drew
        generalize hid : (s.l.getD k LE.zero).id = x at *
        clear hid hc
        generalize ordM (s.l.getD k LE.zero).mk_ (t1, t2) = o at *
        have hval : val2 (t1, t2) = .agg #[.int .i64 t1, .int .i64 t2] := rfl
        rw [hval] at HC
        have hqn : (k : Int) < (n : Int) := by omega
        clear hval hql HV2
        go_wp2
        go_region_held3 (fun w' => w'.cell? ⟨g, k, none⟩ = some (.int .i64 x) ∧ w'.cell? ⟨w.heap.size, 0, none⟩ = some (.int .i64 t1) ∧ w'.cell? ⟨w.heap.size, 1, none⟩ = some (.int .i64 t2))
          (first | exact SK.out _ (FD.out.then0 FA.out) | exact SK.out _ FD.out | go_keep)
          (first | (go_at_call 46; ((with_reducible refine HC.out.mono ?_); rintro e wA ⟨rfl, hf⟩); have FA := Lib.hid hf; clear hf))
        all_goals
          go_wp2
          go_ret2
          rw [HE.out]
          exact ⟨⟨_, rfl⟩, F0.out.then0 (HF.out.then0 (FD.out.then0 FA.out))⟩
      · have hkn2 : ¬ (k : Int) < (n : Int) := by omega
        go_wp2
        go_quiet (fail)
        go_wp2
        go_ret2
        rw [HE.out]
        exact ⟨⟨_, rfl⟩, (F0.out.then0 HF.out).drewN _⟩

/-! ### find -/
set_option maxHeartbeats 4000000 in
theorem find_any (b bm : Nat) (v : Value) (s : LS) (t : Int × Int) (w : World) (h : LateV w b bm v s) : Calls Try.prog 37 #[.pointer (some ⟨b, 0, none⟩), val2 t] w fun e w' => e = .returned (.int .i64 (idx s.l t)) ∧ Fr No w w' := by
  obtain ⟨A, c, rfl, _⟩ := h.form
  obtain ⟨t1, t2⟩ := t
  have hval : val2 (t1, t2) = .agg #[.int .i64 t1, .int .i64 t2] := rfl
  obtain ⟨w0, hw0⟩ : ∃ w0, w0 = (w.alloc (.cells #[.pointer (some ⟨b, 0, none⟩)] 24)).alloc (.cells #[.int .i64 t1, .int .i64 t2] 60) := ⟨_, rfl⟩
  have F0 := Lib.hid (show Fr No w w0 by rw [hw0]; exact ((Fr.refl No w).alloc _).alloc _)
  have BP := Lib.hid (show Blk w0 w.heap.size 24 #[.pointer (some ⟨b, 0, none⟩)] by rw [hw0]; exact (Blk.new _ _ _).alloc _)
  have BT := Lib.hid (show Blk w0 (w.heap.size + 1) 60 #[.int .i64 t1, .int .i64 t2] by
    rw [hw0]
    have := Blk.new (w.alloc (.cells #[.pointer (some ⟨b, 0, none⟩)] 24)) 60 #[.int .i64 t1, .int .i64 t2]
    rwa [World.size_alloc] at this)
  have HV := Lib.hid (h.fr F0.out (fun _ _ x => x))
  have FD := Lib.hid (Fr.refl No w0).drew
  have HC := Lib.hid (bsf_any b bm w.heap.size A s.l.length c s (t1, t2) w0.drew (HV.out.fr FD.out (fun _ _ x => x)) (BP.out.fr FD.out (fun x => x)))
  rw [hval] at HC
  rw [hval]
  have SK := Lib.hid (fun (X : World) (hX : Fr No w0 X) => (show (X.cell? ⟨w.heap.size, 0, none⟩ = some (.pointer (some ⟨b, 0, none⟩)) ∧ X.cell? ⟨b, 1, none⟩ = some (.slice A s.l.length c) ∧ X.cell? ⟨w.heap.size + 1, 0, none⟩ = some (.int .i64 t1) ∧ X.cell? ⟨w.heap.size + 1, 1, none⟩ = some (.int .i64 t2)) from
    ⟨(BP.out.fr hX (fun x => x)).cell 0, ((HV.out.fr hX (fun _ _ x => x)).cells).2.1, (blk2 (BT.out.fr hX (fun x => x))).1, (blk2 (BT.out.fr hX (fun x => x))).2⟩))
  obtain ⟨s0, s1, s2, s3⟩ := SK.out w0 (Fr.refl _ _)
  have HW := Lib.hid hw0
  generalize idx s.l (t1, t2) = r at *
  clear hval hw0 h
  go_enter Try.func37, Try.ntmps37
  go_wp2_with fail
  rw [← HW.out]
  go_region_held3 (fun w' => w'.cell? ⟨w.heap.size, 0, none⟩ = some (.pointer (some ⟨b, 0, none⟩)) ∧ w'.cell? ⟨b, 1, none⟩ = some (.slice A s.l.length c) ∧ w'.cell? ⟨w.heap.size + 1, 0, none⟩ = some (.int .i64 t1) ∧ w'.cell? ⟨w.heap.size + 1, 1, none⟩ = some (.int .i64 t2))
    (first | exact SK.out _ (FD.out.then0 FA.out) | exact SK.out _ FD.out | go_keep)
    (first | (go_at_call 45; ((with_reducible refine HC.out.mono ?_); rintro e wA ⟨⟨f, rfl⟩, hf⟩); have FA := Lib.hid hf; clear hf))
  all_goals
    go_wp2
    go_ret
    exact ⟨rfl, F0.out.then0 (FD.out.then0 FA.out)⟩
end Go.Proofs.Ytgkpmckbdagkcaa
