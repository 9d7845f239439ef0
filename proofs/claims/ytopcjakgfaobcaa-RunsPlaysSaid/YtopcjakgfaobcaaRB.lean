/- The document's table: Get, Oldest, Live, Copy. -/
import Derived.Test.YtopcjakgfaobcaaRA
namespace Go.Proofs.Ytopcjakgfaobcaa
open Go.RowKit Go.Wk

theorem posI_none {s : TS} {r : Int} (h : s.pos r = none) : s.posI r = -1 := by unfold TS.posI; rw [h]
theorem posI_some {s : TS} {r : Int} {i : Nat} (h : s.pos r = some i) : s.posI r = i := by unfold TS.posI; rw [h]

theorem rget_any (b : Nat) (D : Nat → Prop) (s : TS) (w : World) (r : Int) (h : RTabAt w b D s) :
    Calls Try.prog 34 #[.pointer (some ⟨b, 0, none⟩), .int .i64 r] w fun x w' => x = .returned (.tuple #[(s.getV r).agg, .bool (s.has r)]) ∧ Fr No w w' := by
  have F1 := (Fr.refl No w).alloc (.cells #[.int .i64 0, .int .i64 0, .int .i64 0, .int .i64 0, .int .i64 0] 31)
  have HA := Lib.hid (rat_any b D s r _ (h.fr0 F1))
  have hX := Blk.new w 31 #[.int .i64 0, .int .i64 0, .int .i64 0, .int .i64 0, .int .i64 0]
  have fz := hX.frozen
  have hD := hX.lt
  obtain ⟨v, hv, _⟩ := h.fr0 F1
  obtain ⟨A, c, rfl, _⟩ := own_form2 hv.own
  cases hp : s.pos r with
  | none =>
    have e1 : s.getV r = RV.zero := by unfold TS.getV; rw [hp]
    have e2 : s.has r = false := by unfold TS.has; rw [hp]; rfl
    rw [posI_none hp] at HA
    rw [e1, e2]
    obtain ⟨d0, d1, d2, d3, d4⟩ := cells5 hX
    clear h hv e1 e2
    go_enter Try.func34, Try.ntmps34
    go_wp2_with (go_at_call 42; refine HA.out.mono ?_; rintro e w1 ⟨rfl, rfl⟩)
    exact bodyPost_ret (v := .tuple #[RV.zero.agg, .bool false]) (by rw [results_cell_tmp rfl]; unfold RV.agg RV.zero; go_simp) rfl ⟨rfl, F1⟩
  | some i =>
    have hi := (pos_lt hp).1
    have e1 : s.getV r = s.live.getD i RV.zero := by unfold TS.getV; rw [hp]
    have e2 : s.has r = true := by unfold TS.has; rw [hp]; rfl
    rw [posI_some hp] at HA
    rw [e1, e2]
    have hn1 := hv.ok.len
    have hn2 := hv.ok.s1
    obtain ⟨g, rfl, hg, a0, a1, a2, a3, a4⟩ := own_at5 hv.own hi
    have c1 := hv.blk.cell 2
    simp only [List.getElem?_toArray, List.getElem?_cons_succ, List.getElem?_cons_zero] at c1
    generalize s.live.getD i RV.zero = x at *
    generalize s.live.length = n at *
    obtain ⟨w0, hw0⟩ : ∃ w0, w0 = w.alloc (.cells #[.int .i64 0, .int .i64 0, .int .i64 0, .int .i64 0, .int .i64 0] 31) := ⟨_, rfl⟩
    have d0 := hX.cell 0; have d1 := hX.cell 1; have d2 := hX.cell 2; have d3 := hX.cell 3; have d4 := hX.cell 4
    simp only [List.getElem?_toArray, List.getElem?_cons_succ, List.getElem?_cons_zero] at d0 d1 d2 d3 d4
    clear h hv e1 e2
    rw [← hw0] at F1 HA hX fz hD a0 a1 a2 a3 a4 c1 d0 d1 d2 d3 d4
    go_enter Try.func34, Try.ntmps34
    go_wp2_with fail
    rw [← hw0]
    have HW0 := Lib.hid hw0
    clear hw0
    refine HA.out.mono ?_
    rintro e w1 ⟨rfl, rfl⟩
    go_wp2
    have hB := blk_setRun hX (.int .i64 x.id) (.int .i64 x.job) (.int .i64 x.due) (.int .i64 x.att) (.int .i64 x.start)
    have FB := fr_setRun F1 (X := w.heap.size) (.inl (Nat.le_refl _)) (.int .i64 x.id) (.int .i64 x.job) (.int .i64 x.due) (.int .i64 x.att) (.int .i64 x.start)
    generalize (((((w0.setCell ⟨w.heap.size, 0, none⟩ (.int .i64 x.id)).setCell ⟨w.heap.size, 1, none⟩ (.int .i64 x.job)).setCell ⟨w.heap.size, 2, none⟩ (.int .i64 x.due)).setCell ⟨w.heap.size, 3, none⟩ (.int .i64 x.att)).setCell ⟨w.heap.size, 4, none⟩ (.int .i64 x.start)) = w2 at *
    obtain ⟨e0, e1, e2, e3, e4⟩ := cells5 hB
    clear hB d0 d1 d2 d3 d4 a0 a1 a2 a3 a4
    exact bodyPost_ret (v := .tuple #[x.agg, .bool true]) (by rw [results_cell_tmp rfl]; unfold RV.agg; go_simp) rfl ⟨rfl, FB⟩

theorem rlive_any (b : Nat) (D : Nat → Prop) (s : TS) (w : World) (h : RTabAt w b D s) : Calls Try.prog 33 #[.pointer (some ⟨b, 0, none⟩)] w fun x w' => Lived w s x w' := by
  obtain ⟨i0, hi, hz0, hz1, hz2⟩ : ∃ i, Try.prog.info? 31 = some i ∧ i.zero = some (.agg #[.int .i64 0, .int .i64 0, .int .i64 0, .int .i64 0, .int .i64 0]) ∧ i.size = 5 ∧ i.bytes = 40 := ⟨_, rfl, rfl, rfl, rfl⟩
  have HV := Lib.hid (rvalid_any b D s w h)
  obtain ⟨v, h, _⟩ := h
  obtain ⟨A, c, rfl, _, hrd⟩ := own_form2 h.own
  have hn1 := h.ok.len
  have hn2 := h.ok.s1
  have c1 := h.blk.cell 2
  simp only [List.getElem?_toArray, List.getElem?_cons_succ, List.getElem?_cons_zero] at c1
  have hbl := h.blk.lt
  have c2 : (w.alloc (.cells #[] 31)).cell? ⟨b, 2, none⟩ = some (.slice A s.live.length c) := (World.cell?_alloc_lt w (.cells #[] 31) ⟨b, 2, none⟩ hbl).trans c1
  have R1 := Lib.hid (hrd.alloc (Nat.le_refl _) (.cells #[] 31))
  have O1 := Lib.hid (show (w.alloc (.cells #[] 31)).ownsRow w.heap.size 31 5 (.slice (some ⟨w.heap.size, 0, none⟩) 0 0) 0 [] from ⟨rfl, .inr ⟨w.heap.size, 0, #[], rfl, Nat.le_refl _, Blk.new w 31 #[], Nat.le_refl _, Nat.zero_le _, rfl, rfl⟩⟩)
  obtain ⟨l, hl⟩ : ∃ l, l = s.live := ⟨_, rfl⟩
  rw [← hl] at hn1 c1 c2 R1
  obtain ⟨n, hn⟩ : ∃ n, n = l.length := ⟨_, rfl⟩
  rw [← hn] at hn1 c1 c2 R1
  have HL := Lib.hid hl
  have HN := Lib.hid hn
  have HB1 := Lib.hid (show (0 + n) * 40 ≤ 140737488355328 by omega)
  have HB0 := Lib.hid (show 0 + n ≤ maxLen by unfold maxLen; omega)
  clear h hrd hl hn
  go_enter Try.func33, Try.ntmps33
  go_wp2_with (first
    | (go_at_call 41; refine HV.out.mono ?_; rintro e w1 ⟨rfl, rfl⟩)
    | (at_builtin; refine wpList_append_any (w.alloc (.cells #[] 31)) rfl (.tmp 6) (.tmp 10) 37 rfl w.heap.size 31 i0 (.agg #[.int .i64 0, .int .i64 0, .int .i64 0, .int .i64 0, .int .i64 0]) 5 40 Try.underlying37 hi hz0 hz1 hz2 rfl (by omega) (.slice (some ⟨w.heap.size, 0, none⟩) 0 0) 0 [] rfl O1.out w.heap.size A n c (rcells l) rfl R1.out (rcells_one _) HB0.out HB1.out (by simp) ?_))
  intro v' w2 hown2 hg2 hloc2
  obtain ⟨A2, q2, rfl⟩ := own_form' hown2
  have F2 : Fr No w w2 := ((Fr.refl No w).alloc (.cells #[] 31)).own (Fr.of_grown (S := (· = w.heap.size)) hg2 (fun k hk => by simpa [Value.ownBlock] using hk.symm)) (Nat.le_refl _)
  go_wp2
  go_ret
  unfold Lived
  rw [← HL.out, ← HN.out]
  exact ⟨A2, q2, by simp, hown2, F2⟩

/-- What the document's Copy leaves. -/
def RCopied (w : World) (s : TS) (x : Ending) (w' : World) : Prop := ∃ b D, x = .returned (.pointer (some ⟨b, 0, none⟩)) ∧ RTabAt w' b D s ∧ Fr No w w' ∧ (∀ k, D k → w.heap.size ≤ k)
theorem rcopy_any (b : Nat) (D : Nat → Prop) (s : TS) (w : World) (h : RTabAt w b D s) : Calls Try.prog 28 #[.pointer (some ⟨b, 0, none⟩)] w fun x w' => RCopied w s x w' := by
  have HV := Lib.hid (rvalid_any b D s w h)
  have HC := Lib.hid (rlive_any b D s w.drew (h.fr0 ((Fr.refl No w).drew)))
  obtain ⟨v, h, _⟩ := h
  have c0 := h.blk.cell 1
  have c2 := h.blk.cell 3
  simp only [List.getElem?_toArray, List.getElem?_cons_succ, List.getElem?_cons_zero] at c0 c2
  have hbl := h.blk.lt
  have HOK := Lib.hid h.ok
  clear h
  have KD : w.drew.cell? ⟨b, 1, none⟩ = some (.int .i64 s.size) ∧ w.drew.cell? ⟨b, 3, none⟩ = some (.int .i64 s.last) := ⟨c0, c2⟩
  go_enter Try.func28, Try.ntmps28
  go_wp2_with (go_at_call 41; refine HV.out.mono ?_; rintro e w1 ⟨rfl, rfl⟩)
  go_region_held3 (fun w' => w'.cell? ⟨b, 1, none⟩ = some (.int .i64 s.size) ∧ w'.cell? ⟨b, 3, none⟩ = some (.int .i64 s.last)) (first | go_keep | exact k1 | exact KD)
    (first
      | (go_at_call 33; refine HC.out.mono ?_; rintro x w1 ⟨A2, q2, rfl, hown, hf⟩; have k1 : w1.cell? ⟨b, 1, none⟩ = some (.int .i64 s.size) ∧ w1.cell? ⟨b, 3, none⟩ = some (.int .i64 s.last) := ⟨(hf.cell (p := ⟨b, 1, none⟩) hbl (fun x => x)).trans c0, (hf.cell (p := ⟨b, 3, none⟩) hbl (fun x => x)).trans c2⟩))
  go_wp2
  go_ret
  refine ⟨_, dom w1.heap.size (.slice A2 s.live.length q2), rfl, ⟨_, ⟨Blk.new _ _ _, ?_, HOK.out⟩, rfl⟩, ((Fr.refl No w).drew.then0 hf).alloc _, ?_⟩
  · exact own_fr (own_base hown (Nat.zero_le _)) ((Fr.refl No w1).alloc _) (fun _ _ x => x)
  · rintro k (rfl | hk)
    · exact hf.size
    · exact (hown.lt k hk).1

theorem roldest_nil (b : Nat) (D : Nat → Prop) (s : TS) (now : Int) (w : World) (h : RTabAt w b D s) (he : s.live = []) :
    Calls Try.prog 29 #[.pointer (some ⟨b, 0, none⟩), .int .i64 now] w fun e w' => e = .returned (.tuple #[.int .i64 0, .int .i64 0, .bool false]) ∧ Fr No w w' := by
  have HV := Lib.hid (rvalid_any b D s w h)
  obtain ⟨v, h, _⟩ := h
  obtain ⟨A, c, rfl, _⟩ := own_form2 h.own
  have c1 := h.blk.cell 2
  simp only [List.getElem?_toArray, List.getElem?_cons_succ, List.getElem?_cons_zero] at c1
  rw [he] at c1
  clear h
  go_enter Try.func29, Try.ntmps29
  go_wp2_with (go_at_call 41; refine HV.out.mono ?_; rintro e w1 ⟨rfl, rfl⟩)
  go_ret3
  exact ⟨rfl, Fr.refl _ _⟩

theorem ret3i {k : IntKind} {a a' b b' : Int} {v : Value} (h : a = a') (h' : b = b') : Ending.returned (.tuple #[.int k a, .int k b, v]) = Ending.returned (.tuple #[.int k a', .int k b', v]) := by rw [h, h']
theorem oldest_take_one {l : List RV} (h : 0 < l.length) : oldest (l.getD 0 RV.zero) (l.take 1) = l.getD 0 RV.zero := by
  rw [show l.take 1 = [l.getD 0 RV.zero] by rw [take_run (i := 0) h]; rfl]
  unfold oldest older
  simp
theorem oldest_succ {l : List RV} (l0 : RV) {k : Nat} (h : k < l.length) : oldest l0 (l.take (k + 1)) = older (oldest l0 (l.take k)) (l.getD k RV.zero) := by
  rw [take_run h, oldest_snoc]

set_option maxRecDepth 100000 in
set_option maxHeartbeats 2000000 in
theorem roldest_some (b : Nat) (D : Nat → Prop) (s : TS) (now : Int) (w : World) (h : RTabAt w b D s) (he : s.live ≠ []) (hnw : now ≤ 9223372036854775807) :
    Calls Try.prog 29 #[.pointer (some ⟨b, 0, none⟩), .int .i64 now] w fun e w' => e = .returned (.tuple #[.int .i64 s.oldId, .int .i64 (s.oldAge now), .bool true]) ∧ Fr No w w' := by
  have HV := Lib.hid (rvalid_any b D s w h)
  have e1 : s.oldId = s.old.id := by unfold TS.oldId; rw [if_neg he]
  have e2 : s.oldAge now = if now < s.old.start then 0 else min (now - s.old.start) 4611686018427387904 := by unfold TS.oldAge; rw [if_neg he]
  obtain ⟨ht1, ht2⟩ := h.ok.times _ (old_mem he)
  have HE1 := Lib.hid e1
  have HE2 := Lib.hid e2
  clear e1 e2
  have hl0 := List.length_pos_iff.2 he
  have HOT := Lib.hid (oldest_take_one hl0)
  have HOS := Lib.hid (fun k => fun (hk : k < s.live.length) => oldest_succ (s.live.getD 0 RV.zero) hk)
  have HOE := Lib.hid (show oldest (s.live.getD 0 RV.zero) (s.live.take s.live.length) = s.old by rw [List.take_length]; rfl)
  obtain ⟨v, hv, _⟩ := h
  obtain ⟨A, c, hvv, _, _⟩ := own_form2 hv.own
  subst hvv
  have hn1 := hv.ok.len
  have hn2 := hv.ok.s1
  have HW := Lib.hid hv.own
  have HBK := Lib.hid hv.blk
  have c1 := hv.blk.cell 2
  simp only [List.getElem?_toArray, List.getElem?_cons_succ, List.getElem?_cons_zero] at c1
  obtain ⟨g, hA, hg, a0, a1, a2, a3, a4⟩ := own_at5 hv.own hl0
  subst hA
  simp only [Nat.zero_mul, Nat.zero_add] at a0 a1 a2 a3 a4
  have hbl := hv.blk.lt
  clear hv he
  obtain ⟨l, hl⟩ : ∃ l, l = s.live := ⟨_, rfl⟩
  rw [← hl] at HOT HOS HOE a0 a1 a2 a3 a4 c1 HW HBK hn1 hl0
  obtain ⟨n, hn⟩ : ∃ n, n = l.length := ⟨_, rfl⟩
  rw [← hn] at HOS HOE c1 HW HBK hn1 hl0
  generalize l.getD 0 RV.zero = l0 at *
  have HN := Lib.hid hn
  clear hl hn
  have hn0 : ((n : Int) == 0) = false := by simp; omega
  have hT := Lib.hid (show Blk (w.alloc (.cells #[.int .i64 l0.id, .int .i64 l0.job, .int .i64 l0.due, .int .i64 l0.att, .int .i64 l0.start] 31)) w.heap.size 31 #[.int .i64 l0.id, .int .i64 l0.job, .int .i64 l0.due, .int .i64 l0.att, .int .i64 l0.start] from Blk.new w 31 _)
  have HF := Lib.hid ((Fr.refl No w).alloc (.cells #[.int .i64 l0.id, .int .i64 l0.job, .int .i64 l0.due, .int .i64 l0.att, .int .i64 l0.start] 31))
  have HRV := Lib.hid HV.out
  go_enter Try.func29, Try.ntmps29
  go_wp2_with (go_at_call 41; refine HV.out.mono ?_; rintro e w1 ⟨rfl, rfl⟩)
  go_loopw [8] (fun i wr => ∃ (k : Nat) (o : RV), k ≤ n ∧ i = .int .i64 k ∧ 1 ≤ k ∧ Hid (o = oldest l0 (l.take k)) ∧ Fr No w wr ∧ Blk wr w.heap.size 31 #[.int .i64 o.id, .int .i64 o.job, .int .i64 o.due, .int .i64 o.att, .int .i64 o.start]) (fun i _ => n - (intOf i).toNat)
  case atStart => exact ⟨1, l0, by omega, rfl, by omega, Lib.hid HOT.out.symm, HF.out, hT.out⟩
  case round =>
    clear HF hT
    obtain ⟨k, o, hk, rfl, hk1, HO, F, hX⟩ := hrel
    have c2 := ((HBK.out.fr F (fun x => x)).cell 2)
    simp only [List.getElem?_toArray, List.getElem?_cons_succ, List.getElem?_cons_zero] at c2
    obtain ⟨d0, d1, d2, d3, d4⟩ := cells5 hX
    have dz := hX.frozen
    have HX := Lib.hid hX
    have HF := Lib.hid F
    by_cases hlt : k < n
    · obtain ⟨g', hgg, hg', b0, b1, b2, b3, b4⟩ := own_at5 (own_fr HW.out F (fun _ _ x => x)) hlt
      injection hgg with hgg
      injection hgg with hg1
      subst hg1
      have HS := Lib.hid (HOS.out k hlt)
      rw [← HO.out] at HS
      generalize l.getD k RV.zero = x at *
      clear hX F a0 a1 a2 a3 a4 c1
      by_cases hlo : x.start < o.start
      · have e1 : older o x = x := by unfold older; rw [if_pos hlo]
        rw [e1] at HS
        go_wp2
        go_quiet (fail)
        go_wp2
        go_roundw
        case rel => exact ⟨k + 1, x, by omega, by go_num, by omega, Lib.hid HS.out.symm, fr_setRun (HF.out.drewN _) (X := w.heap.size) (.inl (Nat.le_refl _)) _ _ _ _ _, blk_setRun (HX.out.drewN _) _ _ _ _ _⟩
        case measure => simp [intOf]; omega
      · have e1 : older o x = o := by unfold older; rw [if_neg hlo]
        rw [e1] at HS
        go_wp2
        go_quiet (fail)
        go_wp2
        go_roundw
        case rel => exact ⟨k + 1, o, by omega, by go_num, by omega, Lib.hid HS.out.symm, HF.out.drewN _, HX.out.drewN _⟩
        case measure => simp [intOf]; omega
    · have hkn : k = n := by omega
      have ho : s.old = o := by rw [HO.out, hkn, HOE.out]
      rw [ho] at ht1 ht2
      have HOO := Lib.hid ho
      clear hX F a0 a1 a2 a3 a4 c1 hkn ho
      by_cases hnow : o.start < now
      · by_cases hmin : now - o.start ≤ 4611686018427387904
        all_goals
          go_wp2
          go_ret3
          refine ⟨?_, HF.out⟩
          exact ret3i (by rw [HE1.out, HOO.out]) (by rw [HE2.out, HOO.out]; first | omega | (split <;> omega))
      · go_wp2
        go_ret3
        refine ⟨?_, HF.out⟩
        exact ret3i (by rw [HE1.out, HOO.out]) (by rw [HE2.out, HOO.out]; first | omega | (split <;> omega))

theorem roldest_any (b : Nat) (D : Nat → Prop) (s : TS) (now : Int) (w : World) (h : RTabAt w b D s) (hnw : now ≤ 9223372036854775807) :
    Calls Try.prog 29 #[.pointer (some ⟨b, 0, none⟩), .int .i64 now] w fun e w' => e = .returned (.tuple #[.int .i64 s.oldId, .int .i64 (s.oldAge now), .bool (decide (s.live ≠ []))]) ∧ Fr No w w' := by
  by_cases he : s.live = []
  · have e1 : s.oldId = 0 := by unfold TS.oldId; rw [if_pos he]
    have e2 : s.oldAge now = 0 := by unfold TS.oldAge; rw [if_pos he]
    rw [e1, e2, show decide (s.live ≠ []) = false by simpa using he]
    exact roldest_nil b D s now w h he
  · rw [show decide (s.live ≠ []) = true by simpa using he]
    exact roldest_some b D s now w h he hnw
end Go.Proofs.Ytopcjakgfaobcaa
