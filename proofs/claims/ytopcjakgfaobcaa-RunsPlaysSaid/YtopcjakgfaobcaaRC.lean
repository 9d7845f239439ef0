/- The document's table: Finish. -/
import Derived.Test.YtopcjakgfaobcaaRB
namespace Go.Proofs.Ytopcjakgfaobcaa
open Go.RowKit Go.Wk

theorem rfinish_none (b : Nat) (D : Nat → Prop) (s : TS) (w : World) (r : Int) (h : RTabAt w b D s) (hp : s.pos r = none) :
    Calls Try.prog 27 #[.pointer (some ⟨b, 0, none⟩), .int .i64 r] w fun x w' => x = .returned (.tuple #[RV.zero.agg, .int .i64 5]) ∧ Fr No w w' := by
  have F1 := (Fr.refl No w).alloc (.cells #[.int .i64 0, .int .i64 0, .int .i64 0, .int .i64 0, .int .i64 0] 31)
  have HV := Lib.hid (rvalid_any b D s _ (h.fr0 F1))
  have HA := Lib.hid (rat_any b D s r _ (h.fr0 F1))
  rw [posI_none hp] at HA
  obtain ⟨d0, d1, d2, d3, d4⟩ := cells5 (Blk.new w 31 #[.int .i64 0, .int .i64 0, .int .i64 0, .int .i64 0, .int .i64 0])
  clear h hp
  go_enter Try.func27, Try.ntmps27
  go_wp2_with (first
    | (go_at_call 41; refine HV.out.mono ?_; rintro e w1 ⟨rfl, rfl⟩)
    | (go_at_call 42; refine HA.out.mono ?_; rintro e w1 ⟨rfl, rfl⟩))
  exact bodyPost_ret (v := .tuple #[RV.zero.agg, .int .i64 5]) (by rw [results_cell_tmp rfl]; unfold RV.agg RV.zero; go_simp) rfl ⟨rfl, F1⟩

set_option maxRecDepth 100000 in
set_option maxHeartbeats 4000000 in
theorem rfinish_some (b : Nat) (D : Nat → Prop) (s : TS) (w : World) (r : Int) (p : Nat) (h : RTabAt w b D s) (hp : s.pos r = some p) :
    Calls Try.prog 27 #[.pointer (some ⟨b, 0, none⟩), .int .i64 r] w fun x w' => x = .returned (.tuple #[(s.live.getD p RV.zero).agg, .int .i64 0]) ∧ ∃ D', RTabAt w' b D' (s.del p) ∧ Fr D w w' ∧ ∀ k, D' k → D k ∨ w.heap.size ≤ k := by
  obtain ⟨i0, hi, hiz0, hiz1, hiz2⟩ : ∃ i, Try.prog.info? 31 = some i ∧ i.zero = some (.agg #[.int .i64 0, .int .i64 0, .int .i64 0, .int .i64 0, .int .i64 0]) ∧ i.size = 5 ∧ i.bytes = 40 := ⟨_, rfl, rfl, rfl, rfl⟩
  have F1 := (Fr.refl No w).alloc (.cells #[.int .i64 0, .int .i64 0, .int .i64 0, .int .i64 0, .int .i64 0] 31)
  have HV := Lib.hid (rvalid_any b D s _ (h.fr0 F1))
  have HA := Lib.hid (rat_any b D s r _ (h.fr0 F1))
  rw [posI_some hp] at HA
  have HDb : Hid (D b) := Lib.hid (by obtain ⟨v, _, rfl⟩ := h; exact .inl rfl)
  have hpl := (pos_lt hp).1
  obtain ⟨v, hv, _⟩ := h.fr0 F1
  obtain ⟨A, c, hvv, hmc, _⟩ := own_form2 hv.own
  subst hvv
  obtain ⟨g, hA, hg, a0, a1, a2, a3, a4⟩ := own_at5 hv.own hpl
  subst hA
  have hn1 := hv.ok.len
  have hn2 := hv.ok.s1
  have hbw : b < w.heap.size := h.lt HDb.out
  have hX := Blk.new w 31 #[.int .i64 0, .int .i64 0, .int .i64 0, .int .i64 0, .int .i64 0]
  have c1 := hv.blk.cell 2
  simp only [List.getElem?_toArray, List.getElem?_cons_succ, List.getElem?_cons_zero] at c1
  obtain ⟨y, hy⟩ : ∃ y, y = s.live.getD p RV.zero := ⟨_, rfl⟩
  rw [← hy] at a0 a1 a2 a3 a4
  have HYV := Lib.hid hy
  obtain ⟨m, hm⟩ : ∃ m, m = s.live.length := ⟨_, rfl⟩
  have HLN := Lib.hid hm.symm
  have hblk := hv.blk
  have hown := hv.own
  have HOK := Lib.hid hv.ok
  rw [← hm] at hn1 hpl hmc c1 hblk hown
  obtain ⟨w0, hw0⟩ : ∃ w0, w0 = w.alloc (.cells #[.int .i64 0, .int .i64 0, .int .i64 0, .int .i64 0, .int .i64 0] 31) := ⟨_, rfl⟩
  rw [← hw0] at F1 HV HA hX c1 a0 a1 a2 a3 a4 hblk hown hg
  have hs0 : w0.heap.size = w.heap.size + 1 := by rw [hw0]; simp
  have hY := Blk.new w0 31 #[.int .i64 y.id, .int .i64 y.job, .int .i64 y.due, .int .i64 y.att, .int .i64 y.start]
  have F2 := (Fr.refl No w0).alloc (.cells #[.int .i64 y.id, .int .i64 y.job, .int .i64 y.due, .int .i64 y.att, .int .i64 y.start] 31)
  have HBK := Lib.hid (hblk.fr F2 (fun x => x))
  have HOWN := Lib.hid (own_fr hown F2 (fun _ _ x => x))
  have HX := Lib.hid (hX.fr F2 (fun x => x))
  have HY := Lib.hid hY
  have HF0 := Lib.hid (F1.then0 F2)
  have hbX : b ≠ w.heap.size := by omega
  have hbY : b ≠ w0.heap.size := by omega
  have hXY : w.heap.size ≠ w0.heap.size := by omega
  have hw0' := hw0
  clear hv hblk hown hX hY F2 hy hm h
  go_enter Try.func27, Try.ntmps27
  go_wp2_with fail
  rw [← hw0]
  have HW0 := Lib.hid hw0'
  clear hw0 hw0'
  refine HV.out.mono ?_
  rintro e w1 ⟨rfl, rfl⟩
  go_wp2_with (go_at_call 42; refine HA.out.mono ?_; rintro e w1 ⟨rfl, rfl⟩)
  clear HA HV c1 a0 a1 a2 a3 a4 F1
  have hwkl : w0.heap.size < (w0.alloc (.cells #[.int .i64 y.id, .int .i64 y.job, .int .i64 y.due, .int .i64 y.att, .int .i64 y.start] 31)).heap.size := by simp
  generalize w0.alloc (.cells #[.int .i64 y.id, .int .i64 y.job, .int .i64 y.due, .int .i64 y.att, .int .i64 y.start] 31) = wk at *
  rw [hs0] at HY hbY hXY hwkl
  have k2 := HBK.out.cell 2
  have kz := HBK.out.frozen 2
  simp only [List.getElem?_toArray, List.getElem?_cons_succ, List.getElem?_cons_zero] at k2
  have hbk := HBK.out.lt
  have kE : (wk.drew.alloc (.cells #[] 31)).cell? ⟨b, 2, none⟩ = some (.slice (some ⟨g, 0, none⟩) m c) := (World.cell?_alloc_lt wk.drew (.cells #[] 31) ⟨b, 2, none⟩ hbk).trans k2
  have HRD := Lib.hid (Reads.of_own HOWN.out)
  have O1 := Lib.hid (show (wk.drew.alloc (.cells #[] 31)).ownsRow wk.heap.size 31 5 (.slice (some ⟨wk.heap.size, 0, none⟩) 0 0) 0 [] from ⟨rfl, .inr ⟨wk.heap.size, 0, #[], rfl, Nat.le_refl _, Blk.new wk.drew 31 #[], Nat.le_refl _, Nat.zero_le _, rfl, rfl⟩⟩)
  have R1 := Lib.hid (((HRD.out.take5 (show p ≤ m by omega)).drew).alloc (w := wk.drew) (Nat.le_refl _) (.cells #[] 31))
  have HB0 := Lib.hid (show 0 + p ≤ maxLen by unfold maxLen; omega)
  have HB1 := Lib.hid (show (0 + p) * 40 ≤ 140737488355328 by omega)
  have HB2 := Lib.hid (show 0 + p + (m - (p + 1)) ≤ maxLen by unfold maxLen; omega)
  have HB3 := Lib.hid (show (0 + p + (m - (p + 1))) * 40 ≤ 140737488355328 by omega)
  have HBS := Lib.hid (show wk.heap.size ≤ (wk.drew.alloc (.cells #[] 31)).heap.size by simp)
  have FA := Lib.hid ((Fr.refl No wk).drew.alloc (.cells #[] 31))
  have hic : p ≤ c := by omega
  have hic1 : p + 1 ≤ c := by omega
  have hic2 : p + 1 ≤ m := by omega
  have hic3 : (0 : Int) ≤ (p : Int) + 1 := by omega
  have hic4 : (p : Int) + 1 ≤ (m : Int) := by omega
  have hic5 : (p : Int) ≤ (c : Int) := by omega
  have hic6 : (m : Int) ≤ (c : Int) := by omega
  have hwr : IntKind.i64.wrap ((p : Int) + 1) = (p : Int) + 1 := by simp only [IntKind.wrap_i64]; omega
  have hto : ((p : Int) + 1).toNat = p + 1 := by omega
  by_cases hci : c = p + 1
  · have R2 := Lib.hid (show Reads wk wk.heap.size 5 (some ⟨g, 0, none⟩) (m - (p + 1)) (rcells (s.live.drop (p + 1))) from by
      have := HRD.out.cut (k := p + 1) (cap := c) (by omega) hmc
      rw [← rcells_drop] at this
      simpa [hci, add_plain] using this)
    have hct : (c = p + 1) = True := by simpa using hci
    have HCI := Lib.hid hci
    clear hci
    go_region_law ((first
      | (refine step_append_any (wk.drew.alloc (.cells #[] 31)) rfl (.tmp 26) (.tmp 32) 37 rfl wk.heap.size 31 i0 (.agg #[.int .i64 0, .int .i64 0, .int .i64 0, .int .i64 0, .int .i64 0]) 5 40 Try.underlying37 hi hiz0 hiz1 hiz2 rfl (by omega) (.slice (some ⟨wk.heap.size, 0, none⟩) 0 0) 0 [] (by first | (simp [Act.eval]; done) | simp [Act.eval, Act.put]) O1.out wk.heap.size (some ⟨g, 0, none⟩) p c (rcells (s.live.take p)) (by first | (simp [Act.eval]; done) | simp [Act.eval, Act.put]) R1.out (rcells_one _) HB0.out HB1.out HBS.out ?_; intro v2 w2 ho2 hg2 hl2; obtain ⟨A2, q2, rfl⟩ := own_form' ho2; have F2 := Lib.hid (FA.out.ownS (Fr.of_grown (S := (· = wk.heap.size)) hg2 (fun k hk => by simpa [Value.ownBlock] using hk.symm)) (fun k hk => Nat.le_of_eq hk.symm)); have HO2 := Lib.hid ho2; have HBS2 := Lib.hid F2.out.size; have g2 := (F2.out.cell (p := ⟨b, 2, none⟩) hbk (fun x => x)).trans k2; clear ho2 hg2 hl2)
      | (refine step_append_any w2 rfl (.tmp 33) (.tmp 40) 37 rfl wk.heap.size 31 i0 (.agg #[.int .i64 0, .int .i64 0, .int .i64 0, .int .i64 0, .int .i64 0]) 5 40 Try.underlying37 hi hiz0 hiz1 hiz2 rfl (by omega) (.slice A2 (0 + p) q2) (0 + p) ([] ++ rcells (s.live.take p)) (by first | (simp [Act.eval]; done) | simp [Act.eval, Act.put]) HO2.out wk.heap.size (some ⟨g, 0, none⟩) (m - (p + 1)) (c - (p + 1)) (rcells (s.live.drop (p + 1))) (by first | (simp [Act.eval]; done) | simp [Act.eval, Act.put]) (R2.out.fr F2.out (Nat.le_refl _) (fun _ _ x => x)) (rcells_one _) HB2.out HB3.out HBS2.out ?_; intro v3 w3 ho3 hg3 hl3; obtain ⟨A3, q3, rfl⟩ := own_form' ho3; have F3 := Lib.hid (F2.out.ownS (Fr.of_grown (S := fun k => (Value.slice A2 (0 + p) q2).ownBlock = some k) hg3 (fun k hk => hk)) (fun k hk => (HO2.out.lt k hk).1)); have HO3 := Lib.hid ho3; have g3 := (F3.out.cell (p := ⟨b, 2, none⟩) hbk (fun x => x)).trans k2; have fz3 := (F3.out.frozen (p := ⟨b, 2, none⟩) hbk (fun x => x)).trans kz; clear ho3 hg3 hl3)))
    all_goals
      have hB3 := HBK.out.fr F3.out (fun x => x)
      have hX3 := HX.out.fr F3.out (fun x => x)
      have hY3 := HY.out.fr F3.out (fun x => x)
      have hO3 := HO3.out
      obtain ⟨e0, e1, e2, e3, e4⟩ := cells5 hX3
      have ez := hX3.frozen
      obtain ⟨f0, f1, f2, f3, f4⟩ := cells5 hY3
      have hB4 := hB3.set_ 2 (.slice A3 (0 + p + (m - (p + 1))) q3)
      have hX4 := hX3.far (p := ⟨b, 2, none⟩) (fun h => hbX h.symm) (.slice A3 (0 + p + (m - (p + 1))) q3)
      have hO4 := own_fr hO3 ((Fr.refl (· = b) w3).setCell (p := ⟨b, 2, none⟩) (.inr rfl) (.slice A3 (0 + p + (m - (p + 1))) q3)) (fun k hk h => by have := (hO3.lt k hk).1; omega)
      have F4 : Fr D w (w3.setCell ⟨b, 2, none⟩ (.slice A3 (0 + p + (m - (p + 1))) q3)) := ((HF0.out.then0 F3.out).mono (fun _ x => x.elim)).setCell (.inr HDb.out) _
      have HSPL : Hid (0 + p + (m - (p + 1)) = m - 1) := Lib.hid (by omega)
      obtain ⟨z, hz⟩ : ∃ z, z = 0 + p + (m - (p + 1)) := ⟨_, rfl⟩
      have hz' : p + (m - (p + 1)) = z := by omega
      simp only [Nat.zero_add, hz'] at hB4 hX4 hO4 F4 HSPL hz ⊢
      clear hB3 hX3 hY3 hO3 hz
      go_wp2
      have hXF := blk_setRun hX4 (.int .i64 y.id) (.int .i64 y.job) (.int .i64 y.due) (.int .i64 y.att) (.int .i64 y.start)
      have FF := fr_setRun F4 (X := w.heap.size) (.inl (Nat.le_refl _)) (.int .i64 y.id) (.int .i64 y.job) (.int .i64 y.due) (.int .i64 y.att) (.int .i64 y.start)
      have FX := fr_setRun (Fr.refl (· = w.heap.size) (w3.setCell ⟨b, 2, none⟩ (.slice A3 z q3))) (X := w.heap.size) (.inr rfl) (.int .i64 y.id) (.int .i64 y.job) (.int .i64 y.due) (.int .i64 y.att) (.int .i64 y.start)
      have hBF := hB4.fr FX hbX
      have hOF := own_fr hO4 FX (fun k hk h => by have := (hO4.lt k hk).1; omega)
      clear hB4 hX4 hO4 F4 FX
      generalize (((((w3.setCell ⟨b, 2, none⟩ (.slice A3 z q3)).setCell ⟨w.heap.size, 0, none⟩ (.int .i64 y.id)).setCell ⟨w.heap.size, 1, none⟩ (.int .i64 y.job)).setCell ⟨w.heap.size, 2, none⟩ (.int .i64 y.due)).setCell ⟨w.heap.size, 3, none⟩ (.int .i64 y.att)).setCell ⟨w.heap.size, 4, none⟩ (.int .i64 y.start) = w5 at *
      obtain ⟨r0, r1, r2, r3, r4⟩ := cells5 hXF
      have hfin : RTabAt w5 b (dom b (.slice A3 z q3)) (s.del p) := by
        refine ⟨_, ⟨hBF, ?_, TS.del_ok s HOK.out p⟩, rfl⟩
        have he : (s.del p).live = s.live.take p ++ s.live.drop (p + 1) := List.eraseIdx_eq_take_drop_succ _ _
        have hl : (s.del p).live.length = z := by
          show (s.live.eraseIdx p).length = z
          rw [List.length_eraseIdx_of_lt (by rw [HLN.out]; omega), HLN.out, HSPL.out]
        rw [hl, he]
        have := own_base hOF (Nat.zero_le _)
        rw [List.nil_append, ← rcells_app] at this
        exact this
      have hdd : ∀ k, dom b (.slice A3 z q3) k → D k ∨ w.heap.size ≤ k := fun k hk => hk.elim (fun h => .inl (h ▸ HDb.out)) (fun h => .inr (Nat.le_trans HF0.out.size (hOF.lt k h).1))
      clear hXF hBF hOF e0 e1 e2 e3 e4 ez f0 f1 f2 f3 f4
      refine bodyPost_ret (v := .tuple #[y.agg, .int .i64 0]) (by rw [results_cell_tmp rfl]; unfold RV.agg; go_simp) rfl ⟨?_, _, hfin, FF, hdd⟩
      rw [HYV.out]
  · have R2 := Lib.hid (show Reads wk wk.heap.size 5 (some ⟨g, (p + 1) * 5, none⟩) (m - (p + 1)) (rcells (s.live.drop (p + 1))) from by
      have := HRD.out.cut (k := p + 1) (cap := c) (by omega) hmc
      rw [← rcells_drop] at this
      simpa [hci, add_plain] using this)
    go_region_law ((first
      | (refine step_append_any (wk.drew.alloc (.cells #[] 31)) rfl (.tmp 26) (.tmp 32) 37 rfl wk.heap.size 31 i0 (.agg #[.int .i64 0, .int .i64 0, .int .i64 0, .int .i64 0, .int .i64 0]) 5 40 Try.underlying37 hi hiz0 hiz1 hiz2 rfl (by omega) (.slice (some ⟨wk.heap.size, 0, none⟩) 0 0) 0 [] (by first | (simp [Act.eval]; done) | simp [Act.eval, Act.put]) O1.out wk.heap.size (some ⟨g, 0, none⟩) p c (rcells (s.live.take p)) (by first | (simp [Act.eval]; done) | simp [Act.eval, Act.put]) R1.out (rcells_one _) HB0.out HB1.out HBS.out ?_; intro v2 w2 ho2 hg2 hl2; obtain ⟨A2, q2, rfl⟩ := own_form' ho2; have F2 := Lib.hid (FA.out.ownS (Fr.of_grown (S := (· = wk.heap.size)) hg2 (fun k hk => by simpa [Value.ownBlock] using hk.symm)) (fun k hk => Nat.le_of_eq hk.symm)); have HO2 := Lib.hid ho2; have HBS2 := Lib.hid F2.out.size; have g2 := (F2.out.cell (p := ⟨b, 2, none⟩) hbk (fun x => x)).trans k2; clear ho2 hg2 hl2)
      | (refine step_append_any w2 rfl (.tmp 33) (.tmp 40) 37 rfl wk.heap.size 31 i0 (.agg #[.int .i64 0, .int .i64 0, .int .i64 0, .int .i64 0, .int .i64 0]) 5 40 Try.underlying37 hi hiz0 hiz1 hiz2 rfl (by omega) (.slice A2 (0 + p) q2) (0 + p) ([] ++ rcells (s.live.take p)) (by first | (simp [Act.eval]; done) | simp [Act.eval, Act.put]) HO2.out wk.heap.size (some ⟨g, (p + 1) * 5, none⟩) (m - (p + 1)) (c - (p + 1)) (rcells (s.live.drop (p + 1))) (by first | (simp [Act.eval]; done) | simp [Act.eval, Act.put]) (R2.out.fr F2.out (Nat.le_refl _) (fun _ _ x => x)) (rcells_one _) HB2.out HB3.out HBS2.out ?_; intro v3 w3 ho3 hg3 hl3; obtain ⟨A3, q3, rfl⟩ := own_form' ho3; have F3 := Lib.hid (F2.out.ownS (Fr.of_grown (S := fun k => (Value.slice A2 (0 + p) q2).ownBlock = some k) hg3 (fun k hk => hk)) (fun k hk => (HO2.out.lt k hk).1)); have HO3 := Lib.hid ho3; have g3 := (F3.out.cell (p := ⟨b, 2, none⟩) hbk (fun x => x)).trans k2; have fz3 := (F3.out.frozen (p := ⟨b, 2, none⟩) hbk (fun x => x)).trans kz; clear ho3 hg3 hl3)))
    all_goals
      have hB3 := HBK.out.fr F3.out (fun x => x)
      have hX3 := HX.out.fr F3.out (fun x => x)
      have hY3 := HY.out.fr F3.out (fun x => x)
      have hO3 := HO3.out
      obtain ⟨e0, e1, e2, e3, e4⟩ := cells5 hX3
      have ez := hX3.frozen
      obtain ⟨f0, f1, f2, f3, f4⟩ := cells5 hY3
      have hB4 := hB3.set_ 2 (.slice A3 (0 + p + (m - (p + 1))) q3)
      have hX4 := hX3.far (p := ⟨b, 2, none⟩) (fun h => hbX h.symm) (.slice A3 (0 + p + (m - (p + 1))) q3)
      have hO4 := own_fr hO3 ((Fr.refl (· = b) w3).setCell (p := ⟨b, 2, none⟩) (.inr rfl) (.slice A3 (0 + p + (m - (p + 1))) q3)) (fun k hk h => by have := (hO3.lt k hk).1; omega)
      have F4 : Fr D w (w3.setCell ⟨b, 2, none⟩ (.slice A3 (0 + p + (m - (p + 1))) q3)) := ((HF0.out.then0 F3.out).mono (fun _ x => x.elim)).setCell (.inr HDb.out) _
      have HSPL : Hid (0 + p + (m - (p + 1)) = m - 1) := Lib.hid (by omega)
      obtain ⟨z, hz⟩ : ∃ z, z = 0 + p + (m - (p + 1)) := ⟨_, rfl⟩
      have hz' : p + (m - (p + 1)) = z := by omega
      simp only [Nat.zero_add, hz'] at hB4 hX4 hO4 F4 HSPL hz ⊢
      clear hB3 hX3 hY3 hO3 hz
      go_wp2
      have hXF := blk_setRun hX4 (.int .i64 y.id) (.int .i64 y.job) (.int .i64 y.due) (.int .i64 y.att) (.int .i64 y.start)
      have FF := fr_setRun F4 (X := w.heap.size) (.inl (Nat.le_refl _)) (.int .i64 y.id) (.int .i64 y.job) (.int .i64 y.due) (.int .i64 y.att) (.int .i64 y.start)
      have FX := fr_setRun (Fr.refl (· = w.heap.size) (w3.setCell ⟨b, 2, none⟩ (.slice A3 z q3))) (X := w.heap.size) (.inr rfl) (.int .i64 y.id) (.int .i64 y.job) (.int .i64 y.due) (.int .i64 y.att) (.int .i64 y.start)
      have hBF := hB4.fr FX hbX
      have hOF := own_fr hO4 FX (fun k hk h => by have := (hO4.lt k hk).1; omega)
      clear hB4 hX4 hO4 F4 FX
      generalize (((((w3.setCell ⟨b, 2, none⟩ (.slice A3 z q3)).setCell ⟨w.heap.size, 0, none⟩ (.int .i64 y.id)).setCell ⟨w.heap.size, 1, none⟩ (.int .i64 y.job)).setCell ⟨w.heap.size, 2, none⟩ (.int .i64 y.due)).setCell ⟨w.heap.size, 3, none⟩ (.int .i64 y.att)).setCell ⟨w.heap.size, 4, none⟩ (.int .i64 y.start) = w5 at *
      obtain ⟨r0, r1, r2, r3, r4⟩ := cells5 hXF
      have hfin : RTabAt w5 b (dom b (.slice A3 z q3)) (s.del p) := by
        refine ⟨_, ⟨hBF, ?_, TS.del_ok s HOK.out p⟩, rfl⟩
        have he : (s.del p).live = s.live.take p ++ s.live.drop (p + 1) := List.eraseIdx_eq_take_drop_succ _ _
        have hl : (s.del p).live.length = z := by
          show (s.live.eraseIdx p).length = z
          rw [List.length_eraseIdx_of_lt (by rw [HLN.out]; omega), HLN.out, HSPL.out]
        rw [hl, he]
        have := own_base hOF (Nat.zero_le _)
        rw [List.nil_append, ← rcells_app] at this
        exact this
      have hdd : ∀ k, dom b (.slice A3 z q3) k → D k ∨ w.heap.size ≤ k := fun k hk => hk.elim (fun h => .inl (h ▸ HDb.out)) (fun h => .inr (Nat.le_trans HF0.out.size (hOF.lt k h).1))
      clear hXF hBF hOF e0 e1 e2 e3 e4 ez f0 f1 f2 f3 f4
      refine bodyPost_ret (v := .tuple #[y.agg, .int .i64 0]) (by rw [results_cell_tmp rfl]; unfold RV.agg; go_simp) rfl ⟨?_, _, hfin, FF, hdd⟩
      rw [HYV.out]

theorem rfinish_any (b : Nat) (D : Nat → Prop) (s : TS) (w : World) (r : Int) (h : RTabAt w b D s) :
    Calls Try.prog 27 #[.pointer (some ⟨b, 0, none⟩), .int .i64 r] w fun x w' => x = .returned (.tuple #[(s.getV r).agg, .int .i64 (s.finE r)]) ∧ ∃ D', RTabAt w' b D' (s.finS r) ∧ Fr D w w' ∧ ∀ k, D' k → D k ∨ w.heap.size ≤ k := by
  unfold TS.getV TS.finE TS.finS TS.has
  cases hp : s.pos r with
  | none => exact (rfinish_none b D s w r h hp).mono fun e w' ⟨he, hf⟩ => ⟨he, D, h.fr0 hf, hf.mono (fun _ x => x.elim), fun k hk => .inl hk⟩
  | some q => exact rfinish_some b D s w r q h hp
end Go.Proofs.Ytopcjakgfaobcaa
