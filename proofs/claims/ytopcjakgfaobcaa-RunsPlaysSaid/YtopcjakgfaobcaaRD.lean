/- The document's table: Start. -/
import Derived.Test.YtopcjakgfaobcaaRB
import Derived.Deep.CutRange
namespace Go.Proofs.Ytopcjakgfaobcaa
open Go.RowKit Go.Wk

theorem rstart_arg (b : Nat) (D : Nat → Prop) (s : TS) (w : World) (job due att now : Int) (h : RTabAt w b D s) (hA : okA job att = false) :
    Calls Try.prog 26 #[.pointer (some ⟨b, 0, none⟩), .int .i64 job, .int .i64 due, .int .i64 att, .int .i64 now] w fun e w' => e = .returned (.tuple #[.int .i64 0, .int .i64 2]) ∧ w = w' := by
  have HV := Lib.hid (rvalid_any b D s w h)
  have hh : job < 0 ∨ (¬ job < 0 ∧ att < 1) := by simp [okA] at hA; omega
  clear h hA
  rcases hh with h | ⟨h, h2⟩
  all_goals
    go_enter Try.func26, Try.ntmps26
    go_wp2_with (go_at_call 41; refine HV.out.mono ?_; rintro e w1 ⟨rfl, rfl⟩)
    go_ret2
    exact ⟨rfl, rfl⟩
theorem rstart_time (b : Nat) (D : Nat → Prop) (s : TS) (w : World) (job due att now : Int) (h : RTabAt w b D s) (hA : okA job att = true) (hT : okT due now = false) :
    Calls Try.prog 26 #[.pointer (some ⟨b, 0, none⟩), .int .i64 job, .int .i64 due, .int .i64 att, .int .i64 now] w fun e w' => e = .returned (.tuple #[.int .i64 0, .int .i64 14]) ∧ w = w' := by
  have HV := Lib.hid (rvalid_any b D s w h)
  have hA' : ¬ job < 0 ∧ ¬ att < 1 := by simp [okA] at hA; omega
  obtain ⟨ha1, ha2⟩ := hA'
  have hT' : ¬ (0 ≤ due ∧ 0 ≤ now ∧ due ≤ 253402300799 ∧ now ≤ 253402300799) := by simpa [okT] using hT
  have hh : due < 0 ∨ (¬ due < 0 ∧ 253402300799 < due) ∨ (¬ due < 0 ∧ ¬ 253402300799 < due ∧ now < 0) ∨ (¬ due < 0 ∧ ¬ 253402300799 < due ∧ ¬ now < 0 ∧ 253402300799 < now) := by omega
  clear h hA hT hT'
  rcases hh with h1 | ⟨h1, h2⟩ | ⟨h1, h2, h3⟩ | ⟨h1, h2, h3, h4⟩
  all_goals
    go_enter Try.func26, Try.ntmps26
    go_wp2_with (go_at_call 41; refine HV.out.mono ?_; rintro e w1 ⟨rfl, rfl⟩)
    go_ret2
    exact ⟨rfl, rfl⟩
theorem rstart_full (b : Nat) (D : Nat → Prop) (s : TS) (w : World) (job due att now : Int) (h : RTabAt w b D s) (hA : okA job att = true) (hT : okT due now = true) (hR : s.room = false) :
    Calls Try.prog 26 #[.pointer (some ⟨b, 0, none⟩), .int .i64 job, .int .i64 due, .int .i64 att, .int .i64 now] w fun e w' => e = .returned (.tuple #[.int .i64 0, .int .i64 4]) ∧ Fr No w w' := by
  have HV := Lib.hid (rvalid_any b D s w h)
  obtain ⟨v, hv, _⟩ := h
  have hA' : ¬ job < 0 ∧ ¬ att < 1 := by simp [okA] at hA; omega
  obtain ⟨ha1, ha2⟩ := hA'
  have hT' : 0 ≤ due ∧ 0 ≤ now ∧ due ≤ 253402300799 ∧ now ≤ 253402300799 := by simpa [okT] using hT
  obtain ⟨ht1, ht2, ht3, ht4⟩ := hT'
  have hlen := hv.ok.len
  have hn2 := hv.ok.s1
  have hfull : (s.live.length : Int) = s.size := by simp [TS.room] at hR; omega
  obtain ⟨A, c, rfl, _⟩ := own_form2 hv.own
  have c0 := hv.blk.cell 1
  have c1 := hv.blk.cell 2
  simp at c0 c1
  rw [← hfull] at c0
  clear hv hA hT hR hlen
  generalize s.live.length = n at *
  have hnn : (n : Int) ≤ 1000 := by omega
  clear hfull
  go_enter Try.func26, Try.ntmps26
  go_wp2_with (go_at_call 41; refine HV.out.mono ?_; rintro e w1 ⟨rfl, rfl⟩)
  go_quiet (fail)
  go_wp2
  go_ret2
  exact ⟨rfl, (Fr.refl _ _).drewN _⟩

theorem reads_one (w : World) (g : Nat) (y : RV) (h : Blk w g 31 #[.int .i64 y.id, .int .i64 y.job, .int .i64 y.due, .int .i64 y.att, .int .i64 y.start]) : Reads w w.heap.size 5 (some ⟨g, 0, none⟩) 1 (rcells [y]) :=
  ⟨rfl, fun _ => ⟨_, rfl, h.lt, fun j u hu => by rw [add_plain, Nat.zero_add, h.cell, List.getElem?_toArray, ← hu]; rfl⟩⟩
theorem own_empty (w : World) (base g : Nat) (h : Blk w g 31 #[]) (hb : base ≤ g) : w.ownsRow base 31 5 (.slice (some ⟨g, 0, none⟩) 0 0) 0 [] := ⟨rfl, .inr ⟨g, 0, #[], rfl, hb, h, Nat.le_refl _, Nat.zero_le _, rfl, rfl⟩⟩

/-- What Start leaves of the document's table. -/
def RNext (b : Nat) (D : Nat → Prop) (s : TS) (w w' : World) : Prop := ∃ D', RTabAt w' b D' s ∧ Fr D w w' ∧ ∀ k, D' k → D k ∨ w.heap.size ≤ k

set_option maxRecDepth 100000 in
set_option maxHeartbeats 4000000 in
theorem rstart_ok (b : Nat) (D : Nat → Prop) (s : TS) (w : World) (job due att now : Int) (h : RTabAt w b D s) (hA : okA job att = true) (hT : okT due now = true) (hR : s.room = true) (hl : s.last < 1000000) :
    Calls Try.prog 26 #[.pointer (some ⟨b, 0, none⟩), .int .i64 job, .int .i64 due, .int .i64 att, .int .i64 now] w fun e w' => e = .returned (.tuple #[.int .i64 (s.last + 1), .int .i64 0]) ∧ RNext b D (s.push job due att now) w w' := by
  obtain ⟨i0, hi, hiz0, hiz1, hiz2⟩ : ∃ i, Try.prog.info? 31 = some i ∧ i.zero = some (.agg #[.int .i64 0, .int .i64 0, .int .i64 0, .int .i64 0, .int .i64 0]) ∧ i.size = 5 ∧ i.bytes = 40 := ⟨_, rfl, rfl, rfl, rfl⟩
  have HV := Lib.hid (rvalid_any b D s w h)
  have HOK := Lib.hid (s.push_ok h.ok job due att now hR hT hl)
  have HDb : Hid (D b) := Lib.hid (by obtain ⟨v, _, rfl⟩ := h; exact .inl rfl)
  obtain ⟨v, hv, _⟩ := h
  have hA' : ¬ job < 0 ∧ ¬ att < 1 := by simp [okA] at hA; omega
  obtain ⟨ha1, ha2⟩ := hA'
  have hT' : ¬ due < 0 ∧ ¬ 253402300799 < due ∧ ¬ now < 0 ∧ ¬ 253402300799 < now := by
    have : 0 ≤ due ∧ 0 ≤ now ∧ due ≤ 253402300799 ∧ now ≤ 253402300799 := by simpa [okT] using hT
    omega
  obtain ⟨ht1, ht2, ht3, ht4⟩ := hT'
  have hn2 := hv.ok.s1
  have hl0 := hv.ok.l0
  have hlt : (s.live.length : Int) < s.size := by simpa [TS.room] using hR
  obtain ⟨A, c, rfl, hnc, hrd⟩ := own_form2 hv.own
  have hblk := hv.blk
  have hown := hv.own
  have hbl := hblk.lt
  have c0 := hblk.cell 1
  have c1 := hblk.cell 2
  have c2 := hblk.cell 3
  have hfz := hblk.frozen
  simp only [List.getElem?_toArray, List.getElem?_cons_succ, List.getElem?_cons_zero] at c0 c1 c2
  obtain ⟨n, hn⟩ : ∃ n, n = s.live.length := ⟨_, rfl⟩
  rw [← hn] at hrd hblk hown c1 hlt hnc
  have HN := Lib.hid hn
  have hbn : ∀ k, (Value.slice A n c).ownBlock = some k → k ≠ b := own_blk_ne hown hblk (by decide)
  have HBW := Lib.hid hblk
  have HOW := Lib.hid hown
  clear hv hrd hblk hown hn hA hT hR
  go_enter Try.func26, Try.ntmps26
  go_wp2_with (go_at_call 41; refine HV.out.mono ?_; rintro e w1 ⟨rfl, rfl⟩)
  go_quiet (fail)
  have HF0 := Lib.hid ((Fr.refl No w).drewN nq)
  replace HBW := Lib.hid (HBW.out.drewN nq)
  replace HOW := Lib.hid (own_fr HOW.out HF0.out (fun _ _ x => x))
  have hwl : w.heap.size ≤ (w.drewN nq).heap.size := HF0.out.size
  clear HV c0 c1 c2 hfz
  generalize w.drewN nq = wd at *
  have c2 := HBW.out.cell 3
  have hfz := HBW.out.frozen
  simp only [List.getElem?_toArray, List.getElem?_cons_succ, List.getElem?_cons_zero] at c2
  have HB := Lib.hid (HBW.out.set_ 3 (.int .i64 (s.last + 1)))
  have HR0 := Lib.hid (own_fr HOW.out ((Fr.refl (· = b) wd).setCell (p := ⟨b, 3, none⟩) (.inr rfl) (.int .i64 (s.last + 1))) hbn)
  have HF := Lib.hid ((HF0.out.mono (T := D) (fun _ x => x.elim)).setCell (p := ⟨b, 3, none⟩) (.inr HDb.out) (.int .i64 (s.last + 1)))
  go_upto_region 10 with fail
  clear c2 hfz HBW HOW HF0 hwl
  generalize wd.setCell ⟨b, 3, none⟩ (.int .i64 (s.last + 1)) = wk at *
  have k2 := HB.out.cell 2
  have k3 := HB.out.cell 3
  have kz := HB.out.frozen 2
  simp only [List.setIfInBounds_toArray, List.set_cons_succ, List.set_cons_zero, List.getElem?_toArray, List.getElem?_cons_succ, List.getElem?_cons_zero] at k2 k3
  have hbk := HB.out.lt
  go_cut [10] from 52 to 71 (fun _ wx => RNext b D (s.push job due att now) w wx)
  case first =>
    obtain ⟨y, hy⟩ : ∃ y : RV, y = ⟨s.last + 1, job, due, att, now⟩ := ⟨_, rfl⟩
    have HYV := Lib.hid hy
    have e1 : s.last + 1 = y.id := by rw [hy]
    have e2 : job = y.job := by rw [hy]
    have e3 : due = y.due := by rw [hy]
    have e4 : att = y.att := by rw [hy]
    have e5 : now = y.start := by rw [hy]
    have HMD : Hid (Obj.cells #[.int .i64 (s.last + 1), .int .i64 job, .int .i64 due, .int .i64 att, .int .i64 now] 31 = Obj.cells #[.int .i64 y.id, .int .i64 y.job, .int .i64 y.due, .int .i64 y.att, .int .i64 y.start] 31) := Lib.hid (by rw [hy])
    clear hy e1 e2 e3 e4 e5
    obtain ⟨M, hM⟩ : ∃ M, M = Obj.cells #[.int .i64 (s.last + 1), .int .i64 job, .int .i64 due, .int .i64 att, .int .i64 now] 31 := ⟨_, rfl⟩
    rw [← hM] at HMD
    have HRD := Lib.hid (Reads.of_own HR0.out)
    have FE := Lib.hid ((Fr.refl No wk).drew.alloc (.cells #[] 31))
    have FM := Lib.hid ((Fr.refl No wk).drew.alloc M)
    have FP2 := Lib.hid (FE.out.alloc M)
    have FP3 := Lib.hid (FM.out.alloc (.cells #[] 31))
    have F1 := FE
    have z1 : (wk.drew.alloc (.cells #[] 31)).heap.size = wk.heap.size + 1 := by rw [World.size_alloc]; rfl
    have z2 : (wk.drew.alloc M).heap.size = wk.heap.size + 1 := by rw [World.size_alloc]; rfl
    have bE1 : Blk (wk.drew.alloc (.cells #[] 31)) wk.heap.size 31 #[] := Blk.new wk.drew 31 #[]
    have bE3 : Blk ((wk.drew.alloc M).alloc (.cells #[] 31)) (wk.heap.size + 1) 31 #[] := by have := Blk.new (wk.drew.alloc M) 31 #[]; rw [z2] at this; exact this
    have bM2 : Blk ((wk.drew.alloc (.cells #[] 31)).alloc M) (wk.heap.size + 1) 31 #[.int .i64 y.id, .int .i64 y.job, .int .i64 y.due, .int .i64 y.att, .int .i64 y.start] := by rw [HMD.out]; have := Blk.new (wk.drew.alloc (.cells #[] 31)) 31 #[.int .i64 y.id, .int .i64 y.job, .int .i64 y.due, .int .i64 y.att, .int .i64 y.start]; rw [z1] at this; exact this
    have bM3 : Blk ((wk.drew.alloc M).alloc (.cells #[] 31)) wk.heap.size 31 #[.int .i64 y.id, .int .i64 y.job, .int .i64 y.due, .int .i64 y.att, .int .i64 y.start] := by rw [HMD.out]; exact (Blk.new wk.drew 31 #[.int .i64 y.id, .int .i64 y.job, .int .i64 y.due, .int .i64 y.att, .int .i64 y.start]).alloc _
    have O1 := Lib.hid (own_empty _ wk.heap.size _ bE1 (Nat.le_refl _))
    have O2 := Lib.hid (own_empty _ wk.heap.size _ (bE1.alloc M) (Nat.le_refl _))
    have O3 := Lib.hid (own_empty _ wk.heap.size _ bE3 (Nat.le_succ _))
    have M2 := Lib.hid bM2
    have M3 := Lib.hid bM3
    have R1 := Lib.hid (HRD.out.fr FE.out (Nat.le_refl _) (fun _ _ x => x))
    have R2 := Lib.hid (HRD.out.fr FP2.out (Nat.le_refl _) (fun _ _ x => x))
    have R3 := Lib.hid (HRD.out.fr FP3.out (Nat.le_refl _) (fun _ _ x => x))
    have S1 := Lib.hid FE.out.size
    have S2 := Lib.hid FP2.out.size
    have S3 := Lib.hid FP3.out.size
    have kE2 : (wk.drew.alloc (.cells #[] 31)).cell? ⟨b, 2, none⟩ = some (.slice A n c) := (FE.out.cell (p := ⟨b, 2, none⟩) hbk (fun x => x)).trans k2
    have kE3 : (wk.drew.alloc (.cells #[] 31)).cell? ⟨b, 3, none⟩ = some (.int .i64 (s.last + 1)) := (FE.out.cell (p := ⟨b, 3, none⟩) hbk (fun x => x)).trans k3
    have kM2 : (wk.drew.alloc M).cell? ⟨b, 2, none⟩ = some (.slice A n c) := (FM.out.cell (p := ⟨b, 2, none⟩) hbk (fun x => x)).trans k2
    have kEM : ((wk.drew.alloc (.cells #[] 31)).alloc M).cell? ⟨b, 2, none⟩ = some (.slice A n c) := (FP2.out.cell (p := ⟨b, 2, none⟩) hbk (fun x => x)).trans k2
    have kME : ((wk.drew.alloc M).alloc (.cells #[] 31)).cell? ⟨b, 2, none⟩ = some (.slice A n c) := (FP3.out.cell (p := ⟨b, 2, none⟩) hbk (fun x => x)).trans k2
    rw [hM] at kM2 kEM kME
    have HB0 := Lib.hid (show 0 + n ≤ maxLen by unfold maxLen; omega)
    have HB1 := Lib.hid (show (0 + n) * 40 ≤ 140737488355328 by omega)
    have HB2 := Lib.hid (show 0 + n + 1 ≤ maxLen by unfold maxLen; omega)
    have HB3 := Lib.hid (show (0 + n + 1) * 40 ≤ 140737488355328 by omega)
    clear bE1 bE3 bM2 bM3 FM
    subst hM
    go_region_law (first
      | (refine step_append_any (wk.drew.alloc (.cells #[] 31)) rfl (.tmp 53) (.tmp 57) 37 rfl wk.heap.size 31 i0 (.agg #[.int .i64 0, .int .i64 0, .int .i64 0, .int .i64 0, .int .i64 0]) 5 40 Try.underlying37 hi hiz0 hiz1 hiz2 rfl (by omega) (.slice (some ⟨wk.heap.size, 0, none⟩) 0 0) 0 [] (by first | (simp [Act.eval]; done) | rfl) O1.out wk.heap.size A n c (rcells s.live) (by first | (simp [Act.eval]; done) | rfl) R1.out (rcells_one _) HB0.out HB1.out S1.out ?_; intro v2 w2 ho2 hg2 hl2; obtain ⟨A2, q2, rfl⟩ := own_form' ho2; have G2 := Fr.of_grown (S := (· = wk.heap.size)) hg2 (fun k hk => by simpa [Value.ownBlock] using hk.symm); have F2 := Lib.hid (F1.out.ownS G2 (fun k hk => Nat.le_of_eq hk.symm)); have HM := Lib.hid (reads_one (w2.alloc (.cells #[.int .i64 (s.last + 1), .int .i64 job, .int .i64 due, .int .i64 att, .int .i64 now] 31)) w2.heap.size y (by rw [HMD.out]; exact Blk.new w2 31 _)); have HO2 := Lib.hid ho2; have g2 := (F2.out.cell (p := ⟨b, 3, none⟩) hbk (fun x => x)).trans k3; clear ho2 hg2 hl2 G2)
      | (refine step_append_any ((wk.drew.alloc (.cells #[] 31)).alloc (.cells #[.int .i64 (s.last + 1), .int .i64 job, .int .i64 due, .int .i64 att, .int .i64 now] 31)) rfl (.tmp 53) (.tmp 57) 37 rfl wk.heap.size 31 i0 (.agg #[.int .i64 0, .int .i64 0, .int .i64 0, .int .i64 0, .int .i64 0]) 5 40 Try.underlying37 hi hiz0 hiz1 hiz2 rfl (by omega) (.slice (some ⟨wk.heap.size, 0, none⟩) 0 0) 0 [] (by first | (simp [Act.eval]; done) | rfl) O2.out wk.heap.size A n c (rcells s.live) (by first | (simp [Act.eval]; done) | rfl) R2.out (rcells_one _) HB0.out HB1.out S2.out ?_; intro v2 w2 ho2 hg2 hl2; obtain ⟨A2, q2, rfl⟩ := own_form' ho2; have G2 := Fr.of_grown (S := (· = wk.heap.size)) hg2 (fun k hk => by simpa [Value.ownBlock] using hk.symm); have F2 := Lib.hid (FP2.out.ownS G2 (fun k hk => Nat.le_of_eq hk.symm)); have HM := Lib.hid (reads_one w2 (wk.heap.size + 1) y (M2.out.fr G2 (by omega))); have HO2 := Lib.hid ho2; have g2 := (F2.out.cell (p := ⟨b, 3, none⟩) hbk (fun x => x)).trans k3; clear ho2 hg2 hl2 G2)
      | (refine step_append_any ((wk.drew.alloc (.cells #[.int .i64 (s.last + 1), .int .i64 job, .int .i64 due, .int .i64 att, .int .i64 now] 31)).alloc (.cells #[] 31)) rfl (.tmp 53) (.tmp 57) 37 rfl wk.heap.size 31 i0 (.agg #[.int .i64 0, .int .i64 0, .int .i64 0, .int .i64 0, .int .i64 0]) 5 40 Try.underlying37 hi hiz0 hiz1 hiz2 rfl (by omega) (.slice (some ⟨wk.heap.size + 1, 0, none⟩) 0 0) 0 [] (by first | (simp [Act.eval]; done) | rfl) O3.out wk.heap.size A n c (rcells s.live) (by first | (simp [Act.eval]; done) | rfl) R3.out (rcells_one _) HB0.out HB1.out S3.out ?_; intro v2 w2 ho2 hg2 hl2; obtain ⟨A2, q2, rfl⟩ := own_form' ho2; have G2 := Fr.of_grown (S := (· = wk.heap.size + 1)) hg2 (fun k hk => by simpa [Value.ownBlock] using hk.symm); have F2 := Lib.hid (FP3.out.ownS G2 (fun k hk => by omega)); have HM := Lib.hid (reads_one w2 wk.heap.size y (M3.out.fr G2 (by omega))); have HO2 := Lib.hid ho2; have g2 := (F2.out.cell (p := ⟨b, 3, none⟩) hbk (fun x => x)).trans k3; clear ho2 hg2 hl2 G2)
      | (refine step_append_any (w2.alloc (.cells #[.int .i64 (s.last + 1), .int .i64 job, .int .i64 due, .int .i64 att, .int .i64 now] 31)) rfl (.tmp 58) (.tmp 68) 37 rfl wk.heap.size 31 i0 (.agg #[.int .i64 0, .int .i64 0, .int .i64 0, .int .i64 0, .int .i64 0]) 5 40 Try.underlying37 hi hiz0 hiz1 hiz2 rfl (by omega) (.slice A2 (0 + n) q2) (0 + n) ([] ++ rcells s.live) (by first | (simp [Act.eval]; done) | rfl) (own_fr HO2.out ((Fr.refl No w2).alloc (.cells #[.int .i64 (s.last + 1), .int .i64 job, .int .i64 due, .int .i64 att, .int .i64 now] 31)) (fun _ _ x => x)) _ (some ⟨w2.heap.size, 0, none⟩) 1 1 (rcells [y]) (by first | (simp [Act.eval]; done) | rfl) HM.out (rcells_one _) HB2.out HB3.out (F2.out.alloc (.cells #[.int .i64 (s.last + 1), .int .i64 job, .int .i64 due, .int .i64 att, .int .i64 now] 31)).size ?_; intro v3 w3 ho3 hg3 hl3; obtain ⟨A3, q3, rfl⟩ := own_form' ho3; have F3 := Lib.hid ((F2.out.alloc (.cells #[.int .i64 (s.last + 1), .int .i64 job, .int .i64 due, .int .i64 att, .int .i64 now] 31)).ownS (Fr.of_grown (S := fun k => (Value.slice A2 (0 + n) q2).ownBlock = some k) hg3 (fun k hk => hk)) (fun k hk => (HO2.out.lt k hk).1)); have HO3 := Lib.hid ho3; have h3 := (F3.out.cell (p := ⟨b, 2, none⟩) hbk (fun x => x)).trans k2; have fz3 := (F3.out.frozen (p := ⟨b, 2, none⟩) hbk (fun x => x)).trans kz; clear ho3 hg3 hl3)
      | (refine step_append_any (w2) rfl (.tmp 58) (.tmp 68) 37 rfl wk.heap.size 31 i0 (.agg #[.int .i64 0, .int .i64 0, .int .i64 0, .int .i64 0, .int .i64 0]) 5 40 Try.underlying37 hi hiz0 hiz1 hiz2 rfl (by omega) (.slice A2 (0 + n) q2) (0 + n) ([] ++ rcells s.live) (by first | (simp [Act.eval]; done) | rfl) HO2.out _ (some ⟨wk.heap.size + 1, 0, none⟩) 1 1 (rcells [y]) (by first | (simp [Act.eval]; done) | rfl) HM.out (rcells_one _) HB2.out HB3.out F2.out.size ?_; intro v3 w3 ho3 hg3 hl3; obtain ⟨A3, q3, rfl⟩ := own_form' ho3; have F3 := Lib.hid (F2.out.ownS (Fr.of_grown (S := fun k => (Value.slice A2 (0 + n) q2).ownBlock = some k) hg3 (fun k hk => hk)) (fun k hk => (HO2.out.lt k hk).1)); have HO3 := Lib.hid ho3; have h3 := (F3.out.cell (p := ⟨b, 2, none⟩) hbk (fun x => x)).trans k2; have fz3 := (F3.out.frozen (p := ⟨b, 2, none⟩) hbk (fun x => x)).trans kz; clear ho3 hg3 hl3)
      | (refine step_append_any (w2) rfl (.tmp 58) (.tmp 68) 37 rfl wk.heap.size 31 i0 (.agg #[.int .i64 0, .int .i64 0, .int .i64 0, .int .i64 0, .int .i64 0]) 5 40 Try.underlying37 hi hiz0 hiz1 hiz2 rfl (by omega) (.slice A2 (0 + n) q2) (0 + n) ([] ++ rcells s.live) (by first | (simp [Act.eval]; done) | rfl) HO2.out _ (some ⟨wk.heap.size, 0, none⟩) 1 1 (rcells [y]) (by first | (simp [Act.eval]; done) | rfl) HM.out (rcells_one _) HB2.out HB3.out F2.out.size ?_; intro v3 w3 ho3 hg3 hl3; obtain ⟨A3, q3, rfl⟩ := own_form' ho3; have F3 := Lib.hid (F2.out.ownS (Fr.of_grown (S := fun k => (Value.slice A2 (0 + n) q2).ownBlock = some k) hg3 (fun k hk => hk)) (fun k hk => (HO2.out.lt k hk).1)); have HO3 := Lib.hid ho3; have h3 := (F3.out.cell (p := ⟨b, 2, none⟩) hbk (fun x => x)).trans k2; have fz3 := (F3.out.frozen (p := ⟨b, 2, none⟩) hbk (fun x => x)).trans kz; clear ho3 hg3 hl3))
    all_goals
      go_wp2_with fail
      go_meet
      have hB4 := (HB.out.fr F3.out (fun x => x)).set_ 2 (.slice A3 (0 + n + 1) q3)
      have hO4 := own_fr HO3.out ((Fr.refl (· = b) w3).setCell (p := ⟨b, 2, none⟩) (.inr rfl) (.slice A3 (0 + n + 1) q3)) (fun k hk h => by have := (HO3.out.lt k hk).1; omega)
      have F4 := (HF.out.then0 F3.out).setCell (p := ⟨b, 2, none⟩) (.inr HDb.out) (.slice A3 (0 + n + 1) q3)
      rw [Nat.zero_add] at hB4 hO4 F4
      refine ⟨dom b (.slice A3 (n + 1) q3), ⟨_, ⟨hB4, ?_, HOK.out⟩, rfl⟩, F4, fun k hk => hk.elim (fun h => .inl (h ▸ HDb.out)) (fun h => .inr (Nat.le_trans HF.out.size (hO4.lt k h).1))⟩
      have hl : (s.push job due att now).live.length = n + 1 := by
        show (s.live ++ [_]).length = n + 1
        rw [List.length_append, HN.out]; rfl
      rw [hl]
      have := own_base hO4 (Nat.zero_le _)
      rw [List.nil_append, ← rcells_app, HYV.out] at this
      exact this
  case rest =>
    obtain ⟨D', ⟨v', hv', hvD⟩, hF', hd'⟩ := hcut
    have t3 := hv'.blk.cell 3
    simp only [List.getElem?_toArray, List.getElem?_cons_succ, List.getElem?_cons_zero] at t3
    have ht : (s.push job due att now).last = s.last + 1 := rfl
    rw [ht] at t3
    have HE := Lib.hid (show RNext b D (s.push job due att now) w wc from ⟨D', ⟨v', hv', hvD⟩, hF', hd'⟩)
    clear hv' hvD hF' hd' ht k2 k3
    go_wp2
    go_ret2
    exact ⟨rfl, HE.out⟩

theorem rstart_any (b : Nat) (D : Nat → Prop) (s : TS) (w : World) (job due att now : Int) (h : RTabAt w b D s) (hl : s.last < 1000000) :
    Calls Try.prog 26 #[.pointer (some ⟨b, 0, none⟩), .int .i64 job, .int .i64 due, .int .i64 att, .int .i64 now] w fun e w' => e = .returned (.tuple #[.int .i64 (s.startV job due att now), .int .i64 (s.startE job due att now)]) ∧ RNext b D (s.startS job due att now) w w' := by
  unfold TS.startV TS.startE TS.startS TS.starts
  cases hA : okA job att
  · simp only [Bool.false_and, Bool.false_eq_true, if_false]
    exact (rstart_arg b D s w job due att now h hA).mono fun e w' ⟨he, hw⟩ => ⟨he, D, hw ▸ h, hw ▸ Fr.refl _ _, fun k hk => .inl hk⟩
  · cases hT : okT due now
    · simp only [Bool.true_and, Bool.false_and, Bool.false_eq_true, if_false, if_true]
      exact (rstart_time b D s w job due att now h hA hT).mono fun e w' ⟨he, hw⟩ => ⟨he, D, hw ▸ h, hw ▸ Fr.refl _ _, fun k hk => .inl hk⟩
    · cases hR : s.room
      · simp only [Bool.true_and, Bool.false_eq_true, if_false, if_true]
        exact (rstart_full b D s w job due att now h hA hT hR).mono fun e w' ⟨he, hf⟩ => ⟨he, D, h.fr0 hf, hf.mono (fun _ x => x.elim), fun k hk => .inl hk⟩
      · simp only [Bool.true_and, if_true]
        exact rstart_ok b D s w job due att now h hA hT hR hl
end Go.Proofs.Ytopcjakgfaobcaa
