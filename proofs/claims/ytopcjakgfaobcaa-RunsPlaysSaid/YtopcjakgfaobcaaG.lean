/- The contracts of package runs: Finish; Start in one form. -/
import Derived.Test.YtopcjakgfaobcaaF
namespace Go.Proofs.Ytopcjakgfaobcaa
open Go.RowKit Go.Wk

theorem start_any (b : Nat) (D : Nat → Prop) (s : TS) (w : World) (job due att now : Int) (h : TabAt w b D s) (hl : s.last < 1000000) :
    Calls Try.prog 13 #[.pointer (some ⟨b, 0, none⟩), .int .i64 job, .int .i64 due, .int .i64 att, .int .i64 now] w fun e w' => e = .returned (.tuple #[.int .i64 (s.startV job due att now), .int .i64 (s.startE job due att now)]) ∧
      ∃ D', TabAt w' b D' (s.startS job due att now) ∧ Fr D w w' ∧ ∀ k, D' k → D k ∨ w.heap.size ≤ k := by
  unfold TS.startV TS.startE TS.startS TS.starts
  cases hA : okA job att
  · simp only [Bool.false_and, Bool.false_eq_true, if_false]
    exact (start_arg b D s w job due att now h hA).mono fun e w' ⟨he, hw⟩ => ⟨he, D, hw ▸ h, hw ▸ Fr.refl _ _, fun k hk => .inl hk⟩
  · cases hT : okT due now
    · simp only [Bool.true_and, Bool.false_and, Bool.false_eq_true, if_false, if_true]
      exact (start_time b D s w job due att now h hA hT).mono fun e w' ⟨he, hw⟩ => ⟨he, D, hw ▸ h, hw ▸ Fr.refl _ _, fun k hk => .inl hk⟩
    · cases hR : s.room
      · simp only [Bool.true_and, Bool.false_eq_true, if_false, if_true]
        exact (start_full b D s w job due att now h hA hT hR).mono fun e w' ⟨he, hf⟩ => ⟨he, D, h.fr0 hf, hf.mono (fun _ x => x.elim), fun k hk => .inl hk⟩
      · simp only [Bool.true_and, if_true]
        exact start_ok b D s w job due att now h hA hT hR hl

def TS.del (s : TS) (i : Nat) : TS := { s with live := s.live.eraseIdx i }
def TS.finS (s : TS) (r : Int) : TS := match s.pos r with | some i => s.del i | none => s
def TS.finE (s : TS) (r : Int) : Int := if s.has r then 0 else 5
theorem TS.del_ok (s : TS) (h : s.ok) (i : Nat) : (s.del i).ok := by
  have hsub : (s.live.eraseIdx i).Sublist s.live := List.eraseIdx_sublist _ _
  refine ⟨h.s0, h.s1, ?_, h.inc.sublist hsub, fun x hx => h.ids x (hsub.subset hx), fun x hx => h.times x (hsub.subset hx), h.l0, h.l1⟩
  have h1 := hsub.length_le
  have h2 := h.len
  show (((s.live.eraseIdx i).length : Nat) : Int) ≤ s.size
  omega

theorem finish_none (b : Nat) (D : Nat → Prop) (s : TS) (w : World) (r : Int) (h : TabAt w b D s) (hp : s.pos r = none) :
    Calls Try.prog 15 #[.pointer (some ⟨b, 0, none⟩), .int .i64 r] w fun x w' => x = .returned (.tuple #[RV.zero.agg, .int .i64 5]) ∧ Fr No w w' := by
  have HP := Lib.hid hp
  have h1 : TabAt (w.alloc (.cells #[.int .i64 0, .int .i64 0, .int .i64 0, .int .i64 0, .int .i64 0] 31)) b D s := h.fr0 ((Fr.refl No w).alloc _)
  have HV := Lib.hid (valid_any b D s _ h1)
  have HF := Lib.hid (find_any b D s _ r h1)
  clear h hp h1
  go_enter Try.func15, Try.ntmps15
  go_wp2_with fail
  refine HV.out.mono ?_
  rintro x w0 ⟨rfl, rfl⟩
  go_wp2_with fail
  refine HF.out.mono ?_
  rintro x w1 ⟨⟨i, hs, rfl⟩, hf⟩
  have hX := (Blk.new w 31 #[.int .i64 0, .int .i64 0, .int .i64 0, .int .i64 0, .int .i64 0]).fr hf (fun x => x)
  have F1 : Fr No w w1 := ((Fr.refl No w).alloc _).then0 hf
  have hfd : ¬ (i < s.live.length ∧ (s.live.getD i RV.zero).id = r) := fun hc => by
    have := hs.pos_some hc.1 hc.2
    rw [HP.out] at this
    cases this
  rw [show (decide (i < s.live.length) && decide ((s.live.getD i RV.zero).id = r)) = false by simpa using hfd]
  have fz := hX.frozen
  have hD := hX.lt
  obtain ⟨d0, d1, d2, d3, d4⟩ := cells5 hX
  clear hfd hs
  go_wp2
  have hB := blk_setRun hX (.int .i64 0) (.int .i64 0) (.int .i64 0) (.int .i64 0) (.int .i64 0)
  have FB := fr_setRun F1 (X := w.heap.size) (.inl (Nat.le_refl _)) (.int .i64 0) (.int .i64 0) (.int .i64 0) (.int .i64 0) (.int .i64 0)
  generalize (((((w1.setCell ⟨w.heap.size, 0, none⟩ (.int .i64 0)).setCell ⟨w.heap.size, 1, none⟩ (.int .i64 0)).setCell ⟨w.heap.size, 2, none⟩ (.int .i64 0)).setCell ⟨w.heap.size, 3, none⟩ (.int .i64 0)).setCell ⟨w.heap.size, 4, none⟩ (.int .i64 0)) = w2 at *
  obtain ⟨e0, e1, e2, e3, e4⟩ := cells5 hB
  clear hB d0 d1 d2 d3 d4
  exact bodyPost_ret (v := .tuple #[RV.zero.agg, .int .i64 5]) (by rw [results_cell_tmp rfl]; unfold RV.agg RV.zero; go_simp) rfl ⟨rfl, FB⟩

theorem finish_some (b : Nat) (D : Nat → Prop) (s : TS) (w : World) (r : Int) (q : Nat) (h : TabAt w b D s) (hp : s.pos r = some q) :
    Calls Try.prog 15 #[.pointer (some ⟨b, 0, none⟩), .int .i64 r] w fun x w' => x = .returned (.tuple #[(s.live.getD q RV.zero).agg, .int .i64 0]) ∧ TabAt w' b D (s.del q) ∧ Fr D w w' := by
  have HP := Lib.hid hp
  have h1 : TabAt (w.alloc (.cells #[.int .i64 0, .int .i64 0, .int .i64 0, .int .i64 0, .int .i64 0] 31)) b D s := h.fr0 ((Fr.refl No w).alloc _)
  have HV := Lib.hid (valid_any b D s _ h1)
  have HF := Lib.hid (find_any b D s _ r h1)
  have HT := Lib.hid h
  have HI := Lib.hid h.ok.inc
  clear h hp h1
  go_enter Try.func15, Try.ntmps15
  go_wp2_with fail
  refine HV.out.mono ?_
  rintro x w0 ⟨rfl, rfl⟩
  go_wp2_with fail
  refine HF.out.mono ?_
  rintro x w1 ⟨⟨i, hs, rfl⟩, hf⟩
  have hX := (Blk.new w 31 #[.int .i64 0, .int .i64 0, .int .i64 0, .int .i64 0, .int .i64 0]).fr hf (fun x => x)
  have F1 : Fr No w w1 := ((Fr.refl No w).alloc _).then0 hf
  have hfd : i < s.live.length ∧ (s.live.getD i RV.zero).id = r := by
    by_cases hc : i < s.live.length ∧ (s.live.getD i RV.zero).id = r
    · exact hc
    · have := hs.pos_none HI.out hc
      rw [HP.out] at this
      cases this
  have hqi : q = i := by
    have := hs.pos_some hfd.1 hfd.2
    rw [HP.out] at this
    injection this
  rw [show (decide (i < s.live.length) && decide ((s.live.getD i RV.zero).id = r)) = true by simpa using hfd]
  obtain ⟨v, hv, hDv⟩ := HT.out.fr0 F1
  obtain ⟨g, c, hvv, hg, c0', c1', c2', c3', c4'⟩ := hv.at5 hfd.1
  subst hvv
  have hbk := hv.blk
  have hown := hv.own
  have hok := hv.ok
  have hlt := hfd.1
  have HQ := Lib.hid hqi
  obtain ⟨x, hx⟩ : ∃ x, x = s.live.getD i RV.zero := ⟨_, rfl⟩
  rw [← hx] at c0' c1' c2' c3' c4'
  have HXV := Lib.hid hx
  have k1 := hbk.cell 1
  simp only [List.getElem?_toArray, List.getElem?_cons_succ, List.getElem?_cons_zero] at k1
  have hn1 := hok.len
  have hn2 := hok.s1
  have HX := Lib.hid hX
  have HBK := Lib.hid hbk
  have HOW := Lib.hid hown
  have HOK := Lib.hid hok
  have HDV := Lib.hid hDv
  have hXl := hX.lt
  have hbl := hbk.lt
  clear hv hX hbk hown hok hDv hfd hs hqi hx
  obtain ⟨n, hn⟩ : ∃ n, n = s.live.length := ⟨_, rfl⟩
  rw [← hn] at k1 hlt hn1 HBK HOW HDV
  have HN := Lib.hid hn
  clear hn
  go_wp2_with fail
  have hDg : D g := by rw [HDV.out]; exact .inr rfl
  have hDb : D b := by rw [HDV.out]; exact .inl rfl
  have hgl := HT.out.lt hDg
  have hbl0 := HT.out.lt hDb
  have hgb : g ≠ b := own_blk_ne HOW.out HBK.out (by decide) g rfl
  obtain ⟨wy, hwy⟩ : ∃ wy, wy = w1.alloc (.cells #[.int .i64 x.id, .int .i64 x.job, .int .i64 x.due, .int .i64 x.att, .int .i64 x.start] 31) := ⟨_, rfl⟩
  rw [← hwy]
  have FY : Fr No w1 wy := by rw [hwy]; exact (Fr.refl _ _).alloc _
  have hY : Blk wy w1.heap.size 31 #[.int .i64 x.id, .int .i64 x.job, .int .i64 x.due, .int .i64 x.att, .int .i64 x.start] := by rw [hwy]; exact Blk.new _ _ _
  have HDEL := Lib.hid (show Calls Try.prog 37 #[.slice (some ⟨g, 0, none⟩) n c, .int .i64 i, .int .i64 ((i : Int) + 1)] wy fun x w' => x = .returned (.slice (some ⟨g, 0, none⟩) (n - 1 : Nat) c) ∧ w'.ownsRow 0 31 5 (.slice (some ⟨g, 0, none⟩) (n - 1 : Nat) c) (n - 1) (rcells (s.live.eraseIdx i)) ∧ Fr (· = g) wy w' from by
    have ho := own_fr HOW.out FY (fun _ _ x => x)
    rcases ho.2 with ⟨h1, h0⟩ | ⟨g', cap, cur, h1, _, hh, hnc, hcm, hsz, ht⟩
    · omega
    · injection h1 with h1 _ h2
      injection h1 with h1
      injection h1 with h1
      subst h1
      subst h2
      exact del_any g n c i s.live wy cur hh hsz ht HN.out.symm hlt hnc hcm (by omega))
  clear hwy c0' c1' c2' c3' c4' k1
  refine HDEL.out.mono ?_
  rintro z w3 ⟨rfl, hown3, F3⟩
  have hX3 := (HX.out.fr FY (fun x => x)).fr F3 (by omega)
  have hY3 := hY.fr F3 (by omega)
  have hB3 := (HBK.out.fr FY (fun x => x)).fr F3 (fun h => hgb h.symm)
  have FD : Fr D w w3 := ((F1.then0 FY).mono (fun _ x => x.elim)).trans F3 (fun k _ hk => by subst hk; exact hDg)
  have hs1 : w.heap.size < w1.heap.size := hXl
  have hw1b : b ≠ w1.heap.size := by omega
  have hwb : b ≠ w.heap.size := by omega
  have hB4 : Blk (w3.setCell ⟨b, 1, none⟩ (.slice (some ⟨g, 0, none⟩) (n - 1 : Nat) c)) b 61 #[.int .i64 s.size, .slice (some ⟨g, 0, none⟩) (n - 1 : Nat) c, .int .i64 s.last, .bool true] := hB3.set_ 1 _
  have hX4 := hX3.far (p := ⟨b, 1, none⟩) (fun h => hwb h.symm) (.slice (some ⟨g, 0, none⟩) (n - 1 : Nat) c)
  have hY4 := hY3.far (p := ⟨b, 1, none⟩) (fun h => hw1b h.symm) (.slice (some ⟨g, 0, none⟩) (n - 1 : Nat) c)
  have hown4 := own_fr hown3 ((Fr.refl (· = b) w3).setCell (p := ⟨b, 1, none⟩) (.inr rfl) (.slice (some ⟨g, 0, none⟩) (n - 1 : Nat) c)) (fun k hk h => by
    have : g = k := by simpa [Value.ownBlock] using hk
    omega)
  have FD4 : Fr D w (w3.setCell ⟨b, 1, none⟩ (.slice (some ⟨g, 0, none⟩) (n - 1 : Nat) c)) := FD.setCell (.inr hDb) _
  have m1 := hB3.cell 1
  simp only [List.getElem?_toArray, List.getElem?_cons_succ, List.getElem?_cons_zero] at m1
  have mz := hB3.frozen
  obtain ⟨e0, e1, e2, e3, e4⟩ := cells5 hX3
  have ez := hX3.frozen
  obtain ⟨f0, f1, f2, f3, f4⟩ := cells5 hY3
  have hne1 : w.heap.size ≠ w1.heap.size := by omega
  clear hown3 F3 hX3 hY3 hB3 FD HDEL hY
  go_wp2
  have hXF := blk_setRun hX4 (.int .i64 x.id) (.int .i64 x.job) (.int .i64 x.due) (.int .i64 x.att) (.int .i64 x.start)
  have FF := fr_setRun FD4 (X := w.heap.size) (.inl (Nat.le_refl _)) (.int .i64 x.id) (.int .i64 x.job) (.int .i64 x.due) (.int .i64 x.att) (.int .i64 x.start)
  have FX := fr_setRun (Fr.refl (· = w.heap.size) (w3.setCell ⟨b, 1, none⟩ (.slice (some ⟨g, 0, none⟩) (n - 1 : Nat) c))) (X := w.heap.size) (.inr rfl) (.int .i64 x.id) (.int .i64 x.job) (.int .i64 x.due) (.int .i64 x.att) (.int .i64 x.start)
  have hBF := hB4.fr FX hwb
  have hOF := own_fr hown4 FX (fun k hk h => by
    have : g = k := by simpa [Value.ownBlock] using hk
    omega)
  clear hB4 hX4 hY4 hown4 FD4 FX
  generalize (((((w3.setCell ⟨b, 1, none⟩ (.slice (some ⟨g, 0, none⟩) (n - 1 : Nat) c)).setCell ⟨w.heap.size, 0, none⟩ (.int .i64 x.id)).setCell ⟨w.heap.size, 1, none⟩ (.int .i64 x.job)).setCell ⟨w.heap.size, 2, none⟩ (.int .i64 x.due)).setCell ⟨w.heap.size, 3, none⟩ (.int .i64 x.att)).setCell ⟨w.heap.size, 4, none⟩ (.int .i64 x.start) = w5 at *
  obtain ⟨r0, r1, r2, r3, r4⟩ := cells5 hXF
  have hfin : TabAt w5 b D (s.del q) := by
    rw [HQ.out]
    refine ⟨_, ⟨hBF, ?_, TS.del_ok s HOK.out i⟩, ?_⟩
    · have e : (s.del i).live.length = n - 1 := by
        show (s.live.eraseIdx i).length = _
        rw [List.length_eraseIdx_of_lt (by rw [← HN.out]; exact hlt), ← HN.out]
      rw [e]
      exact hOF
    · rw [HDV.out]
      rfl
  clear hXF hBF hOF m1 mz e0 e1 e2 e3 e4 ez f0 f1 f2 f3 f4
  refine bodyPost_ret (v := .tuple #[x.agg, .int .i64 0]) (by rw [results_cell_tmp rfl]; unfold RV.agg; go_simp) rfl ⟨?_, hfin, FF⟩
  rw [HQ.out, ← HXV.out]

theorem finish_any (b : Nat) (D : Nat → Prop) (s : TS) (w : World) (r : Int) (h : TabAt w b D s) :
    Calls Try.prog 15 #[.pointer (some ⟨b, 0, none⟩), .int .i64 r] w fun x w' => x = .returned (.tuple #[(s.getV r).agg, .int .i64 (s.finE r)]) ∧ TabAt w' b D (s.finS r) ∧ Fr D w w' := by
  unfold TS.getV TS.finE TS.finS TS.has
  cases hp : s.pos r with
  | none => exact (finish_none b D s w r h hp).mono fun e w' ⟨he, hf⟩ => ⟨he, h.fr0 hf, hf.mono (fun _ x => x.elim)⟩
  | some q => exact finish_some b D s w r q h hp
end Go.Proofs.Ytopcjakgfaobcaa
