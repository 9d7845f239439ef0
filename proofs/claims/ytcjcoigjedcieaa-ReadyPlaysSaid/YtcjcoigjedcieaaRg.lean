/- The document's Items. -/
import Derived.Test.YtcjcoigjedcieaaRf
namespace Go.Proofs.Ytcjcoigjedcieaa
open Go.RowKit Go.Wk

/-- The rest of a slice, nil or not. -/
theorem drop_runO (A : Option Addr) (n c j : Nat) (hj : j ≤ n) (hc : n ≤ c) (_hm : n ≤ 1000000) {w : World} {l : List IV} (_h : Reads w w.heap.size 4 A n (icells l)) : ∃ A', (∀ W, (Instr.slice 26 (.slice A n c) (some (.int .i64 j)) none none).run Try.prog W = .ok (.slice A' (n - j) (c - j)) W) ∧
    ∀ (w : World) (B : Nat) (l : List IV), Reads w B 4 A n (icells l) → Reads w B 4 A' (n - j) (icells (l.drop j)) := by
  have h1 : (j : Int) ≤ (n : Int) := by omega
  rcases A with _ | ⟨g, off, spot⟩
  · refine ⟨none, fun W => ?_, fun w B l hr => ?_⟩
    · by_cases h : c = j
      · subst h
        go_simp
      · go_simp
    · have := hr.cut hj hc
      rw [icells_drop] at this
      split at this <;> exact this
  · by_cases h : c = j
    · refine ⟨some ⟨g, off, spot⟩, fun W => ?_, fun w B l hr => ?_⟩
      · subst h
        go_simp
      · have := hr.cut hj hc
        rw [if_pos h, icells_drop] at this
        exact this
    · refine ⟨some ((⟨g, off, spot⟩ : Addr).add (j * 4)), fun W => ?_, fun w B l hr => ?_⟩
      · go_simp
      · have := hr.cut hj hc
        rw [if_neg h, icells_drop, Option.map_some] at this
        exact this
theorem four_one (x : IV) : ∀ y ∈ [Value.int .i64 x.id, .int .i64 x.pr, .int .i64 x.since, .int .i64 x.seq], y.oneCell' = true := fun y hy => by
  simp only [List.mem_cons, List.not_mem_nil, or_false] at hy
  rcases hy with rfl | rfl | rfl | rfl <;> rfl
set_option maxRecDepth 100000 in
set_option maxHeartbeats 8000000 in
theorem rItems_any (r : Nat) (v : Value) (t : QS) (hok : ∀ x ∈ t.l, x.Ok) (hup : t.l.Pairwise (fun a b => a.seq < b.seq)) (hag : 1 ≤ t.ag ∧ t.ag ≤ 68719476736) (w : World) (h : RV w r v t) :
    Calls Try.prog 39 #[.pointer (some ⟨r, 0, none⟩)] w fun e w' => Cloned w t.l.length (srt t.ag t.l) e w' := by
  obtain ⟨i0, hi, hz0, hz1, hz2⟩ : ∃ i, Try.prog.info? 31 = some i ∧ i.zero = some (.agg #[.int .i64 0, .int .i64 0, .int .i64 0, .int .i64 0]) ∧ i.size = 4 ∧ i.bytes = 32 := ⟨_, rfl, rfl, rfl, rfl⟩
  obtain ⟨A, c, rfl, hnc⟩ := h.form
  have HH := Lib.hid h
  have HV := Lib.hid (fun X (hX : Fr No w X) => rmade_any r _ t X (h.fr0 hX))
  have hn := h.n
  have HOK := Lib.hid hok
  have HUP := Lib.hid hup
  have HAG := Lib.hid hag
  have RL0 := Reads.of_own h.own
  obtain ⟨n, hnn⟩ : ∃ n, n = t.l.length := ⟨_, rfl⟩
  have HN := Lib.hid hnn
  rw [← hnn] at hn hnc RL0 ⊢
  have RL := Lib.hid RL0
  have HSL := Lib.hid (fun i (hi : i ≤ n) => show (srt t.ag (t.l.take i)).length = i from by rw [(srt_perm _ _).length_eq, List.length_take]; omega)
  clear h hok hup hag RL0 hnn
  go_enter Try.func39, Try.ntmps39
  go_wp2
  go_loopw [3, 4] (fun ov iv wr => ∃ (i : Nat) (GO : Option Addr) (co : Nat), ov = .slice GO i co ∧ iv = .int .i64 i ∧ i ≤ n ∧ Hid (Fr No w wr) ∧ Hid (wr.ownsRow w.heap.size 31 4 (.slice GO i co) i (icells (srt t.ag (t.l.take i)))) ∧ Hid (i ≤ co)) (fun _ iv _ => n - (intOf iv).toNat)
  case atStart => exact ⟨0, none, 0, rfl, rfl, Nat.zero_le _, Lib.hid (Fr.refl _ _), Lib.hid (own_nil _ _ _ _), Lib.hid (Nat.le_refl _)⟩
  case round =>
    obtain ⟨i, GO, co, rfl, rfl, hin, HFW, HO, HCO⟩ := hrel
    obtain ⟨wo, rfl⟩ : ∃ wo : World, wo = wr := ⟨_, rfl⟩
    have V0 := Lib.hid (HH.out.fr0 HFW.out)
    obtain ⟨c0, c1, c2, c3, c4⟩ := V0.out.cells
    rw [← HN.out] at c1
    by_cases hlt : i < n
    · have hlt2 : (i : Int) < (n : Int) := by omega
      have hil : i < t.l.length := by rw [← HN.out]; exact hlt
      have HOL := Lib.hid (HSL.out i hin)
      obtain ⟨gL, offL, rfl, hgL, _, x0, x1, x2, x3⟩ := reads_item (RL.out.fr0 HFW.out) hlt
      obtain ⟨x, hx⟩ : ∃ x, x = t.l.getD i IV.zero := ⟨_, rfl⟩
      rw [← hx] at x0 x1 x2 x3
      have HX := Lib.hid hx
      have HXO := Lib.hid (show x.Ok from by rw [hx]; exact HOK.out _ (getD_mem' hil))
      have HTK := Lib.hid (show t.l.take (i + 1) = t.l.take i ++ [x] from by rw [List.take_succ_eq_append_getElem hil, hx, getD_get hil])
      have HSQ := Lib.hid (show ∀ e ∈ srt t.ag (t.l.take i), e.Ok ∧ e.seq < x.seq from fun e he => by
        have he2 := (srt_perm _ _).mem_iff.1 he
        refine ⟨HOK.out _ (List.mem_of_mem_take he2), ?_⟩
        obtain ⟨j, hj, rfl⟩ := List.mem_iff_getElem.1 he2
        rw [List.length_take] at hj
        have := List.pairwise_iff_getElem.1 HUP.out j i (by omega) hil (by omega)
        rw [hx, getD_get hil, List.getElem_take]
        exact this)
      have HONE := Lib.hid (four_one x)
      have HLC := Lib.hid (show C4 wo gL (offL + i * 4) x from ⟨x0, x1, x2, x3⟩)
      have HVW := Lib.hid (HV.out wo HFW.out)
      have hgLw := hgL
      clear hx hil
      go_wp2_with fail
      refine HVW.out.mono ?_
      rintro e w1 ⟨rfl, rfl⟩
      go_wp2
      go_loopw [5] (fun av wr => ∃ j : Nat, av = .int .i64 j ∧ j ≤ i ∧ Hid (Fr No wo wr) ∧ Hid (∀ q, q < j → ltM (mkI t.ag ((srt t.ag (t.l.take i)).getD q IV.zero)) (mkI t.ag x))) (fun av _ => i - (intOf av).toNat)
      case atStart => exact ⟨0, rfl, Nat.zero_le _, Lib.hid (Fr.refl _ _), Lib.hid (fun q hq => by omega)⟩
      case round =>
        obtain ⟨j, rfl, hji, HF2, HP⟩ := hrel
        by_cases hlj : j < i
        · have hjl : j < (srt t.ag (t.l.take i)).length := by rw [HOL.out]; exact hlj
          have hlj2 : (j : Int) < (i : Int) := by omega
          obtain ⟨gO, offO, rfl, hgO, _, y0, y1, y2, y3⟩ := reads_item ((Reads.of_own HO.out).fr0 HF2.out) hlj
          obtain ⟨y, hy⟩ : ∃ y, y = (srt t.ag (t.l.take i)).getD j IV.zero := ⟨_, rfl⟩
          rw [← hy] at y0 y1 y2 y3
          have HY := Lib.hid hy
          have hyo := HSQ.out y (by rw [hy]; exact getD_mem' hjl)
          have HBF := Lib.hid (fun X => rBefore_any x y t.ag X HXO.out hyo.1 HAG.out (by omega))
          have HYL := Lib.hid (show decide (ltM (mkI t.ag x) (mkI t.ag y)) = true → ¬ ltM (mkI t.ag y) (mkI t.ag x) from fun h1 h2 => ltM_irr _ (ltM_trans (of_decide_eq_true h1) h2))
          have HYG := Lib.hid (show decide (ltM (mkI t.ag x) (mkI t.ag y)) = false → ltM (mkI t.ag y) (mkI t.ag x) from fun h1 => by
            have h2 := of_decide_eq_false h1
            have h3 := hyo.2
            unfold ltM mkI at *
            dsimp only at *
            omega)
          generalize decide (ltM (mkI t.ag x) (mkI t.ag y)) = d at *
          have SK := Lib.hid (fun (X : World) (hX : Fr No wr X) => (show (X.cell? ⟨r, 1, none⟩ = some (.slice (some ⟨gL, offL, none⟩) n c) ∧ X.cell? ⟨r, 3, none⟩ = some (.int .i64 t.ag)) ∧ (X.cell? ⟨gL, offL + i * 4, none⟩ = some (.int .i64 x.id) ∧ X.cell? ⟨gL, offL + i * 4 + 1, none⟩ = some (.int .i64 x.pr) ∧ X.cell? ⟨gL, offL + i * 4 + 2, none⟩ = some (.int .i64 x.since) ∧ X.cell? ⟨gL, offL + i * 4 + 3, none⟩ = some (.int .i64 x.seq)) ∧
              (X.cell? ⟨gO, offO + j * 4, none⟩ = some (.int .i64 y.id) ∧ X.cell? ⟨gO, offO + j * 4 + 1, none⟩ = some (.int .i64 y.pr) ∧ X.cell? ⟨gO, offO + j * 4 + 2, none⟩ = some (.int .i64 y.since) ∧ X.cell? ⟨gO, offO + j * 4 + 3, none⟩ = some (.int .i64 y.seq)) from
            ⟨⟨by have := ((V0.out.fr0 HF2.out).fr0 hX).cells.2.1; rw [← HN.out] at this; exact this, ((V0.out.fr0 HF2.out).fr0 hX).cells.2.2.2.1⟩, (HLC.out.fr HF2.out hgLw (fun z => z)).fr hX (Nat.lt_of_lt_of_le hgLw HF2.out.size) (fun z => z), C4.fr ⟨y0, y1, y2, y3⟩ hX hgO (fun z => z)⟩))
          obtain ⟨⟨s0, s1⟩, ⟨s2, s3, s4, s5⟩, s6, s7, s8, s9⟩ := SK.out wr (Fr.refl _ _)
          have FD := Lib.hid (Fr.refl No wr).drew
          have hcn : n ≤ c := hnc
          have hxv : valI x = .agg #[.int .i64 x.id, .int .i64 x.pr, .int .i64 x.since, .int .i64 x.seq] := rfl
          have hyv : valI y = .agg #[.int .i64 y.id, .int .i64 y.pr, .int .i64 y.since, .int .i64 y.seq] := rfl
          rw [hxv, hyv] at HBF
          clear hy hyo y0 y1 y2 y3 hxv hyv hjl c0 c1 c2 c3 c4 x0 x1 x2 x3
          cases d
          all_goals
            go_wp2
            go_region_held3 (fun X => (X.cell? ⟨r, 1, none⟩ = some (.slice (some ⟨gL, offL, none⟩) n c) ∧ X.cell? ⟨r, 3, none⟩ = some (.int .i64 t.ag)) ∧ (X.cell? ⟨gL, offL + i * 4, none⟩ = some (.int .i64 x.id) ∧ X.cell? ⟨gL, offL + i * 4 + 1, none⟩ = some (.int .i64 x.pr) ∧ X.cell? ⟨gL, offL + i * 4 + 2, none⟩ = some (.int .i64 x.since) ∧ X.cell? ⟨gL, offL + i * 4 + 3, none⟩ = some (.int .i64 x.seq)) ∧
                (X.cell? ⟨gO, offO + j * 4, none⟩ = some (.int .i64 y.id) ∧ X.cell? ⟨gO, offO + j * 4 + 1, none⟩ = some (.int .i64 y.pr) ∧ X.cell? ⟨gO, offO + j * 4 + 2, none⟩ = some (.int .i64 y.since) ∧ X.cell? ⟨gO, offO + j * 4 + 3, none⟩ = some (.int .i64 y.seq)))
              (first | exact SK.out _ (FD.out.then0 FA.out) | exact SK.out _ FD.out | go_keep)
              (first | (go_at_call 54; ((with_reducible refine (HBF.out _).mono ?_); rintro e wA ⟨rfl, hf⟩); have FA := Lib.hid hf; clear hf))
          · have HP2 := Lib.hid (show ∀ q, q < j + 1 → ltM (mkI t.ag ((srt t.ag (t.l.take i)).getD q IV.zero)) (mkI t.ag x) from fun q hq => by
              by_cases e : q = j
              · rw [e, ← HY.out]; exact HYG.out trivial
              · exact HP.out q (by omega))
            clear s0 s1 s2 s3 s4 s5 s6 s7 s8 s9
            go_wp2
            go_roundw
            case rel => exact ⟨j + 1, by go_num, by omega, Lib.hid (HF2.out.then0 (FD.out.then0 FA.out)), HP2⟩
            case measure => simp [intOf]; omega
          · have HQ : j < (srt t.ag (t.l.take i)).length → ¬ ltM (mkI t.ag ((srt t.ag (t.l.take i)).getD j IV.zero)) (mkI t.ag x) := fun _ => by rw [← HY.out]; exact HYL.out trivial
            clear s0 s1 s2 s3 s4 s5 s6 s7 s8 s9 SK
            replace HF2 := Lib.hid (HF2.out.then0 (FD.out.then0 FA.out))
            clear FA FD
            have HIX := Lib.hid (idx_eq (g := t.ag) (l := srt t.ag (t.l.take i)) (t := mkI t.ag x) (i := j) (by rw [HOL.out]; exact hji) HP.out HQ)
            have HSN := Lib.hid (show srt t.ag (t.l.take (i + 1)) = insI (srt t.ag (t.l.take i)) j x from by
              rw [HTK.out, srt_snoc]; unfold insQ; rw [HIX.out])
            have RO := Lib.hid ((Reads.of_own HO.out).fr0 HF2.out)
            have RP := Lib.hid (reads_pre RO.out (k := j) hji)
            have HB1 := Lib.hid (show (0 + j) * 32 ≤ 140737488355328 by omega)
            have HB0 := Lib.hid (show 0 + j ≤ maxLen by unfold maxLen; omega)
            have hjc : (j : Int) ≤ (co : Int) := by have := HCO.out; omega
            have hjc2 : j ≤ co := by have := HCO.out; omega
            have hji3 : (j : Int) ≤ (i : Int) := by omega
            clear HQ
            go_wp2_with (at_builtin; refine wpList_append_any wA rfl (.tmp 48) (.tmp 51) 26 rfl w.heap.size 31 i0 (.agg #[.int .i64 0, .int .i64 0, .int .i64 0, .int .i64 0]) 4 32 Try.underlying26 hi hz0 hz1 hz2 rfl (by omega) (.slice none 0 0) 0 [] rfl (own_nil _ _ _ _) wA.heap.size (some ⟨gO, offO, none⟩) j co (icells ((srt t.ag (t.l.take i)).take j)) rfl RP.out (icells_one _) HB0.out HB1.out (HFW.out.then0 HF2.out).size ?_)
            intro v1 w1 hown1 hg1 hloc1
            have F1 := Lib.hid (show Fr No wA w1 from Fr.of_grown (S := No) hg1 (fun k hk => by cases hk))
            have O1 := Lib.hid hown1
            have V1 := Lib.hid (HH.out.fr0 ((HFW.out.then0 HF2.out).then0 F1.out))
            obtain ⟨d0, d1, d2, d3, d4⟩ := V1.out.cells
            rw [← HN.out] at d1
            obtain ⟨gL', offL', heL', _, _, x0, x1', x2, x3⟩ := reads_item (RL.out.fr0 ((HFW.out.then0 HF2.out).then0 F1.out)) hlt
            cases heL'
            rw [← HX.out] at x0 x1' x2 x3
            have HB3 := Lib.hid (show (j + 1) * 32 ≤ 140737488355328 by omega)
            have HB2 := Lib.hid (show j + 1 ≤ maxLen by unfold maxLen; omega)
            have RX := Lib.hid (reads_blk w1 31 [.int .i64 x.id, .int .i64 x.pr, .int .i64 x.since, .int .i64 x.seq] 1 4 rfl)
            have O1a := Lib.hid (own_fr hown1 ((Fr.refl No w1).alloc (.cells #[.int .i64 x.id, .int .i64 x.pr, .int .i64 x.since, .int .i64 x.seq] 31)) (fun _ _ z => z))
            have HL1 := Lib.hid (show ∀ q, v1.ownBlock = some q → wA.heap.size ≤ q from fun q hq => by
              rcases hloc1 with h1 | h1
              · rw [h1] at hq; cases hq
              · rw [h1] at hq; cases hq; exact Nat.le_refl _)
            clear hown1 hg1 hloc1
            go_wp2_with (at_builtin; refine wpList_append_any (w1.alloc (.cells #[.int .i64 x.id, .int .i64 x.pr, .int .i64 x.since, .int .i64 x.seq] 31)) rfl (.tmp 53) (.tmp 61) 26 rfl w.heap.size 31 i0 (.agg #[.int .i64 0, .int .i64 0, .int .i64 0, .int .i64 0]) 4 32 Try.underlying26 hi hz0 hz1 hz2 rfl (by omega) v1 j (icells ((srt t.ag (t.l.take i)).take j)) rfl O1a.out _ (some ⟨w1.heap.size, 0, none⟩) 1 1 [.int .i64 x.id, .int .i64 x.pr, .int .i64 x.since, .int .i64 x.seq] rfl RX.out HONE.out HB2.out HB3.out (Nat.le_trans ((HFW.out.then0 HF2.out).then0 F1.out).size (by simp)) ?_)
            intro v2 w2 hown2 hg2 hloc2
            have F2 := Lib.hid (show Fr No wA w2 from (F1.out.alloc _).ownS (T := fun q => v1.ownBlock = some q) (Fr.of_grown hg2 (fun q hq => hq)) (fun q hq => HL1.out q hq))
            have O2 := Lib.hid hown2
            have HL2 := Lib.hid (show ∀ q, v2.ownBlock = some q → wA.heap.size ≤ q from fun q hq => by
              rcases hloc2 with h1 | h1
              · rw [h1] at hq; exact HL1.out q hq
              · rw [h1] at hq; cases hq; exact Nat.le_trans F1.out.size (by simp))
            clear hown2 hg2 hloc2 d0 d1 d2 d3 d4 x0 x1' x2 x3
            obtain ⟨A2, hrun, hrd⟩ := drop_runO (some ⟨gO, offO, none⟩) i co j hji HCO.out (by omega) RO.out
            have RS := Lib.hid (hrd w2 w2.heap.size _ (RO.out.fr0 F2.out))
            have HB5 := Lib.hid (show (j + 1 + (i - j)) * 32 ≤ 140737488355328 by omega)
            have HB4 := Lib.hid (show j + 1 + (i - j) ≤ maxLen by unfold maxLen; omega)
            clear hrd
            go_wp2_with (at_builtin; refine wpList_append_any w2 rfl (.tmp 63) (.tmp 66) 26 rfl w.heap.size 31 i0 (.agg #[.int .i64 0, .int .i64 0, .int .i64 0, .int .i64 0]) 4 32 Try.underlying26 hi hz0 hz1 hz2 rfl (by omega) v2 (j + 1) (icells ((srt t.ag (t.l.take i)).take j) ++ [.int .i64 x.id, .int .i64 x.pr, .int .i64 x.since, .int .i64 x.seq]) rfl O2.out w2.heap.size A2 (i - j) (co - j) (icells ((srt t.ag (t.l.take i)).drop j)) rfl RS.out (icells_one _) HB4.out HB5.out ((HFW.out.then0 HF2.out).then0 F2.out).size ?_)
            intro v3 w3 hown3 hg3 hloc3
            have F3 := Lib.hid (show Fr No w w3 from (HFW.out.then0 HF2.out).then0 (F2.out.ownS (T := fun q => v2.ownBlock = some q) (Fr.of_grown hg3 (fun q hq => hq)) (fun q hq => HL2.out q hq)))
            rw [show j + 1 + (i - j) = i + 1 by omega] at hown3
            have O3 := Lib.hid (show w3.ownsRow w.heap.size 31 4 v3 (i + 1) (icells (srt t.ag (t.l.take (i + 1)))) from by
              have e1 : icells (srt t.ag (t.l.take (i + 1))) = (icells ((srt t.ag (t.l.take i)).take j) ++ [.int .i64 x.id, .int .i64 x.pr, .int .i64 x.since, .int .i64 x.seq]) ++ icells ((srt t.ag (t.l.take i)).drop j) := by
                rw [HSN.out, insI_eq]
                have : (srt t.ag (t.l.take i)).take j ++ x :: (srt t.ag (t.l.take i)).drop j = ((srt t.ag (t.l.take i)).take j ++ [x]) ++ (srt t.ag (t.l.take i)).drop j := by simp
                rw [this, icells_app, icells_app]
                rfl
              rw [e1, List.append_assoc]; exact hown3)
            obtain ⟨G3, c3, rfl⟩ := own_form' O3.out
            have HC3 := Lib.hid (own_cap O3.out)
            clear hown3 hg3 hloc3 hrun
            go_wp2
            go_roundw
            case rel => exact ⟨i + 1, G3, c3, rfl, by go_num, by omega, F3, O3, HC3⟩
            case measure => simp [intOf]; omega
        · have HQ : j < (srt t.ag (t.l.take i)).length → ¬ ltM (mkI t.ag ((srt t.ag (t.l.take i)).getD j IV.zero)) (mkI t.ag x) := fun hj => by rw [HOL.out] at hj; omega
          have hlj2 : ¬ (j : Int) < (i : Int) := by omega
          clear c0 c1 c2 c3 c4 x0 x1 x2 x3
          have HIX := Lib.hid (idx_eq (g := t.ag) (l := srt t.ag (t.l.take i)) (t := mkI t.ag x) (i := j) (by rw [HOL.out]; exact hji) HP.out HQ)
          have HSN := Lib.hid (show srt t.ag (t.l.take (i + 1)) = insI (srt t.ag (t.l.take i)) j x from by
            rw [HTK.out, srt_snoc]; unfold insQ; rw [HIX.out])
          have RO := Lib.hid ((Reads.of_own HO.out).fr0 HF2.out)
          have RP := Lib.hid (reads_pre RO.out (k := j) hji)
          have HB1 := Lib.hid (show (0 + j) * 32 ≤ 140737488355328 by omega)
          have HB0 := Lib.hid (show 0 + j ≤ maxLen by unfold maxLen; omega)
          have hjc : (j : Int) ≤ (co : Int) := by have := HCO.out; omega
          have hjc2 : j ≤ co := by have := HCO.out; omega
          have hji3 : (j : Int) ≤ (i : Int) := by omega
          clear HQ
          go_wp2_with (at_builtin; refine wpList_append_any wr rfl (.tmp 48) (.tmp 51) 26 rfl w.heap.size 31 i0 (.agg #[.int .i64 0, .int .i64 0, .int .i64 0, .int .i64 0]) 4 32 Try.underlying26 hi hz0 hz1 hz2 rfl (by omega) (.slice none 0 0) 0 [] rfl (own_nil _ _ _ _) wr.heap.size GO j co (icells ((srt t.ag (t.l.take i)).take j)) rfl RP.out (icells_one _) HB0.out HB1.out (HFW.out.then0 HF2.out).size ?_)
          intro v1 w1 hown1 hg1 hloc1
          have F1 := Lib.hid (show Fr No wr w1 from Fr.of_grown (S := No) hg1 (fun k hk => by cases hk))
          have O1 := Lib.hid hown1
          have V1 := Lib.hid (HH.out.fr0 ((HFW.out.then0 HF2.out).then0 F1.out))
          obtain ⟨d0, d1, d2, d3, d4⟩ := V1.out.cells
          rw [← HN.out] at d1
          obtain ⟨gL', offL', heL', _, _, x0, x1', x2, x3⟩ := reads_item (RL.out.fr0 ((HFW.out.then0 HF2.out).then0 F1.out)) hlt
          cases heL'
          rw [← HX.out] at x0 x1' x2 x3
          have HB3 := Lib.hid (show (j + 1) * 32 ≤ 140737488355328 by omega)
          have HB2 := Lib.hid (show j + 1 ≤ maxLen by unfold maxLen; omega)
          have RX := Lib.hid (reads_blk w1 31 [.int .i64 x.id, .int .i64 x.pr, .int .i64 x.since, .int .i64 x.seq] 1 4 rfl)
          have O1a := Lib.hid (own_fr hown1 ((Fr.refl No w1).alloc (.cells #[.int .i64 x.id, .int .i64 x.pr, .int .i64 x.since, .int .i64 x.seq] 31)) (fun _ _ z => z))
          have HL1 := Lib.hid (show ∀ q, v1.ownBlock = some q → wr.heap.size ≤ q from fun q hq => by
            rcases hloc1 with h1 | h1
            · rw [h1] at hq; cases hq
            · rw [h1] at hq; cases hq; exact Nat.le_refl _)
          clear hown1 hg1 hloc1
          go_wp2_with (at_builtin; refine wpList_append_any (w1.alloc (.cells #[.int .i64 x.id, .int .i64 x.pr, .int .i64 x.since, .int .i64 x.seq] 31)) rfl (.tmp 53) (.tmp 61) 26 rfl w.heap.size 31 i0 (.agg #[.int .i64 0, .int .i64 0, .int .i64 0, .int .i64 0]) 4 32 Try.underlying26 hi hz0 hz1 hz2 rfl (by omega) v1 j (icells ((srt t.ag (t.l.take i)).take j)) rfl O1a.out _ (some ⟨w1.heap.size, 0, none⟩) 1 1 [.int .i64 x.id, .int .i64 x.pr, .int .i64 x.since, .int .i64 x.seq] rfl RX.out HONE.out HB2.out HB3.out (Nat.le_trans ((HFW.out.then0 HF2.out).then0 F1.out).size (by simp)) ?_)
          intro v2 w2 hown2 hg2 hloc2
          have F2 := Lib.hid (show Fr No wr w2 from (F1.out.alloc _).ownS (T := fun q => v1.ownBlock = some q) (Fr.of_grown hg2 (fun q hq => hq)) (fun q hq => HL1.out q hq))
          have O2 := Lib.hid hown2
          have HL2 := Lib.hid (show ∀ q, v2.ownBlock = some q → wr.heap.size ≤ q from fun q hq => by
            rcases hloc2 with h1 | h1
            · rw [h1] at hq; exact HL1.out q hq
            · rw [h1] at hq; cases hq; exact Nat.le_trans F1.out.size (by simp))
          clear hown2 hg2 hloc2 d0 d1 d2 d3 d4 x0 x1' x2 x3
          obtain ⟨A2, hrun, hrd⟩ := drop_runO GO i co j hji HCO.out (by omega) RO.out
          have RS := Lib.hid (hrd w2 w2.heap.size _ (RO.out.fr0 F2.out))
          have HB5 := Lib.hid (show (j + 1 + (i - j)) * 32 ≤ 140737488355328 by omega)
          have HB4 := Lib.hid (show j + 1 + (i - j) ≤ maxLen by unfold maxLen; omega)
          clear hrd
          go_wp2_with (at_builtin; refine wpList_append_any w2 rfl (.tmp 63) (.tmp 66) 26 rfl w.heap.size 31 i0 (.agg #[.int .i64 0, .int .i64 0, .int .i64 0, .int .i64 0]) 4 32 Try.underlying26 hi hz0 hz1 hz2 rfl (by omega) v2 (j + 1) (icells ((srt t.ag (t.l.take i)).take j) ++ [.int .i64 x.id, .int .i64 x.pr, .int .i64 x.since, .int .i64 x.seq]) rfl O2.out w2.heap.size A2 (i - j) (co - j) (icells ((srt t.ag (t.l.take i)).drop j)) rfl RS.out (icells_one _) HB4.out HB5.out ((HFW.out.then0 HF2.out).then0 F2.out).size ?_)
          intro v3 w3 hown3 hg3 hloc3
          have F3 := Lib.hid (show Fr No w w3 from (HFW.out.then0 HF2.out).then0 (F2.out.ownS (T := fun q => v2.ownBlock = some q) (Fr.of_grown hg3 (fun q hq => hq)) (fun q hq => HL2.out q hq)))
          rw [show j + 1 + (i - j) = i + 1 by omega] at hown3
          have O3 := Lib.hid (show w3.ownsRow w.heap.size 31 4 v3 (i + 1) (icells (srt t.ag (t.l.take (i + 1)))) from by
            have e1 : icells (srt t.ag (t.l.take (i + 1))) = (icells ((srt t.ag (t.l.take i)).take j) ++ [.int .i64 x.id, .int .i64 x.pr, .int .i64 x.since, .int .i64 x.seq]) ++ icells ((srt t.ag (t.l.take i)).drop j) := by
              rw [HSN.out, insI_eq]
              have : (srt t.ag (t.l.take i)).take j ++ x :: (srt t.ag (t.l.take i)).drop j = ((srt t.ag (t.l.take i)).take j ++ [x]) ++ (srt t.ag (t.l.take i)).drop j := by simp
              rw [this, icells_app, icells_app]
              rfl
            rw [e1, List.append_assoc]; exact hown3)
          obtain ⟨G3, c3, rfl⟩ := own_form' O3.out
          have HC3 := Lib.hid (own_cap O3.out)
          clear hown3 hg3 hloc3 hrun
          go_wp2
          go_roundw
          case rel => exact ⟨i + 1, G3, c3, rfl, by go_num, by omega, F3, O3, HC3⟩
          case measure => simp [intOf]; omega
    · have hin2 : i = n := by omega
      have hlt2 : ¬ (i : Int) < (n : Int) := by omega
      have HT := Lib.hid (show t.l.take i = t.l from List.take_of_length_le (by rw [← HN.out]; omega))
      rw [HT.out] at HO
      have HVW := Lib.hid (HV.out wo HFW.out)
      have HI2 := Lib.hid hin2
      clear hin2 hlt
      go_wp2_with fail
      refine HVW.out.mono ?_
      rintro e w1 ⟨rfl, rfl⟩
      go_wp2
      go_ret
      refine ⟨GO, co, ?_, ?_, ?_, HFW.out⟩
      · rw [← HI2.out]; rfl
      · rw [← HI2.out]; exact HO.out
      · rw [← HI2.out]; exact HCO.out
end Go.Proofs.Ytcjcoigjedcieaa
