/- GapSets: the walk. -/
import Derived.Test.YtclhdhgagjpicaaStp
import Derived.Test.YtclhdhgagjpicaaRM
namespace Go.Proofs.Ytclhdhgagjpicaa
open Go.RowKit Go.Wk

set_option maxRecDepth 100000 in
set_option maxHeartbeats 16000000 in
theorem gapSets_walk (f r : Int) (A A' : Option Addr) (n c n' c' : Nat) (gs gs' : List Int) (w : World) (h : Reads w w.heap.size 1 A n (gs.map (Value.int .u16))) (h' : Reads w w.heap.size 1 A' n' (gs'.map (Value.int .u16))) (hn : n ≤ 9223372036854775807) (hn' : n' ≤ 9223372036854775807) (hc : n ≤ c) (hc' : n' ≤ c') (hr0 : -128 ≤ r) (hr1 : r ≤ 127) (hg : ∀ x ∈ gs, 0 ≤ x ∧ x ≤ 65535) (hg' : ∀ x ∈ gs', 0 ≤ x ∧ x ≤ 65535) :
    Calls Try.prog 11 #[.int .u32 f, .int .i8 r, .slice A n c, .slice A' n' c'] w fun e w' => e = .returned (.bool true) ∧ Fr No w w' := by
  have HM1 := Lib.hid (fun g h0 h1 => made_good g A n c gs w h hn hc h0 h1 hg)
  have HM2 := Lib.hid (fun (X : World) (hX : Fr No w X) g h0 h1 => made_good g A' n' c' gs' X (h'.fr0 hX) hn' hc' h0 h1 hg')
  have hb0 : 0 ≤ bits BinOp.or IntKind.u32 f 128 := bits_lo_u32 _ _ _
  have hb1 : bits BinOp.or IntKind.u32 f 128 ≤ 4294967295 := bits_hi_u32 _ _ _
  obtain ⟨p, hp, hp3⟩ : ∃ p, p = min n 300 ∧ p ≤ 300 := ⟨_, rfl, by omega⟩
  obtain ⟨q, hq, hq3⟩ : ∃ q, q = min n' 300 ∧ q ≤ 300 := ⟨_, rfl, by omega⟩
  rw [← hp] at HM1
  rw [← hq] at HM2
  clear h h' hg hg' hp hq hn hn' hc hc'
  go_enter Try.func11, Try.ntmps11
  go_wp2_with fail
  refine (HM1.out _ (by omega) (by omega)).mono ?_
  rintro e w2 ⟨X, Ax, cx, hX, hXl, rfl, ho, hcx, hf⟩
  have HX := Lib.hid (show Reads w2 w2.heap.size 1 Ax (p + 1) (X.map (Value.int .i64)) from Reads.of_own ho)
  have HF := Lib.hid hf
  have HGX := Lib.hid hX
  have HXL := Lib.hid hXl
  clear ho hf hX hXl HM1
  go_wp2_with fail
  refine (HM2.out _ HF.out _ (by omega) (by omega)).mono ?_
  rintro e w3 ⟨Y, Ay, cy, hY, hYl, rfl, ho, hcy, hf⟩
  have HY := Lib.hid (show Reads w3 w3.heap.size 1 Ay (q + 1) (Y.map (Value.int .i64)) from Reads.of_own ho)
  replace HX := Lib.hid (HX.out.fr0 hf)
  replace HF := Lib.hid (HF.out.then0 hf)
  have HGY := Lib.hid hY
  have HYL := Lib.hid hYl
  clear ho hf hY hYl HM2
  have HOK := Lib.hid (ok2 HGX.out HGY.out)
  have HOK2 := Lib.hid (ok2 HGY.out HGX.out)
  have HCM := Lib.hid (merge_comm HGX.out HGY.out)
  have HIN := Lib.hid (merge_inc HGX.out HGY.out)
  have HME := Lib.hid (merge_mem HGX.out HGY.out)
  have HO1 := Lib.hid (only1_good HGX.out HGY.out)
  have HO2 := Lib.hid (only2_good HGX.out HGY.out)
  have HI1 := Lib.hid (sel_inc Y HGX.out.inc_)
  have HI2 := Lib.hid (sel_inc X HGY.out.inc_)
  have HN1 := Lib.hid (sel_count HGX.out HGY.out)
  have HN2 := Lib.hid (sel_count' HGX.out HGY.out)
  have HN3 := Lib.hid (merge_count HGX.out HGY.out)
  have HE1 := Lib.hid (sel_mem X Y)
  have HE2 := Lib.hid (sel_mem Y X)
  rw [HXL.out] at HN1 HN3
  rw [HYL.out] at HN2 HN3
  go_wp2_with fail
  refine (merge_any Ax Ay (p + 1) cx (q + 1) cy X Y _ HX.out HY.out hcx hcy).mono ?_
  rintro e w2 ⟨Am, cm, rfl, ho, hf⟩
  have HM := Lib.hid (Reads.of_own ho)
  replace HX := Lib.hid (HX.out.fr0 hf)
  replace HY := Lib.hid (HY.out.fr0 hf)
  replace HF := Lib.hid (HF.out.then0 hf)
  clear hf ho
  rw [HOK.out]
  go_wp2_with fail
  refine (merge_any Ay Ax (q + 1) cy (p + 1) cx Y X _ HY.out HX.out hcy hcx).mono ?_
  rintro e w3 ⟨An, cn, rfl, ho, hf⟩
  have HN := Lib.hid (Reads.of_own ho)
  replace HX := Lib.hid (HX.out.fr0 hf)
  replace HY := Lib.hid (HY.out.fr0 hf)
  replace HM := Lib.hid (HM.out.fr0 hf)
  replace HF := Lib.hid (HF.out.then0 hf)
  clear hf ho
  rw [HCM.out] at HN
  rw [HCM.out, HOK2.out]
  go_wp2_with fail
  refine (only_any Ax Ay (p + 1) cx (q + 1) cy X Y _ HX.out HY.out hcx hcy).mono ?_
  rintro e w4 ⟨Ap, cp, Aq, cq, rfl, ho, ho2, hf⟩
  have HP := Lib.hid (Reads.of_own ho)
  have HQ := Lib.hid (Reads.of_own ho2)
  replace HX := Lib.hid (HX.out.fr0 hf)
  replace HY := Lib.hid (HY.out.fr0 hf)
  replace HM := Lib.hid (HM.out.fr0 hf)
  replace HN := Lib.hid (HN.out.fr0 hf)
  replace HF := Lib.hid (HF.out.then0 hf)
  clear hf ho ho2
  rw [HO1.out] at HP
  rw [HO2.out] at HQ
  rw [HO1.out, HO2.out, HOK.out]
  generalize mergeL X Y = M at *
  generalize sel X Y = P at *
  generalize sel Y X = Q at *
  obtain ⟨b0, hb0⟩ : ∃ b0, b0 = (comm2 M X Y).length := ⟨_, rfl⟩
  rw [← hb0] at HN1 HN2 HN3
  have HB := Lib.hid hb0
  clear hb0
  have hn1 := HN1.out
  have hn2 := HN2.out
  have hn3 := HN3.out
  go_wp2_with fail
  refine (equal_yes _ _ M.length _ _ _ _ M _ (by omega) HM.out HN.out).mono ?_
  rintro e w5 ⟨rfl, hf⟩
  replace HX := Lib.hid (HX.out.fr0 hf)
  replace HY := Lib.hid (HY.out.fr0 hf)
  replace HM := Lib.hid (HM.out.fr0 hf)
  replace HN := Lib.hid (HN.out.fr0 hf)
  replace HP := Lib.hid (HP.out.fr0 hf)
  replace HQ := Lib.hid (HQ.out.fr0 hf)
  replace HF := Lib.hid (HF.out.then0 hf)
  clear hf
  obtain ⟨wk, HWK⟩ : ∃ wk : World, Hid (wk = w5) := ⟨_, Lib.hid rfl⟩
  rw [← HWK.out] at HX HY HM HN HP HQ HF ⊢
  clear HN HN1 HN2 HN3 HO1 HO2 HOK2 HCM HWK
  have HXc := Lib.hid (fun t (X' : World) (hX : Fr No wk X') => contains_any Ax (p + 1) cx _ X t X' (by omega) (HX.out.fr0 hX))
  have HYc := Lib.hid (fun t (X' : World) (hX : Fr No wk X') => contains_any Ay (q + 1) cy _ Y t X' (by omega) (HY.out.fr0 hX))
  have HPc := Lib.hid (fun t (X' : World) (hX : Fr No wk X') => contains_any Ap P.length cp _ P t X' (by omega) (HP.out.fr0 hX))
  have HQc := Lib.hid (fun t (X' : World) (hX : Fr No wk X') => contains_any Aq Q.length cq _ Q t X' (by omega) (HQ.out.fr0 hX))
  obtain ⟨m, hm⟩ : ∃ m, m = M.length := ⟨_, rfl⟩
  rw [← hm] at HM hn3 ⊢
  have HML := Lib.hid hm
  clear hm
  have HBS := Lib.hid (fun k (hk : k < m) => comm2_succ (m := M) (a := X) (b := Y) (k := k) (by rw [← HML.out]; exact hk))
  have HBL := Lib.hid (fun k => comm2_le (M.take k) X Y)
  have hm6 : m ≤ 602 := by omega
  go_wp2
  go_loopw [18, 77] (fun bv i wr => ∃ k : Nat, i = .int .i64 k ∧ k ≤ m ∧ bv = .int .i64 ((comm2 (M.take k) X Y).length : Int) ∧ wk = wr) (fun _ i _ => m - (intOf i).toNat)
  case atStart => exact ⟨0, rfl, Nat.zero_le _, rfl, rfl⟩
  case round =>
    obtain ⟨k, rfl, hk, rfl, rfl⟩ := hrel
    by_cases hlt : k < m
    · obtain ⟨b, off, rfl, hb, hc⟩ := HM.out.int_at (k := k) hlt
      have hmem := getD_mem (l := M) (i := k) (by rw [← HML.out]; exact hlt)
      have HS := Lib.hid (HBS.out k hlt)
      have hbl := HBL.out k
      have hl1 : (k : Int) < (m : Int) := by omega
      have hbl2 : (comm2 (M.take k) X Y).length ≤ 602 := by have := List.length_take_le k M; omega
      clear hbl
      have hor := (HME.out _).1 hmem
      have hp1 := HE1.out (M.getD k 0)
      have hp2 := HE2.out (M.getD k 0)
      have HXK := Lib.hid (HXc.out (M.getD k 0) wk (Fr.refl _ _))
      have HYK := Lib.hid (HYc.out (M.getD k 0) wk (Fr.refl _ _))
      have HPK := Lib.hid (HPc.out (M.getD k 0) wk (Fr.refl _ _))
      have HQK := Lib.hid (HQc.out (M.getD k 0) wk (Fr.refl _ _))
      have HPREV := Lib.hid (show 0 < k → ∃ u, wk.cell? ⟨b, off + (k - 1), none⟩ = some (.int .i64 u) ∧ u < M.getD k 0 from fun h0 => by
        obtain ⟨b', off', hbb, _, hc0⟩ := HM.out.int_at (k := k - 1) (by omega)
        injection hbb with hbb
        injection hbb with hb1 hb2
        subst hb1
        subst hb2
        exact ⟨_, hc0, HIN.out.lt (by omega) (by rw [← HML.out]; exact hlt)⟩)
      clear hmem
      generalize (comm2 (M.take k) X Y).length = z at *
      generalize M.getD k 0 = t at *
      by_cases hx : t ∈ X
      · by_cases hy : t ∈ Y
        · have e1 : decide (t ∈ P) = false := decide_eq_false (fun hh => (hp1.1 hh).2 hy)
          have e2 : decide (t ∈ Q) = false := decide_eq_false (fun hh => (hp2.1 hh).2 hx)
          rw [decide_eq_true hx] at HXK HS
          rw [decide_eq_true hy] at HYK HS
          rw [e1] at HPK
          rw [e2] at HQK
          clear e1 e2 hx hy hor hp1 hp2
          rw [Bool.true_and, if_pos rfl] at HS
          by_cases hk0 : 0 < k
          all_goals
            first
              | (obtain ⟨u, hcu, hut⟩ := HPREV.out hk0
                 have hk1 : (1 : Int) ≤ (k : Int) := by omega
                 have hk2 : ((k : Int) - 1).toNat = k - 1 := by omega
                 have hk3 : (0 : Int) < (k : Int) := by omega
                 have hk4 : (k : Int) - 1 < (m : Int) := by omega
                 have hk5 : IntKind.i64.wrap ((k : Int) - 1) = (k : Int) - 1 := by simp only [IntKind.wrap_i64]; omega
                 have hut2 : ¬ t ≤ u := by omega)
              | (have hk3 : ¬ (0 : Int) < (k : Int) := by omega)
            go_wp2_with fail
            refine HXK.out.mono ?_
            rintro e w2 ⟨rfl, rfl⟩
            go_wp2_with fail
            refine HYK.out.mono ?_
            rintro e w2 ⟨rfl, rfl⟩
            go_wp2_with fail
            refine HPK.out.mono ?_
            rintro e w2 ⟨rfl, rfl⟩
            go_wp2_with fail
            refine HQK.out.mono ?_
            rintro e w2 ⟨rfl, rfl⟩
            go_wp2
            go_roundw
            case rel => exact ⟨k + 1, by go_num, by omega, by rw [HS.out]; go_num, (by trivial)⟩
            case measure => simp [intOf]; omega
        · have e1 : decide (t ∈ P) = true := decide_eq_true (hp1.2 ⟨hx, hy⟩)
          have e2 : decide (t ∈ Q) = false := decide_eq_false (fun hh => (hp2.1 hh).2 hx)
          rw [decide_eq_true hx] at HXK HS
          rw [decide_eq_false hy] at HYK HS
          rw [e1] at HPK
          rw [e2] at HQK
          clear e1 e2 hx hy hor hp1 hp2
          rw [Bool.true_and, if_neg (by simp), Nat.add_zero] at HS
          by_cases hk0 : 0 < k
          all_goals
            first
              | (obtain ⟨u, hcu, hut⟩ := HPREV.out hk0
                 have hk1 : (1 : Int) ≤ (k : Int) := by omega
                 have hk2 : ((k : Int) - 1).toNat = k - 1 := by omega
                 have hk3 : (0 : Int) < (k : Int) := by omega
                 have hk4 : (k : Int) - 1 < (m : Int) := by omega
                 have hk5 : IntKind.i64.wrap ((k : Int) - 1) = (k : Int) - 1 := by simp only [IntKind.wrap_i64]; omega
                 have hut2 : ¬ t ≤ u := by omega)
              | (have hk3 : ¬ (0 : Int) < (k : Int) := by omega)
            go_wp2_with fail
            refine HXK.out.mono ?_
            rintro e w2 ⟨rfl, rfl⟩
            go_wp2_with fail
            refine HYK.out.mono ?_
            rintro e w2 ⟨rfl, rfl⟩
            go_wp2_with fail
            refine HPK.out.mono ?_
            rintro e w2 ⟨rfl, rfl⟩
            go_wp2_with fail
            refine HQK.out.mono ?_
            rintro e w2 ⟨rfl, rfl⟩
            go_wp2
            go_roundw
            case rel => exact ⟨k + 1, by go_num, by omega, by rw [HS.out]; rfl, (by trivial)⟩
            case measure => simp [intOf]; omega
      · have hy : t ∈ Y := hor.resolve_left hx
        have e1 : decide (t ∈ P) = false := decide_eq_false (fun hh => hx (hp1.1 hh).1)
        have e2 : decide (t ∈ Q) = true := decide_eq_true (hp2.2 ⟨hy, hx⟩)
        rw [decide_eq_false hx] at HXK HS
        rw [decide_eq_true hy] at HYK HS
        rw [e1] at HPK
        rw [e2] at HQK
        clear e1 e2 hx hy hor hp1 hp2
        rw [Bool.false_and, if_neg (by simp), Nat.add_zero] at HS
        by_cases hk0 : 0 < k
        all_goals
          first
            | (obtain ⟨u, hcu, hut⟩ := HPREV.out hk0
               have hk1 : (1 : Int) ≤ (k : Int) := by omega
               have hk2 : ((k : Int) - 1).toNat = k - 1 := by omega
               have hk3 : (0 : Int) < (k : Int) := by omega
               have hk4 : (k : Int) - 1 < (m : Int) := by omega
               have hk5 : IntKind.i64.wrap ((k : Int) - 1) = (k : Int) - 1 := by simp only [IntKind.wrap_i64]; omega
               have hut2 : ¬ t ≤ u := by omega)
            | (have hk3 : ¬ (0 : Int) < (k : Int) := by omega)
          go_wp2_with fail
          refine HXK.out.mono ?_
          rintro e w2 ⟨rfl, rfl⟩
          go_wp2_with fail
          refine HYK.out.mono ?_
          rintro e w2 ⟨rfl, rfl⟩
          go_wp2_with fail
          refine HPK.out.mono ?_
          rintro e w2 ⟨rfl, rfl⟩
          go_wp2_with fail
          refine HQK.out.mono ?_
          rintro e w2 ⟨rfl, rfl⟩
          go_wp2
          go_roundw
          case rel => exact ⟨k + 1, by go_num, by omega, by rw [HS.out]; rfl, (by trivial)⟩
          case measure => simp [intOf]; omega
    · rw [show M.take k = M from List.take_of_length_le (by rw [← HML.out]; omega), ← HB.out]
      have q1 : IntKind.i64.wrap ((p : Int) + 1 + ((q : Int) + 1)) = (p : Int) + 1 + ((q : Int) + 1) := by simp only [IntKind.wrap_i64]; omega
      have q2 : ((m : Int) != (p : Int) + 1 + ((q : Int) + 1) - (b0 : Int)) = false := by simp; omega
      have q3 : ((P.length : Int) != (p : Int) + 1 - (b0 : Int)) = false := by simp; omega
      have q4 : ((Q.length : Int) != (q : Int) + 1 - (b0 : Int)) = false := by simp; omega
      have hbs : b0 ≤ 301 := by omega
      have hpl : P.length ≤ 301 := by omega
      have hql : Q.length ≤ 301 := by omega
      generalize hPL : P.length = pl at *
      generalize hQL : Q.length = ql at *
      have HPL := Lib.hid hPL
      have HQL := Lib.hid hQL
      clear hPL hQL hn1 hn2 hn3
      go_wp2_with fail
      refine (sorted_yes Ap pl cp _ P _ (by omega) HP.out HI1.out).mono ?_
      rintro e w21 ⟨rfl, hf⟩
      replace HX := Lib.hid (HX.out.fr0 hf)
      replace HP := Lib.hid (HP.out.fr0 hf)
      replace HQ := Lib.hid (HQ.out.fr0 hf)
      replace HF := Lib.hid (HF.out.then0 hf)
      clear hf
      go_wp2_with fail
      refine (sorted_yes Aq ql cq _ Q _ (by omega) HQ.out HI2.out).mono ?_
      rintro e w22 ⟨rfl, hf⟩
      replace HX := Lib.hid (HX.out.fr0 hf)
      replace HP := Lib.hid (HP.out.fr0 hf)
      replace HQ := Lib.hid (HQ.out.fr0 hf)
      replace HF := Lib.hid (HF.out.then0 hf)
      clear hf
      go_wp2_with fail
      refine (merge_any Ax Ax (p + 1) cx (p + 1) cx X X _ HX.out HX.out hcx hcx).mono ?_
      rintro e w23 ⟨Ao, co, rfl, ho, hf⟩
      have HO := Lib.hid (Reads.of_own ho)
      replace HX := Lib.hid (HX.out.fr0 hf)
      replace HF := Lib.hid (HF.out.then0 hf)
      clear hf ho
      rw [(merge_self HGX.out), HXL.out] at HO
      rw [(merge_self HGX.out), HXL.out, (ok2 HGX.out HGX.out)]
      go_wp2_with fail
      refine (merge_any none Ax 0 0 (p + 1) cx [] X _ Reads.none_ HX.out (Nat.le_refl _) hcx).mono ?_
      rintro e w24 ⟨Al, cl, rfl, ho, hf⟩
      have HA := Lib.hid (Reads.of_own ho)
      replace HX := Lib.hid (HX.out.fr0 hf)
      replace HO := Lib.hid (HO.out.fr0 hf)
      replace HF := Lib.hid (HF.out.then0 hf)
      clear hf ho
      rw [(merge_nil HGX.out), HXL.out] at HA
      rw [(merge_nil HGX.out), HXL.out, (ok2 good_nil HGX.out)]
      go_wp2_with fail
      refine (equal_yes _ _ (p + 1) _ _ _ _ X _ (by omega) HO.out HX.out).mono ?_
      rintro e w25 ⟨rfl, hf⟩
      replace HX := Lib.hid (HX.out.fr0 hf)
      replace HO := Lib.hid (HO.out.fr0 hf)
      replace HA := Lib.hid (HA.out.fr0 hf)
      replace HF := Lib.hid (HF.out.then0 hf)
      clear hf
      go_wp2_with fail
      refine (equal_yes _ _ (p + 1) _ _ _ _ X _ (by omega) HA.out HX.out).mono ?_
      rintro e w26 ⟨rfl, hf⟩
      replace HX := Lib.hid (HX.out.fr0 hf)
      replace HO := Lib.hid (HO.out.fr0 hf)
      replace HA := Lib.hid (HA.out.fr0 hf)
      replace HF := Lib.hid (HF.out.then0 hf)
      clear hf
      go_wp2_with fail
      refine (works_any _).mono ?_
      rintro e wz ⟨rfl, hf⟩
      go_wp2
      go_ret
      exact ⟨rfl, HF.out.then0 hf⟩
end Go.Proofs.Ytclhdhgagjpicaa
