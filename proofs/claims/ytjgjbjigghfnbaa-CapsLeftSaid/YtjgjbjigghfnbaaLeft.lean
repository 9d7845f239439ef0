/- CapsLeft: the walk. -/
import Derived.Test.YtjgjbjigghfnbaaH
namespace Go.Proofs.Ytjgjbjigghfnbaa
open Go.RowKit Go.Wk

set_option maxRecDepth 100000 in
set_option maxHeartbeats 4000000 in
theorem capsLeft_walk (all job : Int) (A B : Option Addr) (n c n2 c2 : Nat) (es bs : List Int) (w : World) (h : Reads w w.heap.size 1 A n (es.map (Value.int .u8))) (hn : n ≤ c) (hc : c ≤ 9223372036854775807)
    (h2 : Reads w w.heap.size 1 B n2 (bs.map (Value.int .u8))) (hn2 : n2 ≤ c2) (hc2 : c2 ≤ 9223372036854775807)
    (ha : 0 ≤ all ∧ all ≤ 255) (he : ∀ x ∈ es, 0 ≤ x ∧ x ≤ 255) (hb : ∀ x ∈ bs, 0 ≤ x ∧ x ≤ 255) (hj : 0 ≤ job ∧ job ≤ 255) :
    Calls Try.prog 3 #[.int .u8 all, .slice A n c, .slice B n2 c2, .int .u8 job] w fun e w' => e = .returned (.bool true) ∧ Below w.heap.size w w' := by
  have HM := Lib.hid (made_any all A n c es w h hn hc ha he)
  have HR := Lib.hid h2
  have HL := Lib.hid h2.length_ints
  have HB := Lib.hid hb
  clear h h2 he hb
  obtain ⟨ha1, ha2⟩ := ha
  obtain ⟨hj1, hj2⟩ := hj
  go_enter Try.func3, Try.ntmps3
  go_wp2_with fail
  refine HM.out.mono ?_
  rintro e w1 ⟨g, v, rfl, hg, hcap, hown, hF⟩
  clear HM
  have hle : (es.take 64).length ≤ 64 := by rw [List.length_take]; omega
  have hjobs : (CS.fresh all (es.take 64)).jobs = (es.take 64).length := rfl
  have hall : (CS.fresh all (es.take 64)).all = all := rfl
  obtain ⟨s0, hs0⟩ : ∃ s, s = CS.fresh all (es.take 64) := ⟨_, rfl⟩
  rw [← hs0] at hcap hjobs hall
  have hm0 : ∀ j, s0.m j = (es.take 64).getD j 0 := fun j => by rw [hs0]; exact CS.fresh_m _ _ j
  clear hs0
  generalize es.take 64 = xs at *
  generalize hx : xs.length = m at *
  obtain ⟨A', c', rfl, hnc, hcm, hrd⟩ := Reads.of_cells hown (Nat.le_refl _)
  have HX := Lib.hid hx
  have HM0 := Lib.hid hm0
  have HJ := Lib.hid hjobs
  have HA := Lib.hid hall
  have HO := Lib.hid hown
  have HNE := Lib.hid (own_blk_ne hown hcap.blk (by decide))
  clear hx hm0 hjobs hall hrd hown
  unfold maxLen at hcm
  by_cases hm : m = 0
  · subst hm
    have hno : s0.has 0 = false := CS.has_not (by rw [HJ.out]; right; simp)
    obtain ⟨f1, f2, f3, f4, f5, f6, _⟩ := CS.facts_not hno
    have G1 := Lib.hid f1; have G2 := Lib.hid f2; have G4 := Lib.hid f4; have G5 := Lib.hid f5; have G6 := Lib.hid f6
    clear f1 f2 f3 f4 f5 f6 hno
    go_wp2_with fail
    refine (left_any _ _ _ _ hcap).mono ?_
    rintro e w2 ⟨rfl, hf⟩
    rw [G1.out, G2.out]
    replace hF := hF.then0 hf
    replace hcap := hcap.fr hf (fun x => x)
    clear hf
    go_wp2_with fail
    refine (free_any _ _ _ _ hcap).mono ?_
    rintro e w3 ⟨rfl, hf⟩
    rw [G4.out]
    replace hF := hF.then0 hf
    replace hcap := hcap.fr hf (fun x => x)
    clear hf
    go_wp2_with fail
    refine (take_any _ _ _ _ hcap).mono ?_
    rintro e w4 ⟨rfl, _, hf⟩
    rw [G5.out]
    replace hF := hF.own hf hg
    clear hf
    go_wp2_with fail
    refine (works_any _).mono ?_
    rintro e w5 ⟨rfl, hf⟩
    replace hF := hF.then0 hf
    clear hf
    go_wp2
    go_ret
    exact ⟨rfl, hF.below⟩
  · have e300 : max (300 : Int) 0 = 300 := by decide
    have hmb : ((m : Int) == 0) = false := by simp; omega
    rcases Nat.lt_or_ge 300 n2 with h3 | h3
    all_goals
      go_wp2_with fail
      go_loopw [62] (fun i wr => ∃ (k : Nat) (s : CS), i = .int .i64 k ∧ k ≤ n2 ∧ k ≤ 300 ∧ CapsAt wr g s ∧ Hid (s.jobs = m ∧ s.all = all ∧ ∀ j, s.m j = xs.getD j 0) ∧ Fr No w wr ∧ Fr (· = g) w1 wr) (fun i _ => 300 - (intOf i).toNat)
      case atStart => exact ⟨0, s0, rfl, Nat.zero_le _, Nat.zero_le _, hcap, ⟨HJ.out, HA.out, HM0.out⟩, hF, Fr.refl _ _⟩
      case round =>
        obtain ⟨k, s, rfl, hk, hk3, hcs, HS, hFw, hFg⟩ := hrel
        by_cases hlt : k < n2 ∧ k < 300
        · obtain ⟨hlt1, hlt2⟩ := hlt
          obtain ⟨b, off, rfl, hbb, hcell⟩ := HR.out.int_at hlt1
          have hx := HB.out (bs.getD k 0) (by have := HL.out; simp [show k < bs.length by omega])
          obtain ⟨hx1, hx2⟩ := hx
          generalize bs.getD k 0 = x at *
          have hcw : wr.cell? ⟨b, off + k, none⟩ = some (.int .u8 x) := (hFw.cell (p := ⟨b, off + k, none⟩) hbb (fun x => x)).trans hcell
          clear hcell
          go_wp2_with fail
          have hq1 : 0 ≤ x % (m : Int) := Int.emod_nonneg _ (by omega)
          have hq2 : x % (m : Int) < m := Int.emod_lt_of_pos _ (by omega)
          generalize x % (m : Int) = q at *
          have hhas : s.has q = true := CS.has_of hq1 (by rw [HS.out.1]; exact hq2)
          obtain ⟨f1, f2, _, f3, f4⟩ := CS.facts hhas
          by_cases hl : 0 < s.left q.toNat
          · obtain ⟨g1, g2, g3⟩ := f3 hl
            have G1 := Lib.hid g1; have G2 := Lib.hid g2; have G3 := Lib.hid g3; have F1 := Lib.hid f1; have F2 := Lib.hid f2
            clear g1 g2 g3 f1 f2 f3 f4 hhas
            refine (left_any _ _ _ _ hcs).mono ?_
            rintro e w2 ⟨rfl, hf⟩
            rw [F1.out, F2.out]
            replace hFw := hFw.then0 hf
            replace hFg := hFg.then0 hf
            replace hcs := hcs.fr hf (fun x => x)
            clear hf hcw
            obtain ⟨L, hL⟩ : ∃ L, L = s.left q.toNat := ⟨_, rfl⟩
            rw [← hL] at hl ⊢
            clear hL
            go_wp2_with fail
            refine (free_any _ _ _ _ hcs).mono ?_
            rintro e w3 ⟨rfl, hf⟩
            rw [G1.out]
            replace hFw := hFw.then0 hf
            replace hFg := hFg.then0 hf
            replace hcs := hcs.fr hf (fun x => x)
            clear hf
            go_wp2_with fail
            refine (take_any _ _ _ _ hcs).mono ?_
            rintro e w4 ⟨rfl, hcs', hf⟩
            rw [G2.out]
            replace hFw := hFw.own hf hg
            replace hFg := hFg.trans hf (fun _ _ x => x)
            clear hf
            go_wp2
            go_roundw
            case rel => exact ⟨k + 1, s.takeS q, by go_num, by omega, by omega, hcs', ⟨by rw [CS.takeS_jobs]; exact HS.out.1, by rw [CS.takeS_all]; exact HS.out.2.1, fun j => by rw [CS.takeS_m]; exact HS.out.2.2 j⟩, hFw, hFg⟩
            case measure => simp [intOf]; omega
          · obtain ⟨g1, g2, g3⟩ := f4 hl
            have G1 := Lib.hid g1; have G2 := Lib.hid g2; have G3 := Lib.hid g3; have F1 := Lib.hid f1; have F2 := Lib.hid f2
            clear g1 g2 g3 f1 f2 f3 f4 hhas
            refine (left_any _ _ _ _ hcs).mono ?_
            rintro e w2 ⟨rfl, hf⟩
            rw [F1.out, F2.out]
            replace hFw := hFw.then0 hf
            replace hFg := hFg.then0 hf
            replace hcs := hcs.fr hf (fun x => x)
            clear hf hcw
            obtain ⟨L, hL⟩ : ∃ L, L = s.left q.toNat := ⟨_, rfl⟩
            rw [← hL] at hl ⊢
            clear hL
            go_wp2_with fail
            refine (free_any _ _ _ _ hcs).mono ?_
            rintro e w3 ⟨rfl, hf⟩
            rw [G1.out]
            replace hFw := hFw.then0 hf
            replace hFg := hFg.then0 hf
            replace hcs := hcs.fr hf (fun x => x)
            clear hf
            go_wp2_with fail
            refine (take_any _ _ _ _ hcs).mono ?_
            rintro e w4 ⟨rfl, hcs', hf⟩
            rw [G2.out]
            replace hFw := hFw.own hf hg
            replace hFg := hFg.trans hf (fun _ _ x => x)
            clear hf
            go_wp2
            go_roundw
            case rel => exact ⟨k + 1, s.takeS q, by go_num, by omega, by omega, hcs', ⟨by rw [CS.takeS_jobs]; exact HS.out.1, by rw [CS.takeS_all]; exact HS.out.2.1, fun j => by rw [CS.takeS_m]; exact HS.out.2.2 j⟩, hFw, hFg⟩
            case measure => simp [intOf]; omega
        · have hge : ¬ (k : Int) < 300 ∨ ¬ (k : Int) < n2 := by omega
          clear hcap hF
          go_wp2_with fail
          have hq1 : 0 ≤ job % (m : Int) := Int.emod_nonneg _ (by omega)
          have hq2 : job % (m : Int) < m := Int.emod_lt_of_pos _ (by omega)
          generalize job % (m : Int) = q at *
          have hhas : s.has q = true := CS.has_of hq1 (by rw [HS.out.1]; exact hq2)
          obtain ⟨f1, f2, _, f3, f4⟩ := CS.facts hhas
          have F1 := Lib.hid f1; have F2 := Lib.hid f2; have F3 := Lib.hid f3; have F4 := Lib.hid f4; have FH := Lib.hid hhas
          clear f1 f2 f3 f4 hhas
          refine (left_any _ _ _ _ hcs).mono ?_
          rintro e w2 ⟨rfl, hf⟩
          rw [F1.out, F2.out]
          replace hFw := hFw.then0 hf
          replace hFg := hFg.then0 hf
          replace hcs := hcs.fr hf (fun x => x)
          clear hf
          go_wp2_with fail
          refine (total_any _ _ _ hcs).mono ?_
          rintro e _ ⟨rfl, rfl⟩
          obtain ⟨qn, rfl⟩ := Int.eq_ofNat_of_zero_le hq1
          have hqm : qn < m := by omega
          have hL0 := s.left_nn hcs.ok qn
          have hL1 : s.left qn ≤ xs.getD qn 0 := by
            have := HS.out.2.2 qn
            have := hcs.ok.r0 qn
            unfold CS.left; omega
          have hL2 : s.left qn ≤ all - s.total := by
            have := HS.out.2.1
            unfold CS.left; omega
          have hT0 := hcs.ok.tot0
          have hT1 : s.total ≤ all := by have := hcs.ok.tot1; rw [HS.out.2.1] at this; exact this
          have hgt : m ≤ c' := hnc
          have ho := own_fr HO.out hFg (fun b hb e => HNE.out b hb e)
          obtain ⟨b2, off2, rfl, _, hc2⟩ := (show Reads _ _ 1 A' m (xs.map (Value.int .i64)) from Reads.of_own ho).int_at hqm
          clear ho
          have hlx : s.left qn = s.leftV qn ∨ True := .inr trivial
          obtain ⟨L, hLe⟩ : ∃ L, L = s.left qn := ⟨_, rfl⟩
          obtain ⟨T, hTe⟩ : ∃ T, T = s.total := ⟨_, rfl⟩
          obtain ⟨X, hXe⟩ : ∃ X, X = xs.getD qn 0 := ⟨_, rfl⟩
          simp only [Int.toNat_natCast]
          rw [← hLe] at hL0 hL1 hL2 ⊢
          rw [← hTe] at hL2 hT0 hT1 ⊢
          rw [← hXe] at hL1 hc2
          have HLe := Lib.hid hLe; have HTe := Lib.hid hTe
          have HLd := Lib.hid HS.out.1
          clear hLe hTe hXe hlx F3 F4 F2 FH
          obtain ⟨l, rfl⟩ := Int.eq_ofNat_of_zero_le hL0
          go_wp2
          go_loopw [142] (fun i wr => ∃ (k : Nat) (s' : CS), i = .int .i64 k ∧ k ≤ l ∧ CapsAt wr g s' ∧ Hid (s'.jobs = m ∧ s'.left qn = (l : Int) - k ∧ s'.total = T + k) ∧ Fr No w wr) (fun i _ => l - (intOf i).toNat)
          case atStart => exact ⟨0, s, rfl, Nat.zero_le _, hcs, ⟨HLd.out, by rw [← HLe.out]; simp, by rw [← HTe.out]; simp⟩, hFw⟩
          case round =>
            clear hFw hcs hc2
            obtain ⟨k2, s', rfl, hk2, hcs', HS', hFw⟩ := hrel
            have hhas' : s'.has (qn : Int) = true := CS.has_of hq1 (by rw [HS'.out.1]; exact hq2)
            obtain ⟨f1, f2, _, f3, f4⟩ := CS.facts hhas'
            simp only [Int.toNat_natCast] at f1 f2 f3 f4
            have hF1 := Lib.hid f1; have hF2 := Lib.hid f2
            clear f1 f2 hhas'
            by_cases hlt2 : k2 < l
            · obtain ⟨g1, g2, g3⟩ := f3 (by have := HS'.out.2.1; omega)
              have G1 := Lib.hid g1; have G2 := Lib.hid g2; have G3 := Lib.hid g3
              clear g1 g2 g3 f3 f4
              go_wp2_with fail
              refine (free_any _ _ _ _ hcs').mono ?_
              rintro e w3 ⟨rfl, hf⟩
              rw [G1.out]
              replace hFw := hFw.then0 hf
              replace hcs' := hcs'.fr hf (fun x => x)
              clear hf
              go_wp2_with fail
              refine (take_any _ _ _ _ hcs').mono ?_
              rintro e w4 ⟨rfl, hcs2, hf⟩
              rw [G2.out]
              replace hFw := hFw.own hf hg
              have hadd := s'.add_left hcs'.ok qn (by omega) 1
              have HX2 := Lib.hid hadd
              clear hf hcs' hadd
              go_wp2
              go_roundw
              case rel => exact ⟨k2 + 1, s'.takeS qn, by go_num, by omega, hcs2, ⟨by rw [CS.takeS_jobs]; exact HS'.out.1, by rw [G3.out, HX2.out, HS'.out.2.1]; omega, by rw [G3.out]; show s'.total + 1 = _; rw [HS'.out.2.2]; omega⟩, hFw⟩
              case measure => simp [intOf]; omega
            · have hkl : k2 = l := by omega
              obtain ⟨g1, g2, g3⟩ := f4 (by have := HS'.out.2.1; omega)
              have G1 := Lib.hid g1; have G2 := Lib.hid g2; have G3 := Lib.hid g3
              have HL0 := Lib.hid (show s'.leftV qn = 0 by rw [hF2.out]; have := HS'.out.2.1; omega)
              have HT0 := Lib.hid (show s'.total = T + l by rw [HS'.out.2.2, hkl])
              clear g1 g2 g3 f3 f4 hkl
              go_wp2_with fail
              refine (left_any _ _ _ _ hcs').mono ?_
              rintro e w3 ⟨rfl, hf⟩
              rw [HL0.out, hF1.out]
              replace hFw := hFw.then0 hf
              replace hcs' := hcs'.fr hf (fun x => x)
              clear hf
              go_wp2_with fail
              refine (free_any _ _ _ _ hcs').mono ?_
              rintro e w4 ⟨rfl, hf⟩
              rw [G1.out]
              replace hFw := hFw.then0 hf
              replace hcs' := hcs'.fr hf (fun x => x)
              clear hf
              go_wp2_with fail
              refine (take_any _ _ _ _ hcs').mono ?_
              rintro e w5 ⟨rfl, hcs2, hf⟩
              rw [G2.out]
              rw [G3.out] at hcs2
              replace hFw := hFw.own hf hg
              clear hf hcs'
              go_wp2_with fail
              refine (total_any _ _ _ hcs2).mono ?_
              rintro e _ ⟨rfl, rfl⟩
              rw [HT0.out]
              have hTl : (T + (l : Int) == T + (l : Int)) = true := by simp
              go_wp2_with fail
              refine (works_any _).mono ?_
              rintro e w6 ⟨rfl, hf⟩
              replace hFw := hFw.then0 hf
              clear hf
              go_wp2
              go_ret
              exact ⟨rfl, hFw.below⟩
end Go.Proofs.Ytjgjbjigghfnbaa
