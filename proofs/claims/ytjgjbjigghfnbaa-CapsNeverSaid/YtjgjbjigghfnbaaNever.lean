/- CapsNever: the walk. -/
import Derived.Test.YtjgjbjigghfnbaaMade
namespace Go.Proofs.Ytjgjbjigghfnbaa
open Go.RowKit Go.Wk

/-- The state in the law's loop: the caps are s, the law's own counts are s's. -/
structure NevI (w w1 wr : World) (all : Int) (xs : List Int) (g gr m : Nat) (s : CS) : Prop where
  cap : CapsAt wr g s
  blk : Blk wr gr 3 (cells .i64 (s.runs.take m)).toArray
  jobs : s.jobs = m
  hall : s.all = all
  most : ∀ j, s.m j = xs.getD j 0
  frw : Fr No w wr
  frg : Fr (· = g) w1 wr

theorem runs_num {s : CS} {m j : Nat} (hj : j < m) : (s.runs.take m).getD j 0 = s.r j := by
  unfold CS.r
  simp [hj]

theorem NevI.cell {w w1 wr : World} {all : Int} {xs : List Int} {g gr m j : Nat} {s : CS} (h : NevI w w1 wr all xs g gr m s) (hm : m ≤ 64) (hj : j < m) : wr.cell? ⟨gr, j, none⟩ = some (.int .i64 (s.r j)) := by
  rw [h.blk.num (by rw [List.length_take, h.cap.ok.lr]; omega), runs_num hj]

theorem NevI.fr {w w1 wr wn : World} {all : Int} {xs : List Int} {g gr m : Nat} {s : CS} (h : NevI w w1 wr all xs g gr m s) (hf : Fr No wr wn) : NevI w w1 wn all xs g gr m s :=
  ⟨h.cap.fr hf (fun x => x), h.blk.fr hf (fun x => x), h.jobs, h.hall, h.most, h.frw.then0 hf, h.frg.then0 hf⟩

theorem add_take (s : CS) (j m : Nat) (d : Int) : (s.add j d).runs.take m = (s.runs.take m).set j (s.r j + d) := by
  unfold CS.add
  show (s.runs.set j _).take m = _
  rw [List.take_set]

theorem NevI.drewN {w w1 wr : World} {all : Int} {xs : List Int} {g gr m : Nat} {s : CS} (h : NevI w w1 wr all xs g gr m s) (n : Nat) : NevI w w1 (wr.drewN n) all xs g gr m s :=
  ⟨h.cap.drewN n, h.blk, h.jobs, h.hall, h.most, h.frw.drewN n, h.frg.drewN n⟩
theorem NevI.same {w w1 wr wn : World} {all : Int} {xs : List Int} {g gr m : Nat} {s : CS} (h : NevI w w1 wr all xs g gr m s) (hg : w.heap.size ≤ g) (hne : gr ≠ g) (hc : CapsAt wn g s) (hf : Fr (· = g) wr wn) : NevI w w1 wn all xs g gr m s :=
  ⟨hc, h.blk.fr hf hne, h.jobs, h.hall, h.most, h.frw.own hf hg, h.frg.trans hf (fun _ _ x => x)⟩

/-- The caps turn, and the law's own count of the job turns alike. -/
theorem NevI.turn {w w1 wr wn : World} {all : Int} {xs : List Int} {g gr m j : Nat} {s : CS} {d v : Int} (h : NevI w w1 wr all xs g gr m s) (hg : w.heap.size ≤ g) (hgr : w1.heap.size ≤ gr) (hw : w.heap.size ≤ w1.heap.size) (hne : gr ≠ g)
    (hv : v = s.r j + d) (hc : CapsAt wn g (s.add j d)) (hf : Fr (· = g) (wr.setCell ⟨gr, j, none⟩ (.int .i64 v)) wn) : NevI w w1 wn all xs g gr m (s.add j d) := by
  subst hv
  have hb := h.blk.num_set j (s.r j + d)
  rw [← add_take] at hb
  have f0 : Fr (· = gr) wr (wr.setCell ⟨gr, j, none⟩ (.int .i64 (s.r j + d))) := (Fr.refl (· = gr) wr).setCell (.inr rfl) _
  exact ⟨hc, hb.fr hf hne, h.jobs, h.hall, h.most, (h.frw.own f0 (by omega)).own hf hg,
    (h.frg.own f0 hgr).trans hf (fun _ _ x => x)⟩

set_option maxRecDepth 100000 in
set_option maxHeartbeats 4000000 in
theorem capsNever_walk (all : Int) (A B : Option Addr) (n c n2 c2 : Nat) (es bs : List Int) (w : World) (h : Reads w w.heap.size 1 A n (es.map (Value.int .u8))) (hn : n ≤ c) (hc : c ≤ 9223372036854775807)
    (h2 : Reads w w.heap.size 1 B n2 (bs.map (Value.int .u16))) (hn2 : n2 ≤ c2) (_hc2 : c2 ≤ 9223372036854775807)
    (ha : 0 ≤ all ∧ all ≤ 255) (he : ∀ x ∈ es, 0 ≤ x ∧ x ≤ 255) (hb : ∀ x ∈ bs, 0 ≤ x ∧ x ≤ 65535) :
    Calls Try.prog 5 #[.int .u8 all, .slice A n c, .slice B n2 c2] w fun e w' => e = .returned (.bool true) ∧ Below w.heap.size w w' := by
  have HM := Lib.hid (made_k all A n c es w h hn hc ha he)
  have HR := Lib.hid h2
  have HL := Lib.hid h2.length_ints
  have HB := Lib.hid hb
  clear h h2 he hb
  obtain ⟨ha1, ha2⟩ := ha
  go_enter Try.func5, Try.ntmps5
  go_wp2_with fail
  refine HM.out.mono ?_
  rintro e w1 ⟨g, A', m, c', s0, rfl, M⟩
  clear HM
  generalize es.take 64 = xs at *
  by_cases h3 : 300 < n2
  · go_wp2_with fail
    refine (works_any _).mono ?_
    rintro e w2 ⟨rfl, hf⟩
    go_wp2
    go_ret
    exact ⟨rfl, (M.fr.then0 hf).below⟩
  · have hm64 := M.m64
    have hmc := M.mc
    have hcx := M.cmax
    have hsz1 := M.fr.size
    have hd3 : decide (300 < (n2 : Int)) = false := by simp; omega
    obtain ⟨i0, hi, hz0, hz1, hz2⟩ := info_parts info3
    go_wp2_with (at_make; go_must (refine wpList_make_full _ rfl _ _ 24 rfl w1.heap.size 3 i0 (.int .i64 0) 1 Try.underlying24 hi hz0 hz1 .i64 .i64 m m m rfl rfl rfl rfl (by rw [hz2]; omega) (by unfold maxLen; omega) (Nat.le_refl _) ?_); intro w2 hown2 hg2)
    rw [madeCells_int] at hown2
    have hblk := Blk.of_full hown2
    have hF2 : Fr No w1 w2 := Fr.of_grown hg2 (fun k hk => by cases hk)
    have hI : NevI w w1 w2 all xs g w1.heap.size m s0 := by
      refine ⟨M.cap.fr hF2 (fun x => x), ?_, M.jobs, M.hall, M.most, M.fr.then0 hF2, hF2.mono (fun _ x => x.elim)⟩
      rw [M.runs64, List.take_replicate, show min m 64 = m by omega]
      exact hblk
    have hne : w1.heap.size ≠ g := by have := M.cap.blk.lt; omega
    have hT := M.tot
    generalize hgr : w1.heap.size = gr at *
    have HGR := Lib.hid hgr
    clear hgr
    clear hown2 hg2 hblk hF2
    go_wp2
    rcases Nat.eq_zero_or_pos m with hm0 | hm0
    · subst hm0
      go_loopw [10, 44] (fun t i wr => t = .int .i64 0 ∧ i = .int .i64 0 ∧ NevI w w1 wr all xs g gr 0 s0) (fun _ _ _ => 0)
      case atStart => exact ⟨rfl, rfl, hI⟩
      case round =>
        obtain ⟨rfl, rfl, hI'⟩ := hrel
        rcases Nat.eq_zero_or_pos n2 with h0 | h0
        · subst h0
          go_wp2
          refine wp_loop_rounds 1 ?_
          rw [rounds_succ]
          go_wp2_with fail
          refine (works_any _).mono ?_
          rintro e w3 ⟨rfl, hf⟩
          go_wp2
          go_ret
          exact ⟨rfl, (hI'.frw.then0 hf).below⟩
        · obtain ⟨b, off, rfl, hbb, hcell⟩ := HR.out.int_at h0
          generalize bs.getD 0 0 = x at *
          have hcw : wr.cell? ⟨b, off, none⟩ = some (.int .u16 x) := (hI'.frw.cell (p := ⟨b, off, none⟩) hbb (fun x => x)).trans hcell
          clear hcell
          go_wp2
          refine wp_loop_rounds 1 ?_
          rw [rounds_succ]
          go_wp2_with fail
          refine (works_any _).mono ?_
          rintro e w3 ⟨rfl, hf⟩
          go_wp2
          go_ret
          exact ⟨rfl, (hI'.frw.then0 hf).below⟩
    · go_loopw [10, 44] (fun t i wr => ∃ (k : Nat) (s : CS), t = .int .i64 s.total ∧ i = .int .i64 k ∧ k ≤ n2 ∧ NevI w w1 wr all xs g gr m s) (fun _ i _ => n2 - (intOf i).toNat)
      case atStart => exact ⟨0, s0, by rw [hT], rfl, Nat.zero_le _, hI⟩
      case round =>
        clear hI hT
        have hg := M.hg
        have hmb : ((m : Int) == 0) = false := by simp; omega
        obtain ⟨k, s, rfl, rfl, hk, hI⟩ := hrel
        by_cases hlt : k < n2
        · obtain ⟨b, off, rfl, hbb, hcell⟩ := HR.out.int_at hlt
          have hx := HB.out (bs.getD k 0) (by have := HL.out; simp [show k < bs.length by omega])
          obtain ⟨hx1, hx2⟩ := hx
          generalize bs.getD k 0 = x at *
          have hcw : wr.cell? ⟨b, off + k, none⟩ = some (.int .u16 x) := (hI.frw.cell (p := ⟨b, off + k, none⟩) hbb (fun x => x)).trans hcell
          clear hcell
          have hdiv : IntKind.u16.wrap (x.tdiv 3) = x / 3 := by
            rw [Int.tdiv_eq_ediv_of_nonneg hx1]; simp only [IntKind.wrap_u16]; omega
          have hx3 : 0 ≤ x / 3 ∧ x / 3 ≤ 30000 := by omega
          obtain ⟨hx31, hx32⟩ := hx3
          have hq1 : 0 ≤ x / 3 % (m : Int) := Int.emod_nonneg _ (by omega)
          have hq2 : x / 3 % (m : Int) < m := Int.emod_lt_of_pos _ (by omega)
          have hT0 := hI.cap.ok.tot0
          have hT1 := hI.cap.ok.tot1
          rw [hI.hall] at hT1
          by_cases h3 : 0 < x % 3
          · go_wp2_with fail
            clear hdiv hx31 hx32 hcw
            generalize x / 3 % (m : Int) = q at *
            obtain ⟨qn, rfl⟩ := Int.eq_ofNat_of_zero_le hq1
            have hqm : qn < m := by omega
            have hhas : s.has (qn : Int) = true := CS.has_of hq1 (by rw [hI.jobs]; exact hq2)
            obtain ⟨f1, f2, f5, f3, f4⟩ := CS.facts hhas
            simp only [Int.toNat_natCast] at f1 f2 f3 f4 f5
            have hcr := hI.cell hm64 hqm
            obtain ⟨b2, off2, hA2, hcx2⟩ := M.cell hI.frg hqm
            have hmx := hI.most qn
            have HMX := Lib.hid hmx
            have HA2 := Lib.hid hA2
            have HLF := Lib.hid (show s.left qn = min (xs.getD qn 0 - s.r qn) (all - s.total) by unfold CS.left; rw [hmx, hI.hall])
            have F1 := Lib.hid f1; have F5 := Lib.hid f5; have F3 := Lib.hid f3; have F4 := Lib.hid f4
            have hRR := hI.cap.ok.r1 qn
            have hR0 := hI.cap.ok.r0 qn
            have hM1 := hI.cap.ok.m1 qn
            rw [hmx] at hRR hM1
            clear f1 f2 f3 f4 f5 hhas hmx
            subst hA2
            generalize hXe : xs.getD qn 0 = X at *
            generalize hRe : s.r qn = R at *
            generalize hTe : s.total = T at *
            have HRe := Lib.hid hRe; have HTe := Lib.hid hTe; have HXe := Lib.hid hXe
            clear hRe hTe hXe
            by_cases hR : R = X
            · have hb1 : (R == X) = true := by simp; exact hR
              have hE := Lib.hid (F4.out (by rw [HLF.out]; omega))
              go_quiet (fail)
              go_wp2_with fail
              refine (take_any _ _ _ _ (hI.cap.drewN nq)).mono ?_
              rintro e w5 ⟨rfl, hc5, hf⟩
              rw [hE.out.2.1]
              rw [hE.out.2.2] at hc5
              have hJ := (hI.drewN nq).same hg hne hc5 hf
              have HR' := Lib.hid HRe.out
              have HT' := Lib.hid HTe.out
              clear hc5 hf hcr hcx2 hI

              have hU := CS.facts (show (s).has (qn : Int) = true from CS.has_of hq1 (by rw [hJ.jobs]; exact hq2))
              have U1 := Lib.hid hU.1
              have U2 := Lib.hid (show (s).usedV (qn : Int) = R by rw [hU.2.2.1]; exact HR'.out)
              clear hU
              go_wp2_with fail
              refine (used_any _ _ _ _ hJ.cap).mono ?_
              rintro e w6 ⟨rfl, hf⟩
              rw [U1.out, U2.out]
              replace hJ := hJ.fr hf
              clear hf
              have hcr' := hJ.cell hm64 hqm
              rw [HR'.out] at hcr'
              have hcx' : w6.cell? ⟨b2, off2 + qn, none⟩ = some (.int .i64 X) := by
                obtain ⟨b3, off3, hA3, hc3⟩ := M.cell hJ.frg hqm
                cases hA3
                rw [HXe.out] at hc3
                exact hc3
              go_wp2_with fail
              refine (total_any _ _ _ hJ.cap).mono ?_
              rintro e _ ⟨rfl, rfl⟩
              rw [HT'.out]
              go_wp2
              go_roundw
              case rel => exact ⟨k + 1, s, by rw [HT'.out], by go_num, by omega, hJ⟩
              case measure => simp [intOf]; omega
            · by_cases hTa : T = all
              · have hb1 : (R == X) = false := by simp; exact hR
                have hb2 : (T == all) = true := by simp; exact hTa
                have hE := Lib.hid (F4.out (by rw [HLF.out]; omega))
                clear hTa hR
                go_quiet (fail)
                go_wp2_with fail
                refine (take_any _ _ _ _ (hI.cap.drewN nq)).mono ?_
                rintro e w5 ⟨rfl, hc5, hf⟩
                rw [hE.out.2.1]
                rw [hE.out.2.2] at hc5
                have hJ := (hI.drewN nq).same hg hne hc5 hf
                have HR' := Lib.hid HRe.out
                have HT' := Lib.hid HTe.out
                clear hc5 hf hcr hcx2 hI

                have hU := CS.facts (show (s).has (qn : Int) = true from CS.has_of hq1 (by rw [hJ.jobs]; exact hq2))
                have U1 := Lib.hid hU.1
                have U2 := Lib.hid (show (s).usedV (qn : Int) = R by rw [hU.2.2.1]; exact HR'.out)
                clear hU
                go_wp2_with fail
                refine (used_any _ _ _ _ hJ.cap).mono ?_
                rintro e w6 ⟨rfl, hf⟩
                rw [U1.out, U2.out]
                replace hJ := hJ.fr hf
                clear hf
                have hcr' := hJ.cell hm64 hqm
                rw [HR'.out] at hcr'
                have hcx' : w6.cell? ⟨b2, off2 + qn, none⟩ = some (.int .i64 X) := by
                  obtain ⟨b3, off3, hA3, hc3⟩ := M.cell hJ.frg hqm
                  cases hA3
                  rw [HXe.out] at hc3
                  exact hc3
                go_wp2_with fail
                refine (total_any _ _ _ hJ.cap).mono ?_
                rintro e _ ⟨rfl, rfl⟩
                rw [HT'.out]
                go_wp2
                go_roundw
                case rel => exact ⟨k + 1, s, by rw [HT'.out], by go_num, by omega, hJ⟩
                case measure => simp [intOf]; omega
              · have hb1 : (R == X) = false := by simp; exact hR
                have hb2 : (T == all) = false := by simp; exact hTa
                have hE := Lib.hid (F3.out (by rw [HLF.out]; omega))
                have hfz := hI.blk.frozen
                go_quiet (fail)
                go_wp2_with fail
                clear hfz
                refine (take_any _ _ _ _ ((hI.cap.drewN nq).fr ((Fr.refl (· = gr) _).setCell (.inr rfl) _) (fun e => hne e.symm))).mono ?_
                rintro e w5 ⟨rfl, hc5, hf⟩
                rw [hE.out.2.1]
                rw [hE.out.2.2] at hc5
                have hJ := (hI.drewN nq).turn hg (Nat.le_of_eq HGR.out) M.fr.size hne (by rw [HRe.out]) hc5 hf
                have HR' := Lib.hid (show (s.add qn 1).r qn = R + 1 by rw [s.add_r _ _ _ hI.cap.ok.lr (by omega), if_pos rfl, HRe.out])
                have HT' := Lib.hid (show (s.add qn 1).total = T + 1 by rw [← HTe.out]; rfl)
                clear hc5 hf hcr hcx2 hI hb1 hb2

                have hU := CS.facts (show (s.add qn 1).has (qn : Int) = true from CS.has_of hq1 (by rw [hJ.jobs]; exact hq2))
                have U1 := Lib.hid hU.1
                have U2 := Lib.hid (show (s.add qn 1).usedV (qn : Int) = R + 1 by rw [hU.2.2.1]; exact HR'.out)
                clear hU
                go_wp2_with fail
                refine (used_any _ _ _ _ hJ.cap).mono ?_
                rintro e w6 ⟨rfl, hf⟩
                rw [U1.out, U2.out]
                replace hJ := hJ.fr hf
                clear hf
                have hcr' := hJ.cell hm64 hqm
                rw [HR'.out] at hcr'
                have hcx' : w6.cell? ⟨b2, off2 + qn, none⟩ = some (.int .i64 X) := by
                  obtain ⟨b3, off3, hA3, hc3⟩ := M.cell hJ.frg hqm
                  cases hA3
                  rw [HXe.out] at hc3
                  exact hc3
                go_wp2_with fail
                refine (total_any _ _ _ hJ.cap).mono ?_
                rintro e _ ⟨rfl, rfl⟩
                rw [HT'.out]
                go_wp2
                go_roundw
                case rel => exact ⟨k + 1, s.add qn 1, by rw [HT'.out], by go_num, by omega, hJ⟩
                case measure => simp [intOf]; omega
          · obtain ⟨q, hq⟩ : ∃ q, q = x / 3 % (m : Int) := ⟨_, rfl⟩
            rw [← hq] at hq1 hq2
            obtain ⟨qn, rfl⟩ := Int.eq_ofNat_of_zero_le hq1
            have hqr : x / 3 % (m : Int) = qn := hq.symm
            clear hq
            have hqm : qn < m := by omega
            have hhas : s.has (qn : Int) = true := CS.has_of hq1 (by rw [hI.jobs]; exact hq2)
            have hcr := hI.cell hm64 hqm
            obtain ⟨b2, off2, hA2, hcx2⟩ := M.cell hI.frg hqm
            have hmx := hI.most qn
            have HH := Lib.hid hhas
            have hRR := hI.cap.ok.r1 qn
            have hR0 := hI.cap.ok.r0 qn
            have hM1 := hI.cap.ok.m1 qn
            rw [hmx] at hRR hM1
            clear hhas hmx
            subst hA2
            generalize hXe : xs.getD qn 0 = X at *
            generalize hRe : s.r qn = R at *
            generalize hTe : s.total = T at *
            have HRe := Lib.hid hRe; have HTe := Lib.hid hTe; have HXe := Lib.hid hXe
            clear hRe hTe hXe
            by_cases hR : R = 0
            · have hb1 : (R == 0) = true := by simp; exact hR
              have hE : Hid (s.giveE (qn : Int) = 5 ∧ s.giveS (qn : Int) = s) := by
                have := HRe.out
                exact ⟨by simp [CS.giveE, HH.out, this, hR], by simp [CS.giveS, this, hR]⟩
              clear hR
              go_wp2_with fail
              refine (give_any _ _ _ _ hI.cap).mono ?_
              rintro e w5 ⟨rfl, hc5, hf⟩
              rw [hE.out.1]
              rw [hE.out.2] at hc5
              have hJ := hI.same hg hne hc5 hf
              have HR' := Lib.hid HRe.out
              have HT' := Lib.hid HTe.out
              clear hc5 hf hcr hcx2 hI hb1

              have hU := CS.facts (show (s).has (qn : Int) = true from CS.has_of hq1 (by rw [hJ.jobs]; exact hq2))
              have U1 := Lib.hid hU.1
              have U2 := Lib.hid (show (s).usedV (qn : Int) = R by rw [hU.2.2.1]; exact HR'.out)
              clear hU
              go_wp2_with fail
              refine (used_any _ _ _ _ hJ.cap).mono ?_
              rintro e w6 ⟨rfl, hf⟩
              rw [U1.out, U2.out]
              replace hJ := hJ.fr hf
              clear hf
              have hcr' := hJ.cell hm64 hqm
              rw [HR'.out] at hcr'
              have hcx' : w6.cell? ⟨b2, off2 + qn, none⟩ = some (.int .i64 X) := by
                obtain ⟨b3, off3, hA3, hc3⟩ := M.cell hJ.frg hqm
                cases hA3
                rw [HXe.out] at hc3
                exact hc3
              go_wp2_with fail
              refine (total_any _ _ _ hJ.cap).mono ?_
              rintro e _ ⟨rfl, rfl⟩
              rw [HT'.out]
              go_wp2
              go_roundw
              case rel => exact ⟨k + 1, s, by rw [HT'.out], by go_num, by omega, hJ⟩
              case measure => simp [intOf]; omega
            · have hb1 : (R == 0) = false := by simp; exact hR
              have hE : Hid (s.giveE (qn : Int) = 0 ∧ s.giveS (qn : Int) = s.add qn (-1)) := by
                have := HRe.out
                exact ⟨by simp [CS.giveE, HH.out, this, hR], by simp [CS.giveS, HH.out, this, hR]⟩
              have hT1' : 0 < T := by
                have h1 := (le_sum s.runs qn hI.cap.ok.r0).1
                have h2 := hI.cap.ok.sum
                have h3 := HRe.out
                have h4 := HTe.out
                unfold CS.r at h3
                omega
              have hfz := hI.blk.frozen
              go_wp2_with fail
              clear hfz
              refine (give_any _ _ _ _ (hI.cap.fr ((Fr.refl (· = gr) _).setCell (.inr rfl) _) (fun e => hne e.symm))).mono ?_
              rintro e w5 ⟨rfl, hc5, hf⟩
              rw [hE.out.1]
              rw [hE.out.2] at hc5
              have hJ := hI.turn hg (Nat.le_of_eq HGR.out) M.fr.size hne (by rw [HRe.out]; omega) hc5 hf
              have HR' := Lib.hid (show (s.add qn (-1)).r qn = R - 1 by rw [s.add_r _ _ _ hI.cap.ok.lr (by omega), if_pos rfl, HRe.out]; omega)
              have HT' := Lib.hid (show (s.add qn (-1)).total = T - 1 by rw [← HTe.out]; show s.total + -1 = _; omega)
              clear hc5 hf hcr hcx2 hI hb1

              have hU := CS.facts (show (s.add qn (-1)).has (qn : Int) = true from CS.has_of hq1 (by rw [hJ.jobs]; exact hq2))
              have U1 := Lib.hid hU.1
              have U2 := Lib.hid (show (s.add qn (-1)).usedV (qn : Int) = R - 1 by rw [hU.2.2.1]; exact HR'.out)
              clear hU
              go_wp2_with fail
              refine (used_any _ _ _ _ hJ.cap).mono ?_
              rintro e w6 ⟨rfl, hf⟩
              rw [U1.out, U2.out]
              replace hJ := hJ.fr hf
              clear hf
              have hcr' := hJ.cell hm64 hqm
              rw [HR'.out] at hcr'
              have hcx' : w6.cell? ⟨b2, off2 + qn, none⟩ = some (.int .i64 X) := by
                obtain ⟨b3, off3, hA3, hc3⟩ := M.cell hJ.frg hqm
                cases hA3
                rw [HXe.out] at hc3
                exact hc3
              go_wp2_with fail
              refine (total_any _ _ _ hJ.cap).mono ?_
              rintro e _ ⟨rfl, rfl⟩
              rw [HT'.out]
              go_wp2
              go_roundw
              case rel => exact ⟨k + 1, s.add qn (-1), by rw [HT'.out], by go_num, by omega, hJ⟩
              case measure => simp [intOf]; omega
        · go_wp2_with fail
          go_loopw [145] (fun i wr => ∃ k : Nat, i = .int .i64 k ∧ k ≤ m ∧ NevI w w1 wr all xs g gr m s) (fun i _ => m - (intOf i).toNat)
          case atStart => exact ⟨0, rfl, Nat.zero_le _, hI⟩
          case round =>
            clear hI
            obtain ⟨j, rfl, hj, hI⟩ := hrel
            by_cases hjm : j < m
            · have hU := CS.facts (show s.has (j : Int) = true from CS.has_of (by omega) (by rw [hI.jobs]; omega))
              have U1 := Lib.hid hU.1
              have U2 := Lib.hid (show s.usedV (j : Int) = s.r j by rw [hU.2.2.1]; rfl)
              clear hU
              go_wp2_with fail
              refine (used_any _ _ _ _ hI.cap).mono ?_
              rintro e w6 ⟨rfl, hf⟩
              rw [U1.out, U2.out]
              replace hI := hI.fr hf
              have hcr := hI.cell hm64 hjm
              clear hf
              generalize s.r j = R at *
              go_wp2
              go_roundw
              case rel => exact ⟨j + 1, by go_num, by omega, hI⟩
              case measure => simp [intOf]; omega
            · go_wp2_with fail
              refine (works_any _).mono ?_
              rintro e w7 ⟨rfl, hf⟩
              go_wp2
              go_ret
              exact ⟨rfl, (hI.frw.then0 hf).below⟩
end Go.Proofs.Ytjgjbjigghfnbaa
