/- The document's Check and wide. -/
import Derived.Test.YtclhdhgagjpicaaB
namespace Go.Proofs.Ytclhdhgagjpicaa
open Go.RowKit Go.Wk

theorem rvalid_any (t : Int) (w : World) : Calls Try.prog 49 #[.int .i64 t] w fun e w' => e = .returned (.bool (vld t)) ∧ w = w' := by
  have hh : ¬ 0 ≤ t ∨ (0 ≤ t ∧ t ≤ 253402300799) ∨ (0 ≤ t ∧ ¬ t ≤ 253402300799) := by omega
  rcases hh with h1 | ⟨h1, h2⟩ | ⟨h1, h2⟩
  all_goals
    go_enter Try.func49, Try.ntmps49
    go_wp2
    go_ret
    exact ⟨ret1b (by simp [vld]; omega), rfl⟩

theorem rcheck_any (g k c B : Nat) (ss : List SL) (w : World) (hk : k ≤ 1000) (hl : ss.length = k) (h : ∀ i, i < k → w.cell? ⟨g, i, none⟩ = some (.slice (ss.getD i SL.nil).A (ss.getD i SL.nil).n (ss.getD i SL.nil).c) ∧ Reads w B 1 (ss.getD i SL.nil).A (ss.getD i SL.nil).n ((ss.getD i SL.nil).l.map (Value.int .i64))) :
    Calls Try.prog 48 #[.slice (some ⟨g, 0, none⟩) k c] w fun e w' => e = .returned (.int .i64 (chk (ss.map (·.l)))) ∧ Fr No w w' := by
  have HH := Lib.hid h
  have HL := Lib.hid hl
  have HLS := Lib.hid (show (ss.map (·.l)).length = k by simpa using hl)
  clear h hl
  obtain ⟨ls, hls⟩ : ∃ ls, ls = ss.map (·.l) := ⟨_, rfl⟩
  rw [← hls] at HLS ⊢
  have HG := Lib.hid (show ∀ i, i < k → ls.getD i [] = (ss.getD i SL.nil).l from fun i hi => by rw [hls]; simp [show i < ss.length by rw [HL.out]; exact hi])
  clear hls
  go_enter Try.func48, Try.ntmps48
  go_wp2
  go_loopw [3] (fun i wr => ∃ q : Nat, i = .int .i64 q ∧ q ≤ k ∧ w = wr ∧ Hid ((ls.take q).any many = false)) (fun i _ => k - (intOf i).toNat)
  case atStart => exact ⟨0, rfl, Nat.zero_le _, rfl, Lib.hid rfl⟩
  case round =>
    obtain ⟨q, rfl, hq, rfl, HM⟩ := hrel
    by_cases hlt : q < k
    · obtain ⟨hc, hrd⟩ := HH.out q hlt
      have HS := Lib.hid (any_take_succ (p := many) [] (show q < ls.length by rw [HLS.out]; exact hlt))
      rw [HM.out, HG.out q hlt] at HS
      have hn := hrd.length_ints
      generalize ss.getD q SL.nil = s at *
      clear hrd
      by_cases hm : 100000 < s.n
      · have HE := Lib.hid (show ls.any many = true from by
          have h1 : (ls.take (q + 1)).any many = true := by rw [HS.out]; simp [many, hn, hm]
          obtain ⟨x, hx, hp⟩ := List.any_eq_true.1 h1
          exact List.any_eq_true.2 ⟨x, List.mem_of_mem_take hx, hp⟩)
        clear hn
        go_wp2
        go_ret
        refine ⟨?_, Fr.refl _ _⟩
        unfold chk
        rw [if_pos HE.out]
        rfl
      · have HE := Lib.hid (show (ls.take (q + 1)).any many = false from by rw [HS.out]; simp [many, hn]; omega)
        clear hn
        go_wp2
        go_roundw
        case rel => exact ⟨q + 1, by go_num, by omega, (by trivial), HE⟩
        case measure => simp [intOf]; omega
    · have HMF := Lib.hid (show ls.any many = false by have := HM.out; rwa [List.take_of_length_le (by rw [HLS.out]; omega)] at this)
      clear HM
      go_wp2
      go_loopw [4] (fun i wr => ∃ q : Nat, i = .int .i64 q ∧ q ≤ k ∧ w = wr ∧ Hid ((ls.take q).any inv = false)) (fun i _ => k - (intOf i).toNat)
      case atStart => exact ⟨0, rfl, Nat.zero_le _, rfl, Lib.hid rfl⟩
      case round =>
        obtain ⟨q2, rfl, hq2, rfl, HI⟩ := hrel
        by_cases hlt2 : q2 < k
        · obtain ⟨hc, hrd⟩ := HH.out q2 hlt2
          have HS := Lib.hid (any_take_succ (p := inv) [] (show q2 < ls.length by rw [HLS.out]; exact hlt2))
          have HMEM := Lib.hid (show (ss.getD q2 SL.nil).l ∈ ls from by
            rw [← HG.out q2 hlt2, show ls.getD q2 [] = ls[q2]'(by rw [HLS.out]; exact hlt2) by simp [show q2 < ls.length by rw [HLS.out]; exact hlt2]]
            exact List.getElem_mem _)
          rw [HI.out, HG.out q2 hlt2] at HS
          have HN := Lib.hid hrd.length_ints
          have HRD := Lib.hid hrd
          have hn1 : (ss.getD q2 SL.nil).n ≤ 100000 := by
            have h1 := List.any_eq_false.1 HMF.out _ HMEM.out
            simp only [many, decide_eq_true_eq] at h1
            rw [HN.out] at h1
            omega
          generalize ss.getD q2 SL.nil = s at *
          clear hrd
          obtain ⟨A0, n0, c0, l0⟩ := s
          dsimp only at hc hn1 HS HMEM HN HRD
          go_wp2
          go_loopw [5] (fun i wr => ∃ j : Nat, i = .int .i64 j ∧ j ≤ n0 ∧ w = wr ∧ Hid ((l0.take j).any (fun t => !vld t) = false)) (fun i _ => n0 - (intOf i).toNat)
          case atStart => exact ⟨0, rfl, Nat.zero_le _, rfl, Lib.hid rfl⟩
          case round =>
            obtain ⟨j, rfl, hj, rfl, HJ⟩ := hrel
            by_cases hlt3 : j < n0
            · obtain ⟨b, off, rfl, hb, hcj⟩ := HRD.out.int_at hlt3
              have HT := Lib.hid (any_take_succ (p := fun t => !vld t) (0 : Int) (show j < l0.length by rw [HN.out]; exact hlt3))
              rw [HJ.out] at HT
              have HMT := Lib.hid (show l0.getD j 0 ∈ l0 from by
                rw [show l0.getD j 0 = l0[j]'(by rw [HN.out]; exact hlt3) by simp [show j < l0.length by rw [HN.out]; exact hlt3]]
                exact List.getElem_mem _)
              obtain ⟨t, ht⟩ : ∃ t, t = l0.getD j 0 := ⟨_, rfl⟩
              rw [← ht] at hcj HT HMT
              have HV := Lib.hid (rvalid_any t w)
              cases hv : vld t with
              | false =>
                have HE := Lib.hid (show ls.any inv = true from List.any_eq_true.2 ⟨_, HMEM.out, List.any_eq_true.2 ⟨t, HMT.out, by rw [hv]; rfl⟩⟩)
                rw [hv] at HV
                clear ht HMT
                go_wp2_with (go_at_call 49; refine HV.out.mono ?_; rintro e w1 ⟨rfl, rfl⟩)
                go_ret
                refine ⟨?_, Fr.refl _ _⟩
                unfold chk
                rw [if_neg (by rw [HMF.out]; simp), if_pos HE.out]
                rfl
              | true =>
                rw [hv] at HV HT
                have HT1 := Lib.hid (show (l0.take (j + 1)).any (fun t => !vld t) = false by rw [HT.out]; rfl)
                clear ht HMT HT
                go_wp2_with (go_at_call 49; refine HV.out.mono ?_; rintro e w1 ⟨rfl, rfl⟩)
                go_roundw
                case rel => exact ⟨j + 1, by go_num, by omega, (by trivial), HT1⟩
                case measure => simp [intOf]; omega
            · have HS1 := Lib.hid (show (ls.take (q2 + 1)).any inv = false from by
                rw [HS.out]
                have := HJ.out
                rw [List.take_of_length_le (by rw [HN.out]; omega)] at this
                exact this)
              clear HJ
              go_wp2
              go_roundw
              case rel => exact ⟨q2 + 1, by go_num, by omega, (by trivial), HS1⟩
              case measure => simp [intOf]; omega
        · have HIF := Lib.hid (show ls.any inv = false by have := HI.out; rwa [List.take_of_length_le (by rw [HLS.out]; omega)] at this)
          clear HI
          go_wp2
          go_loopw [6] (fun i wr => ∃ q m : Nat, i = .int .i64 q ∧ q ≤ k ∧ wr = w.drewN m ∧ Hid ((ls.take q).any ord = false)) (fun i _ => k - (intOf i).toNat)
          case atStart => exact ⟨0, 0, rfl, Nat.zero_le _, rfl, Lib.hid rfl⟩
          case round =>
            obtain ⟨q3, m3, rfl, hq3, rfl, HO⟩ := hrel
            by_cases hlt3 : q3 < k
            · obtain ⟨hc, hrd⟩ := HH.out q3 hlt3
              have HS := Lib.hid (any_take_succ (p := ord) [] (show q3 < ls.length by rw [HLS.out]; exact hlt3))
              have HMEM := Lib.hid (show (ss.getD q3 SL.nil).l ∈ ls from by
                rw [← HG.out q3 hlt3, show ls.getD q3 [] = ls[q3]'(by rw [HLS.out]; exact hlt3) by simp [show q3 < ls.length by rw [HLS.out]; exact hlt3]]
                exact List.getElem_mem _)
              rw [HO.out, HG.out q3 hlt3] at HS
              have HN := Lib.hid hrd.length_ints
              have HRD := Lib.hid hrd
              have hn1 : (ss.getD q3 SL.nil).n ≤ 100000 := by
                have h1 := List.any_eq_false.1 HMF.out _ HMEM.out
                simp only [many, decide_eq_true_eq] at h1
                rw [HN.out] at h1
                omega
              generalize ss.getD q3 SL.nil = s at *
              clear hrd
              obtain ⟨A0, n0, c0, l0⟩ := s
              dsimp only at hc hn1 HS HMEM HN HRD
              go_wp2
              go_loopw [7] (fun i wr => ∃ j m : Nat, i = .int .i64 j ∧ 1 ≤ j ∧ (j ≤ n0 ∨ j = 1) ∧ wr = w.drewN m ∧ Hid (ob l0 j = false)) (fun i _ => n0 - (intOf i).toNat)
              case atStart => exact ⟨1, m3, rfl, by omega, .inr rfl, rfl, Lib.hid (by simp [ob])⟩
              case round =>
                obtain ⟨j, m, rfl, hj1, hj, rfl, HJ⟩ := hrel
                by_cases hlt4 : j < n0
                · obtain ⟨b, off, rfl, hb, hcj⟩ := HRD.out.int_at hlt4
                  obtain ⟨b', off', hA', _, hcp⟩ := HRD.out.int_at (k := j - 1) (by omega)
                  injection hA' with hA'
                  injection hA' with hA1 hA2
                  subst hA1
                  subst hA2
                  have HOB := Lib.hid (show ob l0 (j + 1) = (ob l0 j || (decide (0 < j) && decide (l0.getD j 0 ≤ l0.getD (j - 1) 0))) from rfl)
                  rw [HJ.out] at HOB
                  generalize l0.getD j 0 = t at *
                  generalize l0.getD (j - 1) 0 = u at *
                  have hjn : ((j : Int) - 1).toNat = j - 1 := by omega
                  have hj2 : (0 : Int) ≤ (j : Int) - 1 := by omega
                  have hj3 : (j : Int) - 1 < (n0 : Int) := by omega
                  have hj4 : (j : Int) < (n0 : Int) := by omega
                  have hk4 : (q3 : Int) < (k : Int) := by omega
                  have hwr : IntKind.i64.wrap ((j : Int) - 1) = (j : Int) - 1 := by simp only [IntKind.wrap_i64]; omega
                  by_cases hle : t ≤ u
                  · have HE := Lib.hid (show ls.any ord = true from List.any_eq_true.2 ⟨_, HMEM.out, by
                      have h1 : ob l0 (j + 1) = true := by rw [HOB.out]; simp [hle]; omega
                      have mono : ∀ d, ob l0 (j + 1 + d) = true := fun d => by
                        induction d with
                        | zero => exact h1
                        | succ d ih => show (ob l0 (j + 1 + d) || _) = true; rw [ih]; rfl
                      have := mono (l0.length - (j + 1))
                      unfold ord
                      rwa [show j + 1 + (l0.length - (j + 1)) = l0.length by rw [HN.out]; omega] at this⟩)
                    go_wp2
                    go_quiet (fail)
                    go_wp2
                    go_ret
                    refine ⟨?_, ((Fr.refl No w).drewN _).drewN _⟩
                    unfold chk
                    rw [if_neg (by rw [HMF.out]; simp), if_neg (by rw [HIF.out]; simp), if_pos HE.out]
                    rfl
                  · have HR := Lib.hid (show ob l0 (j + 1) = false by rw [HOB.out]; simp [hle])
                    go_wp2
                    go_quiet (fail)
                    go_wp2
                    go_roundw
                    case rel => exact ⟨j + 1, _, by go_num, by omega, .inl (by omega), rfl, HR⟩
                    case measure => simp [intOf]; omega
                · have HS1 := Lib.hid (show (ls.take (q3 + 1)).any ord = false from by
                    rw [HS.out]
                    show ord l0 = false
                    unfold ord
                    rw [HN.out]
                    rcases (show n0 = j ∨ n0 = 0 by omega) with h | h
                    · rw [h]; exact HJ.out
                    · rw [h]; rfl)
                  clear HJ
                  go_wp2
                  go_roundw
                  case rel => exact ⟨q3 + 1, _, by go_num, by omega, rfl, HS1⟩
                  case measure => simp [intOf]; omega
            · have HOF := Lib.hid (show ls.any ord = false by have := HO.out; rwa [List.take_of_length_le (by rw [HLS.out]; omega)] at this)
              clear HO
              go_wp2
              go_ret
              refine ⟨?_, (Fr.refl No w).drewN _⟩
              unfold chk
              rw [if_neg (by rw [HMF.out]; simp), if_neg (by rw [HIF.out]; simp), if_neg (by rw [HOF.out]; simp)]
              rfl
end Go.Proofs.Ytclhdhgagjpicaa
