/- RunsCounts: the walk. -/
import Derived.Test.YtopcjakgfaobcaaCntP
namespace Go.Proofs.Ytopcjakgfaobcaa
open Go.RowKit Go.Wk

set_option maxRecDepth 100000 in
set_option maxHeartbeats 4000000 in
theorem runsCounts_walk (A : Option Addr) (n c : Nat) (es : List (List Int)) (job : Int) (w : World) (h : RowF kStp 48 w A n c es) (hn : n ≤ 9223372036854775807) :
    Calls Try.prog 4 #[.slice A n c, .int .i64 job] w fun e w' => e = .returned (.bool true) ∧ Fr No w w' := by
  have HR := Lib.hid h
  clear h
  by_cases b1 : 60 < n
  · go_enter Try.func4, Try.ntmps4
    go_wp2_with fail
    refine (works_any _).mono ?_
    rintro x w1 ⟨rfl, hf⟩
    go_wp2
    go_ret
    exact ⟨rfl, hf⟩
  have hn60 : n ≤ 60 := by omega
  go_enter Try.func4, Try.ntmps4
  go_wp2_with fail
  refine (filled_any A n c es _ HR.out hn60).mono ?_
  rintro x w1 ⟨b, D, rfl, OW⟩
  generalize fillS (stps es) = s at *
  have HO := Lib.hid OW
  clear OW
  go_wp2_with fail
  refine (live_any b D s _ HO.out.tab).mono ?_
  rintro x w2 ⟨A2, c2, rfl, ho, hf⟩
  have V0 := Lib.hid (View.of HO.out ho hf)
  have hs1 := HO.out.tab.ok.len
  have hs2 := HO.out.tab.ok.s1
  clear ho hf
  obtain ⟨l, hl⟩ : ∃ l, l = s.live := ⟨_, rfl⟩
  rw [← hl] at V0 hs1 ⊢
  have HL := Lib.hid hl
  obtain ⟨m, hm⟩ : ∃ m, m = l.length := ⟨_, rfl⟩
  rw [← hm] at V0 hs1 ⊢
  have HM := Lib.hid hm
  clear hl hm
  go_wp2
  go_loopw [7, 8, 9] (fun sm ow i wr => ∃ k : Nat, i = .int .i64 k ∧ k ≤ m ∧ sm = .int .i64 (cover l k : Nat) ∧ ow = .int .i64 (cntJ job (l.take k)) ∧ View w wr b D s A2 m l) (fun _ _ i _ => m - (intOf i).toNat)
  case atStart => exact ⟨0, rfl, Nat.zero_le _, by rw [cover_zero], rfl, V0.out⟩
  case round =>
    clear V0
    obtain ⟨k, rfl, hk, rfl, rfl, V⟩ := hrel
    have hc1 := cover_le l k
    have hc2 := cntJ_take_le job l k
    rw [← HM.out] at hc1 hc2
    have hc0 : 0 ≤ ((cover l k : Nat) : Int) := by omega
    obtain ⟨hc2, hc3⟩ := hc2
    by_cases hlt : k < m
    · have HCS := Lib.hid (cover_succ (l := l) (i := k) (by rw [← HM.out]; exact hlt))
      have HNS := Lib.hid (cntJ_succ (job := job) (l := l) (i := k) (by rw [← HM.out]; exact hlt))
      have hc4 := cover_le l (k + 1)
      rw [← HM.out] at hc4
      obtain ⟨g, off, rfl, _, _, _, a1, _, _, _⟩ := reads_run V.rd hlt
      obtain ⟨x, hx⟩ : ∃ x, x = (l.getD k RV.zero).job := ⟨_, rfl⟩
      have HX := Lib.hid hx
      rw [← hx] at a1 HCS HNS
      clear hx
      generalize ((cover l k : Nat) : Int) = cv at *
      generalize cntJ job (l.take k) = cj at *
      have HV := Lib.hid V
      clear V
      go_wp2
      go_loopw [10, 11] (fun f q wq => ∃ qn : Nat, q = .int .i64 qn ∧ qn ≤ k ∧ f = .bool (notIn l x qn) ∧ View w wq b D s (some ⟨g, off, none⟩) m l ∧ wq.cell? ⟨g, off + k * 5 + 1, none⟩ = some (.int .i64 x)) (fun _ q _ => k - (intOf q).toNat)
      case atStart => exact ⟨0, rfl, Nat.zero_le _, rfl, HV.out, a1⟩
      case round =>
        clear HV a1
        obtain ⟨q, rfl, hq, rfl, V, a1⟩ := hrel
        by_cases hqk : q < k
        · have HNI := Lib.hid (notIn_succ (l := l) (j := x) (q := q) (by rw [← HM.out]; omega))
          obtain ⟨g', off', hgg, _, _, _, d1, _, _, _⟩ := reads_run V.rd (show q < m by omega)
          injection hgg with hgg
          injection hgg with hg1 hg2
          subst hg1
          subst hg2
          have HV := Lib.hid V
          clear V
          obtain ⟨y, hy⟩ : ∃ y, y = (l.getD q RV.zero).job := ⟨_, rfl⟩
          rw [← hy] at d1 HNI
          clear hy
          cases hni : notIn l x q
          · rw [hni] at HNI
            go_wp2
            go_quiet (fail)
            go_wp2
            go_roundw
            case rel => exact ⟨q + 1, by go_num, by omega, by rw [HNI.out]; rfl, HV.out.fr0 ((Fr.refl No _).drewN _), a1⟩
            case measure => simp [intOf]; omega
          · rw [hni] at HNI
            go_wp2
            go_quiet (fail)
            go_wp2
            go_roundw
            case rel => exact ⟨q + 1, by go_num, by omega, by rw [HNI.out]; simp, HV.out.fr0 ((Fr.refl No _).drewN _), a1⟩
            case measure => simp [intOf]; omega
        · have hqe : q = k := by omega
          rw [hqe]
          have HV := Lib.hid V
          clear V
          cases hni : notIn l x k
          · rw [hni] at HCS
            by_cases hj : x = job
            · rw [if_pos hj] at HNS
              go_wp2
              go_roundw
              case rel => exact ⟨k + 1, by go_num, by omega, vi (by rw [HCS.out]; simp), vi (by rw [HNS.out]), HV.out⟩
              case measure => simp [intOf]; omega
            · rw [if_neg hj] at HNS
              go_wp2
              go_roundw
              case rel => exact ⟨k + 1, by go_num, by omega, vi (by rw [HCS.out]; simp), vi (by rw [HNS.out]; simp), HV.out⟩
              case measure => simp [intOf]; omega
          · rw [hni, if_pos rfl] at HCS
            go_wp2_with fail
            refine (count_any b D s x _ HV.out.own.tab).mono ?_
            rintro e w3 ⟨rfl, hf⟩
            replace HV := Lib.hid (HV.out.fr0 hf)
            have a2 := (hf.cell (p := ⟨g, off + k * 5 + 1, none⟩) (World.block_lt_of_cell? _ _ a1) (fun x => x)).trans a1
            clear hf a1
            rw [← HL.out]
            have hcc := cntJ_le x l
            rw [← HM.out] at hcc
            obtain ⟨hcc1, hcc2⟩ := hcc
            have hc5 := HCS.out
            generalize cntJ x l = cx at *
            have hc6 : cv + cx ≤ m := by omega
            clear hc5
            by_cases hj : x = job
            · rw [if_pos hj] at HNS
              go_wp2
              go_roundw
              case rel => exact ⟨k + 1, by go_num, by omega, vi (by rw [HCS.out]), vi (by rw [HNS.out]), HV.out⟩
              case measure => simp [intOf]; omega
            · rw [if_neg hj] at HNS
              go_wp2
              go_roundw
              case rel => exact ⟨k + 1, by go_num, by omega, vi (by rw [HCS.out]), vi (by rw [HNS.out]; simp), HV.out⟩
              case measure => simp [intOf]; omega
    · have hkm : k = m := by omega
      have e1 : ((cover l k : Nat) : Int) = m := by rw [hkm, HM.out]; exact cover_all l
      have e2 : cntJ job (l.take k) = cntJ job l := by rw [hkm, HM.out, List.take_length]
      rw [e1, e2]
      clear hc1 hc2 hc3 hc0 e1 e2
      have HV := Lib.hid V
      clear V
      go_wp2_with fail
      refine (len_any b D s _ HV.out.own.tab).mono ?_
      rintro e _ ⟨rfl, rfl⟩
      rw [← HL.out, ← HM.out]
      go_wp2_with fail
      refine (len_any b D s _ HV.out.own.tab).mono ?_
      rintro e _ ⟨rfl, rfl⟩
      rw [← HL.out, ← HM.out]
      go_wp2_with fail
      refine (count_any b D s job _ HV.out.own.tab).mono ?_
      rintro e w3 ⟨rfl, hf⟩
      rw [← HL.out]
      replace HV := Lib.hid (HV.out.fr0 hf)
      clear hf
      generalize cntJ job l = cj at *
      go_wp2_with fail
      refine (works_any _).mono ?_
      rintro e w4 ⟨rfl, hf⟩
      replace HV := Lib.hid (HV.out.fr0 hf)
      clear hf
      go_wp2
      go_ret
      exact ⟨rfl, HV.out.own.fr⟩
end Go.Proofs.Ytopcjakgfaobcaa
