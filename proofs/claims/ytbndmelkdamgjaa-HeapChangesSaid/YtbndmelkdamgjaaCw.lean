/- HeapChanges: the walk. -/
import Derived.Test.YtbndmelkdamgjaaCd
namespace Go.Proofs.Ytbndmelkdamgjaa.So
open Go.RowKit Go.Wk

set_option maxRecDepth 100000 in
set_option maxHeartbeats 40000000 in
theorem heapChanges_walk (A : Option Addr) (n c : Nat) (xs : List Int) (B : Option Addr) (n' c' : Nat) (zs : List (List Int)) (w : World) (h : Reads w w.heap.size 1 A n (xs.map (Value.int .u8))) (hw : ∀ x ∈ xs, 0 ≤ x ∧ x ≤ 255) (hc : n ≤ c)
    (h' : RowF kTwo 2 w B n' c' zs) :
    Calls Try.prog 10 #[.slice A n c, .slice B n' c'] w fun e w' => e = .returned (.bool true) ∧ Fr No w w' := by
  obtain ⟨N, hN⟩ : ∃ N : Nat, N = min n 60 := ⟨_, rfl⟩
  have hNn : N ≤ n := by omega
  have hN60 : N ≤ 60 := by omega
  have hNc : (N : Int) ≤ (c : Int) := by omega
  have hmin := fun ts t W => run_min2 ts t n N 60 (by omega) W
  obtain ⟨M, hM⟩ : ∃ M : Nat, M = min n' 40 := ⟨_, rfl⟩
  have hMn : M ≤ n' := by omega
  have hMc : (M : Int) ≤ (c' : Int) := by have := h'.1; omega
  have hM40 : M ≤ 40 := by omega
  have hmin' := Lib.hid (fun ts t W => run_min2 ts t n' M 40 (by omega) W)
  have HW := Lib.hid (show ∀ x ∈ xs.take N, 0 ≤ x ∧ x ≤ 255 from fun x hx => hw x (List.mem_of_mem_take hx))
  have HR := Lib.hid (reads_cut h hNn)
  have HR2 := Lib.hid (h'.cut hMn)
  generalize xs.take N = ys at *
  generalize zs.take M = vs at *
  have HLY := Lib.hid HR.out.length_ints
  have HCL := Lib.hid (clone_any A N c ys w HR.out (by omega))
  clear h hw h' hN hM
  go_enter Try.func10, Try.ntmps10
  go_wp2_with fail
  refine HCL.out.mono ?_
  rintro e w1 ⟨AL, cL, rfl, hol, hf1⟩
  have OL := Lib.hid hol
  have F1 := Lib.hid hf1
  have HFL := Lib.hid (filled_any AL N cL ys w1 (Reads.of_own hol) HW.out (by omega))
  clear hol hf1 hmin HCL
  go_wp2_with fail
  refine HFL.out.mono ?_
  rintro e w2 ⟨b, rfl, h2⟩
  have OL2 := Lib.hid (own_fr OL.out h2.fr (fun _ _ z => z))
  have H2 := Lib.hid (OwnI_downK (K := BlkOf (.slice AL N cL)) h2 F1.out (fun k hk => (OL.out.lt k hk).2))
  have HSO := Lib.hid (sorted_any AL N cL ys w2 (Reads.of_own OL2.out) HW.out (by omega))
  have F2 := Lib.hid (F1.out.then0 h2.fr)
  clear h2 HFL OL F1
  go_wp2_with fail
  refine HSO.out.mono ?_
  rintro e w3 ⟨A3, c3, rfl, ho3, hf3⟩
  have S0 := Lib.hid (show ChM w w3 b AL cL N A3 c3 N ys (ids (stF ys N)) (stF ys N) N from ⟨H2.out.add hf3 (fun k hk => hk.elim .inl (fun hk => .inr ⟨(ho3.lt k hk).1, (ho3.lt k hk).2⟩)), own_fr OL2.out hf3 (fun _ _ z => z), own_base ho3 F2.out.size⟩)
  have P0 := Lib.hid (ChS.start HLY.out HW.out)
  clear ho3 hf3 HSO H2 OL2 F2
  rcases Nat.eq_zero_or_pos N with h0 | h0
  · subst h0
    have FZ := Lib.hid S0.out.h.fr
    clear S0 P0
    go_wp2_with fail
    refine (works_any _).mono ?_
    rintro e w5 ⟨rfl, hf⟩
    go_wp2
    go_ret
    exact ⟨rfl, FZ.out.then0 hf⟩
  obtain ⟨G, q, hv, hG⟩ := own_some S0.out.l h0
  injection hv with hA _ hq
  subst hA
  subst hq
  have hz : ((N : Int) == 0) = false := by simp; omega
  replace hmin' := hmin'.out
  clear hG
  go_wp2_with fail
  clear hmin' hz
  generalize stF ys N = S at *
  go_loopw [6, 41] (fun ov jv wr => ∃ (j : Nat) (AO : Option Addr) (cO : Nat) (ls : List Int) (s : List (En Int)), ov = .slice AO N cO ∧ jv = .int .i64 j ∧ j ≤ M ∧ Hid (ChM w wr b (some ⟨G, 0, none⟩) cL N AO cO N ls (ids s) s ((N + j : Nat) : Int) ∧ ChS ls N s ((N + j : Nat) : Int))) (fun _ jv _ => M - (intOf jv).toNat)
  case atStart => exact ⟨0, A3, c3, ys, S, rfl, rfl, Nat.zero_le _, Lib.hid ⟨S0.out, P0.out⟩⟩
  case round =>
    clear S0 P0
    obtain ⟨j, AO, cO, ls, s, rfl, rfl, hj, HS⟩ := hrel
    by_cases hlt : j < M
    · obtain ⟨GO, q, hv, hG⟩ := own_some HS.out.1.o h0
      injection hv with hA _ hq
      subst hA
      subst hq
      obtain ⟨bq, off, a, v, rfl, hbq, ha, hv2, h1, h2⟩ := two_at HR2.out hlt
      have c0 := (HS.out.1.h.fr.cell (p := ⟨bq, off + j * 2, none⟩) hbq (fun z => z)).trans h1
      have c1 := (HS.out.1.h.fr.cell (p := ⟨bq, off + j * 2 + 1, none⟩) hbq (fun z => z)).trans h2
      have hlt2 : (j : Int) < (M : Int) := by omega
      obtain ⟨i, hi⟩ : ∃ i : Nat, a.tmod (N : Int) = (i : Int) := ⟨(a.tmod (N : Int)).toNat, by have := Int.tmod_nonneg (N : Int) ha.1; omega⟩
      have hiN : i < N := by
        have := Int.tmod_lt_of_pos a (show (0 : Int) < (N : Int) by omega)
        omega
      have hiN2 : (i : Int) < (N : Int) := by omega
      have hNz : (N : Int) ≠ 0 := by omega
      have hNz2 : ((N : Int) == 0) = false := by simp; omega
      have ha0 := ha.1
      have ha1 := ha.2
      have hv0 := hv2.1
      have hv1 := hv2.2
      have hi60 : i ≤ 60 := by omega
      obtain ⟨wa, hwa⟩ : ∃ wa, wa = wr.alloc (.cells #[.int .u8 a, .int .u8 v] 74) := ⟨_, rfl⟩
      have FA := Lib.hid (show Fr No wr wa by rw [hwa]; exact (Fr.refl No wr).alloc _)
      have BX := Lib.hid (show Blk wa wr.heap.size 74 #[.int .u8 a, .int .u8 v] by rw [hwa]; exact Blk.new _ _ _)
      have HWA := Lib.hid hwa
      obtain ⟨q0, q1⟩ := (show wa.cell? ⟨wr.heap.size, 0, none⟩ = some (.int .u8 a) ∧ wa.cell? ⟨wr.heap.size, 1, none⟩ = some (.int .u8 v) from ⟨BX.out.cell 0, BX.out.cell 1⟩)
      clear h1 h2 hwa ha hv2 hG
      go_wp2_with fail
      rw [← HWA.out]
      clear c0 c1
      generalize wr.heap.size = bx at *
      go_quiet (fail)
      have FQ := Lib.hid (FA.out.drewN nq)
      have HQ := Lib.hid (HS.out.1.fr0 FQ.out)
      have HSS := Lib.hid HS.out.2
      clear q0 q1 BX HS FA HWA
      generalize wa.drewN nq = wq at *
      have x1 := HQ.out.l.frozenAt i
      obtain ⟨u2, c3⟩ : ∃ u, wq.cell? ⟨G, i, none⟩ = some u := ⟨.int .u8 (ls.getD i 0), (HQ.out.l.cellAt i (by omega)).trans (by simp [cells, show i < ls.length by rw [HSS.out.lsn]; exact hiN])⟩
      obtain ⟨wb, hwb⟩ : ∃ wb, wb = (wq.setCell ⟨G, i, none⟩ (.int .u8 v)).alloc (.cells #[.int .i64 (100 - (i : Int))] 3) := ⟨_, rfl⟩
      have HWB := Lib.hid hwb
      have B1 := Lib.hid (show Blk wb wq.heap.size 3 #[.int .i64 (100 - (i : Int))] by
        rw [hwb]
        have := Blk.new (wq.setCell ⟨G, i, none⟩ (.int .u8 v)) 3 #[.int .i64 (100 - (i : Int))]
        rwa [World.size_setCell] at this)
      have HB := Lib.hid (show ChM w wb b (some ⟨G, 0, none⟩) cL N (some ⟨GO, 0, none⟩) cO N (ls.set i v) (ids s) s ((N + j : Nat) : Int) by rw [hwb]; exact (HQ.out.store i v).fr0 ((Fr.refl No _).alloc _))
      have hbo : wq.heap.size ≠ GO := by have := (HQ.out.o.lt GO rfl).2; omega
      obtain ⟨m, hm⟩ : ∃ m, m + 1 = N := ⟨N - 1, by omega⟩
      have HM := Lib.hid hm
      have HDL := Lib.hid (ch_del HB.out wq.heap.size B1.out hbo HSS.out.nd (HSS.out.all i hiN) hm hN60 HSS.out.ln)
      have HBO := Lib.hid (show ¬ GO = wq.heap.size from fun z => hbo z.symm)
      have HST := Lib.hid (HSS.out.step hiN ⟨hv0, hv1⟩)
      have HG1 := Lib.hid (show ((N + j : Nat) : Int) + 1 = ((N + (j + 1) : Nat) : Int) by omega)
      have HLD := Lib.hid (show (del (100 - (i : Int)) s).length = m by rw [del_len HSS.out.nd (HSS.out.all i hiN), HSS.out.ln]; omega)
      have HFI := Lib.hid (HQ.out.h.fits weak_lt (List.mem_map.1 (HSS.out.all i hiN)).choose_spec.1)
      rw [(List.mem_map.1 (HSS.out.all i hiN)).choose_spec.2] at HFI
      have HMI := Lib.hid (HSS.out.all i hiN)
      have HGB := Lib.hid (show ((N + j : Nat) : Int) < 1000000000 by omega)
      have HPD := Lib.hid (show ∀ e ∈ del (100 - (i : Int)) s, e.p < ((N + j : Nat) : Int) from fun e he => (HSS.out.ent e ((mem_del _ _ _).1 he).1).2.2.2)
      have HRD := Lib.hid (fun k (hk : k < (del (100 - (i : Int)) s).length) => HSS.out.reads (v := v) hk)
      have HLI := Lib.hid (show (ids (ins ltI ⟨100 - (i : Int), v, ((N + j : Nat) : Int)⟩ (del (100 - (i : Int)) s))).length = N by simp only [ids, List.length_map, ins_len, HLD.out]; exact hm)
      have HLS := Lib.hid (show (ls.set i v).length = N by rw [List.length_set, HSS.out.lsn])
      have hmN : (m : Int) < (N : Int) := by omega
      clear hwb hbo hm HSS HQ FQ
      go_wp2_with fail
      rw [← HWB.out]
      refine HDL.out.mono ?_
      rintro e w4 ⟨rfl, h4, hf4⟩
      have H4 := Lib.hid h4
      have HBX4 := Lib.hid (B1.out.fr hf4 (fun z => HBO.out z.symm))
      have cbx4 := HBX4.out.cell 0
      have HW4 := Lib.hid (show ∀ k, (Value.slice (some ⟨GO, 0, none⟩) m cO).ownBlock = some k → k ≠ w4.heap.size from fun k hk => by have := (h4.o.lt k hk).2; omega)
      obtain ⟨w4', hw4⟩ : ∃ x, x = w4.alloc (.cells #[.int .i64 (100 - (i : Int))] 3) := ⟨_, rfl⟩
      have HBX := Lib.hid (show Blk w4' wq.heap.size 3 #[.int .i64 (100 - (i : Int))] by rw [hw4]; exact HBX4.out.alloc _)
      have HIN := Lib.hid (fun k (hk : k ≤ m) => ch_ins (h4.fr0 ((Fr.refl No w4).alloc (.cells #[.int .i64 (100 - (i : Int))] 3))) w4.heap.size (Blk.new w4 3 _) HW4.out k hk HM.out hN60)
      rw [← hw4] at HIN
      have HWX := Lib.hid hw4
      generalize hdd : del (100 - (i : Int)) s = d at *
      have HDD := Lib.hid hdd
      clear hdd
      generalize ls.set i v = l2 at *
      generalize wq.heap.size = ib at *
      clear h4 hf4 HDL HWB HB B1 c3 x1 hw4 HW4
      go_wp2_with fail
      go_loopw [12] (fun kv wr => ∃ k : Nat, kv = .int .i64 k ∧ k ≤ m ∧ w4 = wr ∧ Hid (Low d v k)) (fun kv _ => m - (intOf kv).toNat)
      case atStart => exact ⟨0, rfl, Nat.zero_le _, rfl, Lib.hid (fun q hq => by omega)⟩
      case round =>
        obtain ⟨k, rfl, hkm, rfl, HLW0⟩ := hrel
        by_cases hk : k < m
        · obtain ⟨iy, hiy, e100, eid, hval, hy0, hy1⟩ := HRD.out k (by rw [HLD.out]; exact hk)
          have co : w4.cell? ⟨GO, k, none⟩ = some (.int .i64 (d.getD k default).id) := (H4.out.o.cellAt k (by omega)).trans (by simp [cells, ids, show k < d.length by rw [HLD.out]; exact hk])
          have cl : w4.cell? ⟨G, iy, none⟩ = some (.int .u8 (d.getD k default).v) := (H4.out.l.cellAt iy (by omega)).trans (by rw [← hval]; simp [cells, show iy < l2.length by rw [HLS.out]; exact hiy])
          have HYD := Lib.hid (show ∃ y, d.getD k default = y from ⟨_, rfl⟩)
          have hkm2 : (k : Int) < (m : Int) := by omega
          have hiy2 : (iy : Int) < (N : Int) := by omega
          have hiy60 : iy ≤ 60 := by omega
          rw [eid] at co
          have e101 : 100 - (100 - (iy : Int)) = (iy : Int) := by omega
          clear e100 eid hval HYD
          by_cases hle : (d.getD k default).v ≤ v
          · have HLN := Lib.hid (show Low d v (k + 1) from fun q hq => by
              by_cases e5 : q = k
              · rw [e5]; exact hle
              · exact HLW0.out q (by omega))
            generalize (d.getD k default).v = yv at *
            go_wp2
            go_roundw
            case rel => exact ⟨k + 1, by go_num, hk, by first | rfl | trivial, HLN⟩
            case measure => simp [intOf]; omega
          · have HLX := Lib.hid (show k = d.length ∨ v < (d.getD k default).v from .inr (by omega))
            have HLW := Lib.hid (low_ins (x := 100 - (i : Int)) HPD.out (by rw [HLD.out]; omega) HLW0.out HLX.out)
            clear HLX
            generalize (d.getD k default).v = yv at *
            have hkk : k ≤ m := hkm
            go_wp2_with fail
            rw [← HWX.out]
            refine (HIN.out k hkk).mono ?_
            rintro e w5 ⟨A5, c5, rfl, h5, hf5⟩
            have hbx5 := Lib.hid ((HBX.out.fr hf5 (fun z => HBO.out (by simpa [BlkOf, Value.ownBlock] using z))).cell 0)
            have cbx := hbx5.out
            rw [← HLW.out] at h5
            have H5 := Lib.hid h5
            have HCH := Lib.hid (ch_chg h5 (100 - (i : Int)) v HFI.out HMI.out HGB.out)
            rw [HDD.out] at HCH
            clear h5 hf5
            go_wp2_with fail
            refine HCH.out.mono ?_
            rintro e w6 ⟨rfl, h6⟩
            have H6 := Lib.hid h6
            have C33 := Lib.hid (oIds bef_lt h6.h)
            clear h6 HCH H5 cbx hbx5
            go_wp2_with fail
            refine C33.out.mono ?_
            rintro e w7 ⟨A7, n7, c7, rfl, hn7, ho7, hf7⟩
            obtain rfl : N = n7 := (hn7.trans HLI.out).symm
            have H7 := Lib.hid (H6.out.fr0 hf7)
            have EQ := Lib.hid (equal_ids ho7 (Fr.refl No w7) A5 c5 w7.heap.size (by omega) (Reads.of_own H7.out.o))
            clear hn7 ho7 hf7 C33 H6
            go_wp2_with fail
            refine EQ.out.mono ?_
            rintro e w8 ⟨rfl, hf8⟩
            have H8 := Lib.hid (H7.out.fr0 hf8)
            clear hf8 EQ H7
            have HNX := Lib.hid (And.intro H8.out HST.out)
            rw [HG1.out] at HNX
            go_wp2
            go_roundw
            case rel => exact ⟨j + 1, A5, c5, _, _, rfl, by go_num, hlt, HNX⟩
            case measure => simp [intOf]; omega
        · have hkm2 : ¬ (k : Int) < (m : Int) := by omega
          have HLX := Lib.hid (show k = d.length ∨ v < (d.getD k default).v from .inl (by rw [HLD.out]; omega))
          have HLW := Lib.hid (low_ins (x := 100 - (i : Int)) HPD.out (by rw [HLD.out]; omega) HLW0.out HLX.out)
          clear HLX
          have hkk : k ≤ m := hkm
          go_wp2_with fail
          rw [← HWX.out]
          refine (HIN.out k hkk).mono ?_
          rintro e w5 ⟨A5, c5, rfl, h5, hf5⟩
          have hbx5 := Lib.hid ((HBX.out.fr hf5 (fun z => HBO.out (by simpa [BlkOf, Value.ownBlock] using z))).cell 0)
          have cbx := hbx5.out
          rw [← HLW.out] at h5
          have H5 := Lib.hid h5
          have HCH := Lib.hid (ch_chg h5 (100 - (i : Int)) v HFI.out HMI.out HGB.out)
          rw [HDD.out] at HCH
          clear h5 hf5
          go_wp2_with fail
          refine HCH.out.mono ?_
          rintro e w6 ⟨rfl, h6⟩
          have H6 := Lib.hid h6
          have C33 := Lib.hid (oIds bef_lt h6.h)
          clear h6 HCH H5 cbx hbx5
          go_wp2_with fail
          refine C33.out.mono ?_
          rintro e w7 ⟨A7, n7, c7, rfl, hn7, ho7, hf7⟩
          obtain rfl : N = n7 := (hn7.trans HLI.out).symm
          have H7 := Lib.hid (H6.out.fr0 hf7)
          have EQ := Lib.hid (equal_ids ho7 (Fr.refl No w7) A5 c5 w7.heap.size (by omega) (Reads.of_own H7.out.o))
          clear hn7 ho7 hf7 C33 H6
          go_wp2_with fail
          refine EQ.out.mono ?_
          rintro e w8 ⟨rfl, hf8⟩
          have H8 := Lib.hid (H7.out.fr0 hf8)
          clear hf8 EQ H7
          have HNX := Lib.hid (And.intro H8.out HST.out)
          rw [HG1.out] at HNX
          go_wp2
          go_roundw
          case rel => exact ⟨j + 1, A5, c5, _, _, rfl, by go_num, hlt, HNX⟩
          case measure => simp [intOf]; omega
    · obtain rfl : j = M := by omega
      have FZ := Lib.hid HS.out.1.h.fr
      clear HS
      go_wp2_with fail
      refine (works_any _).mono ?_
      rintro e w5 ⟨rfl, hf⟩
      go_wp2
      go_ret
      exact ⟨rfl, FZ.out.then0 hf⟩
end Go.Proofs.Ytbndmelkdamgjaa.So
