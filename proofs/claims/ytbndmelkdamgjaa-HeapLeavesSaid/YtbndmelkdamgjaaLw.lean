/- HeapLeaves: the walk. -/
import Derived.Test.YtbndmelkdamgjaaLe
import Derived.Deep.RegionLaw
namespace Go.Proofs.Ytbndmelkdamgjaa.So
open Go.RowKit Go.Wk

/-- The heap and the slice of what is left. -/
structure LvI (w wr : World) (b : Nat) (A : Option Addr) (c N : Nat) (S s : List (En Int)) (p : Nat) : Prop where
  h : OwnI 39 ltI w wr b (BlkOf (.slice A N c)) s N
  own : wr.ownsRow w.heap.size 3 1 (.slice A p c) p (cells .i64 (ids s))
  sub : ∀ e ∈ s, e ∈ S
  ln : s.length = p
theorem u8_at {xs : List Int} (hw : ∀ x ∈ xs, 0 ≤ x ∧ x ≤ 255) {k : Nat} (hk : k < xs.length) : 0 ≤ xs.getD k 0 ∧ xs.getD k 0 ≤ 255 := by
  have : xs.getD k 0 = xs[k] := by simp [hk]
  rw [this]
  exact hw _ (List.getElem_mem _)
set_option maxRecDepth 100000 in
set_option maxHeartbeats 40000000 in
theorem heapLeaves_walk (A : Option Addr) (n c : Nat) (xs : List Int) (B : Option Addr) (n' c' : Nat) (zs : List Int) (w : World) (h : Reads w w.heap.size 1 A n (xs.map (Value.int .u8))) (hw : ∀ x ∈ xs, 0 ≤ x ∧ x ≤ 255) (hc : n ≤ c) (hn : n ≤ 9223372036854775807)
    (h' : Reads w w.heap.size 1 B n' (zs.map (Value.int .u8))) (hw' : ∀ x ∈ zs, 0 ≤ x ∧ x ≤ 255) (hc' : n' ≤ c') (hn' : n' ≤ 9223372036854775807) :
    Calls Try.prog 9 #[.slice A n c, .slice B n' c'] w fun e w' => e = .returned (.bool true) ∧ Fr No w w' := by
  obtain ⟨N, hN⟩ : ∃ N : Nat, N = min n 60 := ⟨_, rfl⟩
  have hNn : N ≤ n := by omega
  have hN60 : N ≤ 60 := by omega
  have hNc : (N : Int) ≤ (c : Int) := by omega
  have hmin := fun ts t W => run_min2 ts t n N 60 (by omega) W
  obtain ⟨M, hM⟩ : ∃ M : Nat, M = min n' 60 := ⟨_, rfl⟩
  have hMn : M ≤ n' := by omega
  have hMc : (M : Int) ≤ (c' : Int) := by omega
  have hM60 : M ≤ 60 := by omega
  have hmin' := Lib.hid (fun ts t W => run_min2 ts t n' M 60 (by omega) W)
  have HW := Lib.hid (show ∀ x ∈ xs.take N, 0 ≤ x ∧ x ≤ 255 from fun x hx => hw x (List.mem_of_mem_take hx))
  have HR := Lib.hid (reads_cut h hNn)
  have HW2 := Lib.hid (show ∀ x ∈ zs.take M, 0 ≤ x ∧ x ≤ 255 from fun x hx => hw' x (List.mem_of_mem_take hx))
  have HR2 := Lib.hid (reads_cut h' hMn)
  generalize xs.take N = ys at *
  generalize zs.take M = vs at *
  have HFL := Lib.hid (filled_any A N c ys w HR.out HW.out (by omega))
  have HLN := Lib.hid (okF ys N).ln
  have HEN := Lib.hid (okF ys N).ent
  have HSS := Lib.hid (okF ys N).so
  obtain ⟨S, hS⟩ : ∃ S, S = stF ys N := ⟨_, rfl⟩
  have HSE := Lib.hid hS
  rw [← hS] at HLN HEN HSS
  have HLY := Lib.hid HR.out.length_ints
  have HLV := Lib.hid HR2.out.length_ints
  clear h hw h' hw' hN hM hS
  go_enter Try.func9, Try.ntmps9
  go_wp2_with fail
  refine HFL.out.mono ?_
  rintro e w1 ⟨b, rfl, h1⟩
  have H1 := Lib.hid h1
  have F1 := Lib.hid h1.fr
  have HSO := Lib.hid (sorted_any A N c ys w1 (HR.out.fr0 h1.fr) HW.out (by omega))
  clear h1 hmin
  go_wp2_with fail
  refine HSO.out.mono ?_
  rintro e w2 ⟨A2, c2, rfl, ho2, hf2⟩
  rw [← HSE.out] at ho2
  have S0 := Lib.hid (show LvI w w2 b A2 c2 N S S N from ⟨by rw [HSE.out]; exact H1.out.add hf2 (fun k hk => .inr ⟨(ho2.lt k hk).1, (ho2.lt k hk).2⟩), own_base ho2 F1.out.size, fun _ he => he, HLN.out⟩)
  clear ho2 hf2 H1 HSO HFL F1
  replace hmin' := hmin'.out
  go_wp2_with fail
  clear hmin'
  go_loopw [6, 31] (fun lv jv wr => ∃ (j p : Nat) (s : List (En Int)), lv = .slice A2 p c2 ∧ jv = .int .i64 j ∧ j ≤ M ∧ p ≤ 60 ∧ Hid (LvI w wr b A2 c2 N S s p)) (fun _ jv _ => M - (intOf jv).toNat)
  case atStart => exact ⟨0, N, S, rfl, rfl, Nat.zero_le _, hN60, S0⟩
  case round =>
    clear S0
    obtain ⟨j, p, s, rfl, rfl, hj, hp60, HS⟩ := hrel
    by_cases hlt : j < M
    · obtain ⟨bq, off, rfl, hbq, hc0⟩ := HR2.out.int_at hlt
      have c0 := (HS.out.h.fr.cell (p := ⟨bq, off + j, none⟩) hbq (fun z => z)).trans hc0
      have hx := u8_at HW2.out (show j < vs.length by rw [HLV.out]; exact hlt)
      generalize vs.getD j 0 = x at *
      have hx0 := hx.1
      have hx1 := hx.2
      have hlt2 : (j : Int) < (M : Int) := by omega
      clear hx hc0
      rcases Nat.eq_zero_or_pos p with rfl | hp0
      · have FZ := Lib.hid HS.out.h.fr
        clear HS
        go_wp2_with fail
        refine (works_any _).mono ?_
        rintro e w5 ⟨rfl, hf⟩
        go_wp2
        go_ret
        exact ⟨rfl, FZ.out.then0 hf⟩
      · obtain ⟨k, hk⟩ : ∃ k : Nat, x.tmod (p : Int) = (k : Int) := ⟨(x.tmod (p : Int)).toNat, by have := Int.tmod_nonneg (p : Int) hx0; omega⟩
        have hkp : k < p := by
          have := Int.tmod_lt_of_pos x (show (0 : Int) < (p : Int) by omega)
          omega
        obtain ⟨G, q, hv, hG⟩ := own_some HS.out.own hp0
        injection hv with hA _ hq
        subst hA
        subst hq
        have hil : (ids s).length = p := by simp [ids, HS.out.ln]
        have cc : wr.cell? ⟨G, k, none⟩ = some (.int .i64 ((ids s).getD k 0)) := (HS.out.own.cellAt k (by omega)).trans (by simp [cells, show k < (ids s).length by omega])
        have hnd := HS.out.h.nodup weak_lt
        have hdi := del_idx s k hnd (by rw [HS.out.ln]; exact hkp)
        have hm : (ids s).getD k 0 ∈ ids s := by
          have : (ids s).getD k 0 = (ids s)[k] := by simp [show k < (ids s).length by omega]
          rw [this]; exact List.getElem_mem _
        obtain ⟨e0, he0, hid0⟩ := List.mem_map.1 hm
        have HFT := Lib.hid (show Go.Wk.fits ((ids s).getD k 0) by rw [← hid0]; exact HS.out.h.fits weak_lt he0)
        have HDL := Lib.hid (del_one (some ⟨G, 0, none⟩) p c2 k w.heap.size (ids s) wr HS.out.own hkp (by omega))
        rw [hdi] at HDL
        have HME := Lib.hid hm
        have HLE := Lib.hid (show (del ((ids s).getD k 0) s).length = p - 1 by rw [del_len hnd hm, HS.out.ln])
        generalize (ids s).getD k 0 = x0 at *
        have HNI := Lib.hid (ids_del_not x0 s)
        have hkp2 : (k : Int) < (p : Int) := by omega
        have hpn : ((p : Int) == 0) = false := by simp; omega
        have hpz : (p : Int) ≠ 0 := by omega
        clear hdi hm hid0 he0 hnd hil
        go_wp2_with fail
        refine HDL.out.mono ?_
        rintro e w3 ⟨rfl, ho3, hf3⟩
        have H3 := Lib.hid (HS.out.h.turnK (K' := BlkOf (.slice (some ⟨G, 0, none⟩) N c2)) hf3 (fun q hq => HS.out.own.lt q hq |>.1) (fun q hq => .inl hq))
        have O3 := Lib.hid ho3
        have P3 := Lib.hid (oRemove bef_lt H3.out x0 HFT.out HME.out)
        clear ho3 hf3 cc c0 HDL
        go_wp2_with fail
        refine P3.out.mono ?_
        rintro e w4 ⟨rfl, h4, hf4⟩
        have H4 := Lib.hid h4
        have O4 := Lib.hid (own_keep O3.out hf4 (fun q hq => hq))
        have C35 := Lib.hid (oRemoveNo h4 x0 HFT.out HNI.out)
        have C34 := Lib.hid (oChangeNo h4 x0 1 HFT.out HNI.out)
        have C48 := Lib.hid (oHas h4 x0 HFT.out)
        have hd : decide (x0 ∈ ids (del x0 s)) = false := by simpa using HNI.out
        rw [hd] at C48
        have C33 := Lib.hid (oIds bef_lt h4)
        clear h4 hf4 hd H3 O3 P3
        go_wp2_with fail
        refine C35.out.mono ?_
        rintro e w5 ⟨rfl, rfl⟩
        go_wp2_with fail
        refine C34.out.mono ?_
        rintro e w5 ⟨rfl, rfl⟩
        go_wp2_with fail
        refine C48.out.mono ?_
        rintro e w5 ⟨rfl, rfl⟩
        go_wp2_with fail
        refine C33.out.mono ?_
        rintro e w5 ⟨A5, n5, c5, rfl, hn5, ho5, hf5⟩
        obtain rfl : n5 = p - 1 := hn5.trans (by simp [ids, HLE.out])
        have O5 := Lib.hid (own_fr O4.out hf5 (fun _ _ z => z))
        have H5 := Lib.hid (H4.out.fr0 hf5)
        have EQ := Lib.hid (equal_ids ho5 (Fr.refl No w5) (some ⟨G, 0, none⟩) c2 w5.heap.size (by omega) (Reads.of_own O5.out))
        clear hn5 ho5 hf5 O4 H4 C33 C34 C35 C48
        go_wp2_with fail
        refine EQ.out.mono ?_
        rintro e w6 ⟨rfl, hf6⟩
        have HN := Lib.hid (show LvI w w6 b (some ⟨G, 0, none⟩) c2 N S (del x0 s) (p - 1) from ⟨H5.out.fr0 hf6, own_fr O5.out hf6 (fun _ _ z => z), fun e he => HS.out.sub e ((mem_del x0 s e).1 he).1, HLE.out⟩)
        clear hf6 EQ O5 H5
        go_wp2
        go_roundw
        case rel => exact ⟨j + 1, p - 1, _, rfl, by go_num, hlt, by omega, HN⟩
        case measure => simp [intOf]; omega
    · obtain rfl : j = M := by omega
      rcases Nat.eq_zero_or_pos p with rfl | hp0
      · have FZ := Lib.hid HS.out.h.fr
        clear HS
        go_wp2_with fail
        refine (works_any _).mono ?_
        rintro e w5 ⟨rfl, hf⟩
        go_wp2
        go_ret
        exact ⟨rfl, FZ.out.then0 hf⟩
      · obtain ⟨G, q, hv, hG⟩ := own_some HS.out.own hp0
        injection hv with hA _ hq
        subst hA
        subst hq
        have HLNS := Lib.hid HS.out.ln
        obtain ⟨D0, hih, _⟩ := HS.out.h
        have HSO2 := Lib.hid hih.sorted
        have HNDS := Lib.hid (HS.out.h.nodup weak_lt)
        have HPG := Lib.hid (show ∀ e ∈ s, e.p < (N : Int) from fun e he => (HEN.out e (HS.out.sub e he)).2.2.2)
        have HVE := Lib.hid (fun e (he : e ∈ s) => HEN.out e (HS.out.sub e he))
        have HFT := Lib.hid (fun e (he : e ∈ s) => HS.out.h.fits weak_lt he)
        have HS0 := Lib.hid HS.out.own
        have HOW := Lib.hid HS.out.h
        clear HS hih
        have hcq : ∀ (X : World), X.ownsRow w.heap.size 3 1 (.slice (some ⟨G, 0, none⟩) p c2) p (cells .i64 (ids s)) → ∀ q, q < p → X.cell? ⟨G, q, none⟩ = some (.int .i64 (s.getD q default).id) := fun X hX q hq => (hX.cellAt q (by omega)).trans (by simp [cells, ids, show q < s.length by rw [HLNS.out]; exact hq])
        have HCQ := Lib.hid hcq
        clear hcq
        rcases s with _ | ⟨a, t⟩
        · have := HLNS.out
          simp at this
          omega
        have hae := HVE.out a (List.mem_cons_self ..)
        obtain ⟨i, hi⟩ : ∃ i : Nat, a.p = (i : Int) := ⟨a.p.toNat, by omega⟩
        have hiN : i < N := by omega
        obtain ⟨bq, off, rfl, hbq, hc0⟩ := HR.out.int_at hiN
        have hav : ys.getD i 0 = a.v := by
          have := hae.1
          rw [hi, Int.toNat_natCast] at this
          exact this.symm
        have hx := u8_at HW.out (show i < ys.length by rw [HLY.out]; exact hiN)
        rw [hav] at hc0 hx
        have c0 := (HOW.out.fr.cell (p := ⟨bq, off + i, none⟩) hbq (fun z => z)).trans hc0
        have cq : wr.cell? ⟨G, 0, none⟩ = some (.int .i64 a.id) := HCQ.out wr HS0.out 0 hp0
        have e100 : 100 - a.id = (i : Int) := by rw [hae.2.1, hi]; omega
        have hid1 : a.id ≤ 100 := by omega
        have hid2 : 0 ≤ a.id := by omega
        have hiN2 : (i : Int) < (N : Int) := by omega
        have hx0 := hx.1
        have hx1 := hx.2
        have hp2 : (0 : Int) < (p : Int) := by omega
        have hpn : ((p : Int) == 0) = false := by simp; omega
        have P3 := Lib.hid (fun (X : World) (hX : Fr No wr X) => oRemove bef_lt (HOW.out.fr0 hX) a.id (HFT.out a (List.mem_cons_self ..)) (by simp [ids]))
        rw [del_head HNDS.out] at P3
        have HNT := Lib.hid (List.nodup_cons.1 (show (a.id :: ids t).Nodup from HNDS.out)).1
        have HFA := Lib.hid (HFT.out a (List.mem_cons_self ..))
        have HLT := Lib.hid (show ∀ q, q < p → q < (a :: t).length from fun q hq => by rw [HLNS.out]; exact hq)
        clear hae hav hx hc0
        go_wp2
        go_quiet (fail)
        have FQ := Lib.hid ((Fr.refl No wr).drewN nq)
        have P4 := Lib.hid (P3.out _ FQ.out)
        have O3 := Lib.hid (own_fr HS0.out FQ.out (fun _ _ z => z))
        clear c0 cq P3
        generalize wr.drewN nq = wq at *
        go_wp2_with fail
        refine P4.out.mono ?_
        rintro e w4 ⟨rfl, h4, hf4⟩
        have O4 := Lib.hid (own_keep O3.out hf4 (fun q hq => hq))
        have P5 := Lib.hid (oPush bef_lt h4 a.id a.v HFA.out HNT.out (by omega))
        clear h4 hf4 O3 P4
        go_wp2_with fail
        refine P5.out.mono ?_
        rintro e w5 ⟨rfl, h5, hf5⟩
        have H5 := Lib.hid h5
        have O5 := Lib.hid (own_keep O4.out hf5 (fun q hq => hq))
        clear h5 hf5 O4 P5
        go_wp2_with fail
        go_loopw [13] (fun ev wr => ∃ e : Nat, ev = .int .i64 e ∧ 1 ≤ e ∧ e ≤ p ∧ w5 = wr ∧ Hid (Run (a :: t) a.v e)) (fun ev _ => p - (intOf ev).toNat)
        case atStart => exact ⟨1, rfl, Nat.le_refl _, by omega, rfl, Lib.hid (fun q h1 h2 => by omega)⟩
        case round =>
          obtain ⟨e, rfl, h1e, hep, rfl, HRU⟩ := hrel
          by_cases hee : e < p
          · have hm : (a :: t).getD e default ∈ a :: t := at_mem (HLT.out e hee)
            have hxe := HVE.out _ hm
            have cq := HCQ.out w5 O5.out e hee
            generalize hxx : (a :: t).getD e default = y at *
            obtain ⟨iy, hiy⟩ : ∃ iy : Nat, y.p = (iy : Int) := ⟨y.p.toNat, by omega⟩
            have hiyN : iy < N := by omega
            obtain ⟨bq2, off2, e3, _, hc1⟩ := HR.out.int_at hiyN
            obtain ⟨rfl, rfl⟩ : bq2 = bq ∧ off2 = off := by injection e3 with e3; injection e3 with e3 e4; exact ⟨e3.symm, e4.symm⟩
            have hyv : ys.getD iy 0 = y.v := by
              have := hxe.1
              rw [hiy, Int.toNat_natCast] at this
              exact this.symm
            have hx := u8_at HW.out (show iy < ys.length by rw [HLY.out]; exact hiyN)
            rw [hyv] at hc1 hx
            have c1 := (H5.out.fr.cell (p := ⟨bq2, off2 + iy, none⟩) hbq (fun z => z)).trans hc1
            have e101 : 100 - y.id = (iy : Int) := by rw [hxe.2.1, hiy]; omega
            have hy1 : y.id ≤ 100 := by omega
            have hy2 : 0 ≤ y.id := by omega
            have hy3 := hx.1
            have hy4 := hx.2
            have hiy2 : (iy : Int) < (N : Int) := by omega
            have hee2 : (e : Int) < (p : Int) := by omega
            have HYX := Lib.hid hxx
            clear hxe hc1 hx e3 hyv hm hxx
            by_cases hyy : y.v = a.v
            · have hyb : (y.v == a.v) = true := by simpa using hyy
              have HRN := Lib.hid (show Run (a :: t) a.v (e + 1) from fun q h1 h2 => by
                by_cases e5 : q = e
                · rw [e5, HYX.out]; exact hyy
                · exact HRU.out q h1 (by omega))
              clear hyy
              go_wp2
              go_roundw
              case rel => exact ⟨e + 1, by go_num, by omega, hee, by first | rfl | trivial, HRN⟩
              case measure => simp [intOf]; omega
            · have hyb : (y.v == a.v) = false := by simpa using hyy
              have HXX := Lib.hid (show e = (a :: t).length ∨ ((a :: t).getD e default).v ≠ a.v from .inr (by rw [HYX.out]; exact hyy))
              clear hyy
              go_wp2_with fail
              clear cq c1 e101 hyb
              have HRI := Lib.hid (run_ins HSO2.out (fun x hx => HPG.out x (List.mem_cons_of_mem _ hx)) h1e (by rw [HLNS.out]; exact hep) HRU.out HXX.out)
              have hcap := own_cap O5.out
              obtain ⟨Am, hmid, hrm⟩ := mid_runI (some ⟨G, 0, none⟩) p c2 1 e h1e hep hcap (by omega)
              obtain ⟨Ad, hdrop, hrd⟩ := drop_runI (some ⟨G, 0, none⟩) p c2 e hep hcap (by omega)
              have htake := take_runI (some ⟨G, 0, none⟩) p c2 1 (by omega) hcap
              have RO := Lib.hid (Reads.of_own O5.out)
              have RM := Lib.hid (hrm w5 w5.heap.size _ RO.out)
              have RD := Lib.hid (hrd w5 w5.heap.size _ RO.out)
              have RT := Lib.hid (reads_cut RO.out (show 1 ≤ p by omega))
              rw [show ((1 : Nat) : Int) = 1 by rfl] at hmid htake
              have hlen3 : e - 1 + 1 + (p - e) = p := by omega
              have HLL := Lib.hid (show (ids (ins ltI ⟨a.id, a.v, (N : Int)⟩ t)).length = p by
                have h1 := HLNS.out
                rw [List.length_cons] at h1
                simp [ids, ins_len]; omega)
              have HI33 := Lib.hid (fun (X : World) (hX : Fr No w5 X) => oIds bef_lt (H5.out.fr0 hX))
              have H52 := Lib.hid (fun (X : World) gb (hX : Fr No w5 X) (hb : Blk X gb 39 #[.slice Am (e - 1) (c2 - 1), .slice (some ⟨G, 0, none⟩) 1 c2, .slice Ad (p - e) (c2 - e)]) => concat_any gb Am (some ⟨G, 0, none⟩) Ad (e - 1) (c2 - 1) 1 c2 (p - e) (c2 - e) _ _ _ X hb (RM.out.fr0 hX) (RT.out.fr0 hX) (RD.out.fr0 hX) (by omega) (by omega) (by omega))
              rw [← HRI.out, hlen3] at H52
              have FW := Lib.hid H5.out.fr
              clear hrm hrd HS0 hcap
              generalize ids (ins ltI ⟨a.id, a.v, (N : Int)⟩ t) = L2 at *
              have hp60' : p ≤ 9223372036854775807 := by omega
              have FD := Lib.hid (Fr.refl No w5).drew
              have FB := Lib.hid ((Fr.refl No w5).alloc (.cells #[.slice Am (e - 1) (c2 - 1), .slice (some ⟨G, 0, none⟩) 1 c2, .slice Ad (p - e) (c2 - e)] 39)).drew
              go_region_law (first
                | (go_simp; go_at_call 33; first
                    | ((with_reducible refine (HI33.out _ FB.out).mono ?_); rintro ex W1 ⟨A1, n1, c1, rfl, hn1, ho1, hf1⟩; obtain rfl : p = n1 := (hn1.trans HLL.out).symm; have O1 := Lib.hid ho1; have FX := Lib.hid (FB.out.then0 hf1); have BY := Lib.hid ((Blk.new w5 39 #[.slice Am (e - 1) (c2 - 1), .slice (some ⟨G, 0, none⟩) 1 c2, .slice Ad (p - e) (c2 - e)]).drew.fr hf1 (fun z => z)); clear hn1 ho1 hf1)
                    | ((with_reducible refine (HI33.out _ FD.out).mono ?_); rintro ex W1 ⟨A1, n1, c1, rfl, hn1, ho1, hf1⟩; obtain rfl : p = n1 := (hn1.trans HLL.out).symm; have O1 := Lib.hid ho1; have FX := Lib.hid (FD.out.then0 hf1); clear hn1 ho1 hf1))
                | (go_simp; go_at_call 52; first
                    | ((with_reducible refine (H52.out _ _ FX.out BY.out).mono ?_); rintro ex W2 ⟨A3, c3, rfl, ho2, hf2⟩; have O2 := Lib.hid ho2; have FY := Lib.hid hf2; clear ho2 hf2)
                    | ((with_reducible refine (H52.out _ _ (FX.out.alloc (.cells #[.slice Am (e - 1) (c2 - 1), .slice (some ⟨G, 0, none⟩) 1 c2, .slice Ad (p - e) (c2 - e)] 39)) (Blk.new _ _ _)).mono ?_); rintro ex W2 ⟨A3, c3, rfl, ho2, hf2⟩; have O2 := Lib.hid ho2; have FY := Lib.hid (((Fr.refl No _).alloc (.cells #[.slice Am (e - 1) (c2 - 1), .slice (some ⟨G, 0, none⟩) 1 c2, .slice Ad (p - e) (c2 - e)] 39)).then0 hf2); clear ho2 hf2))
                | (go_simp; go_at_call 22; ((with_reducible refine (equal_ids O1.out FY.out A3 c3 W2.heap.size hp60' (Reads.of_own O2.out)).mono ?_); rintro ex W3 ⟨rfl, hf3⟩; have FZ := Lib.hid hf3; clear hf3))
                | (go_simp; go_at_call 11; ((with_reducible refine (works_any _).mono ?_); rintro ex W4 ⟨rfl, hf4⟩; have F4 := Lib.hid hf4; clear hf4)))
              all_goals
                go_wp2
                go_ret
                exact ⟨rfl, (((FW.out.then0 FX.out).then0 FY.out).then0 FZ.out).then0 F4.out⟩
          · have HXX := Lib.hid (show e = (a :: t).length ∨ ((a :: t).getD e default).v ≠ a.v from .inl (by rw [HLNS.out]; omega))
            have hee2 : ¬ (e : Int) < (p : Int) := by omega
            go_wp2_with fail
            clear hee2
            have HRI := Lib.hid (run_ins HSO2.out (fun x hx => HPG.out x (List.mem_cons_of_mem _ hx)) h1e (by rw [HLNS.out]; exact hep) HRU.out HXX.out)
            have hcap := own_cap O5.out
            obtain ⟨Am, hmid, hrm⟩ := mid_runI (some ⟨G, 0, none⟩) p c2 1 e h1e hep hcap (by omega)
            obtain ⟨Ad, hdrop, hrd⟩ := drop_runI (some ⟨G, 0, none⟩) p c2 e hep hcap (by omega)
            have htake := take_runI (some ⟨G, 0, none⟩) p c2 1 (by omega) hcap
            have RO := Lib.hid (Reads.of_own O5.out)
            have RM := Lib.hid (hrm w5 w5.heap.size _ RO.out)
            have RD := Lib.hid (hrd w5 w5.heap.size _ RO.out)
            have RT := Lib.hid (reads_cut RO.out (show 1 ≤ p by omega))
            rw [show ((1 : Nat) : Int) = 1 by rfl] at hmid htake
            have hlen3 : e - 1 + 1 + (p - e) = p := by omega
            have HLL := Lib.hid (show (ids (ins ltI ⟨a.id, a.v, (N : Int)⟩ t)).length = p by
              have h1 := HLNS.out
              rw [List.length_cons] at h1
              simp [ids, ins_len]; omega)
            have HI33 := Lib.hid (fun (X : World) (hX : Fr No w5 X) => oIds bef_lt (H5.out.fr0 hX))
            have H52 := Lib.hid (fun (X : World) gb (hX : Fr No w5 X) (hb : Blk X gb 39 #[.slice Am (e - 1) (c2 - 1), .slice (some ⟨G, 0, none⟩) 1 c2, .slice Ad (p - e) (c2 - e)]) => concat_any gb Am (some ⟨G, 0, none⟩) Ad (e - 1) (c2 - 1) 1 c2 (p - e) (c2 - e) _ _ _ X hb (RM.out.fr0 hX) (RT.out.fr0 hX) (RD.out.fr0 hX) (by omega) (by omega) (by omega))
            rw [← HRI.out, hlen3] at H52
            have FW := Lib.hid H5.out.fr
            clear hrm hrd HS0 hcap
            generalize ids (ins ltI ⟨a.id, a.v, (N : Int)⟩ t) = L2 at *
            have hp60' : p ≤ 9223372036854775807 := by omega
            have FD := Lib.hid (Fr.refl No w5).drew
            have FB := Lib.hid ((Fr.refl No w5).alloc (.cells #[.slice Am (e - 1) (c2 - 1), .slice (some ⟨G, 0, none⟩) 1 c2, .slice Ad (p - e) (c2 - e)] 39)).drew
            go_region_law (first
              | (go_simp; go_at_call 33; first
                  | ((with_reducible refine (HI33.out _ FB.out).mono ?_); rintro ex W1 ⟨A1, n1, c1, rfl, hn1, ho1, hf1⟩; obtain rfl : p = n1 := (hn1.trans HLL.out).symm; have O1 := Lib.hid ho1; have FX := Lib.hid (FB.out.then0 hf1); have BY := Lib.hid ((Blk.new w5 39 #[.slice Am (e - 1) (c2 - 1), .slice (some ⟨G, 0, none⟩) 1 c2, .slice Ad (p - e) (c2 - e)]).drew.fr hf1 (fun z => z)); clear hn1 ho1 hf1)
                  | ((with_reducible refine (HI33.out _ FD.out).mono ?_); rintro ex W1 ⟨A1, n1, c1, rfl, hn1, ho1, hf1⟩; obtain rfl : p = n1 := (hn1.trans HLL.out).symm; have O1 := Lib.hid ho1; have FX := Lib.hid (FD.out.then0 hf1); clear hn1 ho1 hf1))
              | (go_simp; go_at_call 52; first
                  | ((with_reducible refine (H52.out _ _ FX.out BY.out).mono ?_); rintro ex W2 ⟨A3, c3, rfl, ho2, hf2⟩; have O2 := Lib.hid ho2; have FY := Lib.hid hf2; clear ho2 hf2)
                  | ((with_reducible refine (H52.out _ _ (FX.out.alloc (.cells #[.slice Am (e - 1) (c2 - 1), .slice (some ⟨G, 0, none⟩) 1 c2, .slice Ad (p - e) (c2 - e)] 39)) (Blk.new _ _ _)).mono ?_); rintro ex W2 ⟨A3, c3, rfl, ho2, hf2⟩; have O2 := Lib.hid ho2; have FY := Lib.hid (((Fr.refl No _).alloc (.cells #[.slice Am (e - 1) (c2 - 1), .slice (some ⟨G, 0, none⟩) 1 c2, .slice Ad (p - e) (c2 - e)] 39)).then0 hf2); clear ho2 hf2))
              | (go_simp; go_at_call 22; ((with_reducible refine (equal_ids O1.out FY.out A3 c3 W2.heap.size hp60' (Reads.of_own O2.out)).mono ?_); rintro ex W3 ⟨rfl, hf3⟩; have FZ := Lib.hid hf3; clear hf3))
              | (go_simp; go_at_call 11; ((with_reducible refine (works_any _).mono ?_); rintro ex W4 ⟨rfl, hf4⟩; have F4 := Lib.hid hf4; clear hf4)))
            all_goals
              go_wp2
              go_ret
              exact ⟨rfl, (((FW.out.then0 FX.out).then0 FY.out).then0 FZ.out).then0 F4.out⟩
end Go.Proofs.Ytbndmelkdamgjaa.So
