/- CapsCopies: the walk. -/
import Derived.Test.YtjgjbjigghfnbaaMade
namespace Go.Proofs.Ytjgjbjigghfnbaa
open Go.RowKit Go.Wk

theorem info5 : (Try.prog.info? 5).map (fun i => (i.zero, i.size, i.bytes)) = some (some (.int .u8 0), 1, 1) := by kernel_rfl

/-- After l takes of job q, and no other. -/
structure CopI (w wr : World) (xs : List Int) (g m q l : Nat) (s : CS) : Prop where
  cap : CapsAt wr g s
  jobs : s.jobs = m
  hall : s.all = 255
  most : ∀ j, s.m j = xs.getD j 0
  rq : s.r q = l
  ro : ∀ j, j ≠ q → s.r j = 0
  tot : s.total = l
  frw : Fr No w wr

set_option maxRecDepth 100000 in
set_option maxHeartbeats 4000000 in
theorem capsCopies_walk (job runs : Int) (A : Option Addr) (n c : Nat) (es : List Int) (w : World) (h : Reads w w.heap.size 1 A n (es.map (Value.int .u8))) (hn : n ≤ c) (hc : c ≤ 140737488351232)
    (he : ∀ x ∈ es, 0 ≤ x ∧ x ≤ 255) (hj : 0 ≤ job ∧ job ≤ 255) (hr : 0 ≤ runs ∧ runs ≤ 255) :
    Calls Try.prog 8 #[.slice A n c, .int .u8 job, .int .u8 runs] w fun e w' => e = .returned (.bool true) ∧ Below w.heap.size w w' := by
  obtain ⟨i0, hi, hz0, hz1, hz2⟩ := info_parts info5
  have HR := Lib.hid h
  have HE := Lib.hid he
  obtain ⟨hj1, hj2⟩ := hj
  obtain ⟨hr1, hr2⟩ := hr
  have hlen := h.length_ints
  have HL := Lib.hid hlen
  clear h he hlen
  have hown0 : (w.alloc (.cells #[Value.int .u8 200] 5)).ownsRow w.heap.size 5 1 (.slice (some ⟨w.heap.size, 0, none⟩) 1 1) 1 [.int .u8 200] :=
    (Blk.own (xs := [.int .u8 200]) (Blk.new w 5 #[.int .u8 200]) (Nat.le_refl _) (by decide))
  have HO := Lib.hid hown0
  clear hown0
  have hone := Lib.hid (ints_oneCell .u8 es)
  have hb1 : w.heap.size ≤ (w.alloc (.cells #[Value.int .u8 200] 5)).heap.size := by simp
  go_enter Try.func8, Try.ntmps8
  go_wp2_with (at_builtin; go_must (refine wpList_append_any _ rfl (.tmp 18) (.tmp 19) _ rfl w.heap.size 5 i0 _ 1 1 Try.underlying22 hi hz0 hz1 hz2 rfl (by omega) (.slice (some ⟨w.heap.size, 0, none⟩) 1 1) 1 _ rfl HO.out w.heap.size A n c _ rfl (HR.out.alloc (Nat.le_refl _) _) hone.out (by unfold maxLen; omega) (by omega) hb1 ?_); intro v1 w1 hown1 hg1 hat1)
  obtain ⟨A2, c2, rfl, hnc2, hcm2, hrd2⟩ := Reads.of_cells hown1 (Nat.le_refl _)
  have f1 : Fr No w w1 := ((Fr.refl No w).alloc _).own (g := w.heap.size) (Fr.of_grown hg1 (fun k hk => by simpa [Value.ownBlock, eq_comm] using hk)) (Nat.le_refl _)
  have hrd3 : Reads w1 w1.heap.size 1 A2 (1 + n) ((200 :: es).map (Value.int .u8)) := hrd2
  have HM := Lib.hid (made_k 255 A2 (1 + n) c2 (200 :: es) w1 hrd3 hnc2 (by simpa [maxLen] using hcm2) (by omega) (fun x hx => by
    rcases List.mem_cons.1 hx with rfl | hx
    · omega
    · exact HE.out x hx))
  clear hown1 hg1 hat1 hrd2 hrd3 hnc2 hcm2
  refine HM.out.mono ?_
  rintro e w2 ⟨g, A', m, c', s0, rfl, M⟩
  clear HM HO
  have hm64 := M.m64
  have hmc := M.mc
  have hcx := M.cmax
  have hm0 : 0 < m := by have := M.len; rw [List.length_take] at this; simp at this; omega
  have hx0 : ((200 :: es).take 64).getD 0 0 = 200 := by simp
  have HX0 := Lib.hid hx0
  clear hx0
  generalize (200 :: es).take 64 = xs at *
  have hq1 : 0 ≤ job % (m : Int) := Int.emod_nonneg _ (by omega)
  have hq2 : job % (m : Int) < m := Int.emod_lt_of_pos _ (by omega)
  obtain ⟨q, hq⟩ : ∃ q, q = job % (m : Int) := ⟨_, rfl⟩
  rw [← hq] at hq1 hq2
  obtain ⟨qn, rfl⟩ := Int.eq_ofNat_of_zero_le hq1
  have hqr : job % (m : Int) = qn := hq.symm
  clear hq
  have hqm : qn < m := by omega
  obtain ⟨b, off, rfl, hcell⟩ := M.cell (Fr.refl _ _) hqm
  have hX := M.nums (xs.getD qn 0) (by have := M.len; simp [show qn < xs.length by omega])
  obtain ⟨hX1, hX2⟩ := hX
  have hs0 : CopI w w2 xs g m qn 0 s0 := ⟨M.cap, M.jobs, M.hall, M.most, M.runs qn, fun j _ => M.runs j, M.tot, f1.then0 M.fr⟩
  generalize hXe : xs.getD qn 0 = X at *
  have HXe := Lib.hid hXe
  clear hXe
  have hrr1 : 0 ≤ runs % 100 := by omega
  have hrr2 : runs % 100 < 100 := by omega
  rcases Int.lt_or_le X (runs % 100) with hle | hle
  rotate_left
  · obtain ⟨l, hl⟩ := Int.eq_ofNat_of_zero_le hrr1
    go_wp2
    rw [hl] at hle hrr1 hrr2 ⊢
    try rw [hqr]
    clear hl hqr
    go_loopw [40] (fun i wr => ∃ (k : Nat) (s : CS), i = .int .i64 k ∧ k ≤ l ∧ CopI w wr xs g m qn k s) (fun i _ => l - (intOf i).toNat)
    case atStart => exact ⟨0, s0, rfl, Nat.zero_le _, hs0⟩
    case round =>
      clear hs0
      obtain ⟨k, s, rfl, hk, hI⟩ := hrel
      have hg := M.hg
      have hg1 : w.heap.size ≤ g := Nat.le_trans f1.size hg
      have hhas : s.has (qn : Int) = true := CS.has_of hq1 (by rw [hI.jobs]; exact hq2)
      obtain ⟨f2, f3, f5, f4, _⟩ := CS.facts hhas
      simp only [Int.toNat_natCast] at f3 f4 f5
      have hlq : s.left qn = min (X - k) (255 - k) := by unfold CS.left; rw [hI.most, HXe.out, hI.rq, hI.hall, hI.tot]
      have F5 := Lib.hid f5
      have F2 := Lib.hid f2
      by_cases hkl : k < l
      · have hE := Lib.hid (f4 (by rw [hlq]; omega))
        clear f2 f3 f4 f5 hlq hhas
        go_wp2_with fail
        refine (take_any _ _ _ _ hI.cap).mono ?_
        rintro e w3 ⟨rfl, hc3, hf⟩
        rw [hE.out.2.1]
        rw [hE.out.2.2] at hc3
        have hJ : CopI w w3 xs g m qn (k + 1) (s.add qn 1) := by
          refine ⟨hc3, hI.jobs, hI.hall, hI.most, ?_, fun j hj => ?_, ?_, hI.frw.own hf hg1⟩
          · rw [s.add_r _ _ _ hI.cap.ok.lr (by omega), if_pos rfl, hI.rq]; omega
          · rw [s.add_r _ _ _ hI.cap.ok.lr (by omega), if_neg hj]; exact hI.ro j hj
          · show s.total + 1 = _; rw [hI.tot]; omega
        clear hf hc3 hI
        go_wp2
        go_roundw
        case rel => exact ⟨k + 1, _, by go_num, by omega, hJ⟩
        case measure => simp [intOf]; omega
      · have hkl : k = l := by omega
        subst hkl
        clear f2 f3 f4 f5 hlq hhas
        have hh0 : s.has 0 = true := CS.has_of (Int.le_refl _) (by rw [hI.jobs]; omega)
        have hl0 : 0 < s.left 0 := by
          have h1 : s.m 0 = 200 := by rw [hI.most, HX0.out]
          have h2 : s.r 0 ≤ k := by
            by_cases h : 0 = qn
            · rw [h, hI.rq]; omega
            · rw [hI.ro 0 h]; omega
          unfold CS.left; rw [h1, hI.hall, hI.tot]; omega
        have hE := Lib.hid ((CS.facts hh0).2.2.2.1 hl0)
        have HT := Lib.hid hI.tot
        have HTT : Hid (Value.int .i64 (k : Int) = .int .i64 k) := rfl
        clear hh0 hl0
        go_wp2_with fail
        refine (copy_any _ _ _ hI.cap).mono ?_
        rintro e w3 ⟨rfl, hd3, hf3⟩
        have hc3 := hI.cap.fr hf3 (fun x => x)
        have hF3 := hI.frw.then0 hf3
        have hlt := hI.cap.blk.lt
        have hgd : w.heap.size ≤ wr.heap.size := hI.frw.size
        have hne : wr.heap.size ≠ g := by omega
        generalize wr.heap.size = gd at *
        go_wp2_with fail
        refine (total_any _ _ _ hd3).mono ?_
        rintro e _ ⟨rfl, rfl⟩
        rw [HT.out]
        have hbe : ((k : Int) != (k : Int)) = false := by simp
        go_wp2_with fail
        refine (take_any _ _ _ _ hc3).mono ?_
        rintro e w4 ⟨rfl, hc4, hf4⟩
        rw [hE.out.2.1]
        rw [hE.out.2.2] at hc4
        replace hd3 := hd3.fr hf4 hne
        have hF4 := hF3.own hf4 hg1
        clear hf4 hc3 hF3 hf3
        simp only [Int.toNat_zero] at hc4
        go_wp2_with fail
        refine (total_any _ _ _ hd3).mono ?_
        rintro e _ ⟨rfl, rfl⟩
        rw [HT.out]
        have HT1 : Hid ((s.add 0 1).total = k + 1) := by show s.total + 1 = _; rw [hI.tot]
        have hbe1 : ((k : Int) + 1 != (k : Int) + 1) = false := by simp
        go_wp2_with fail
        refine (total_any _ _ _ hc4).mono ?_
        rintro e _ ⟨rfl, rfl⟩
        rw [HT1.out]
        have hU0 : Hid ((qn = 0 → (s.add 0 1).usedV (qn : Int) = (k : Int) + 1) ∧ (qn ≠ 0 → (s.add 0 1).usedV (qn : Int) = (k : Int)) ∧ (s.add 0 1).err (qn : Int) = 0) := by
          have hh : (s.add 0 1).has (qn : Int) = true := CS.has_of hq1 (by show (qn : Int) < s.jobs; rw [hI.jobs]; exact hq2)
          obtain ⟨e1, _, e3, _⟩ := CS.facts hh
          rw [e3, Int.toNat_natCast, s.add_r _ _ _ hI.cap.ok.lr (by omega)]
          refine ⟨fun h => ?_, fun h => ?_, e1⟩
          · subst h; simp [hI.rq]
          · simp [h, hI.rq]
        rcases Nat.eq_zero_or_pos k with hk0 | hk0
        · have hU1 : Hid (s.usedV (qn : Int) = 0 ∧ s.err (qn : Int) = 0) := by
            have hh : s.has (qn : Int) = true := CS.has_of hq1 (by rw [hI.jobs]; exact hq2)
            obtain ⟨e1, _, e3, _⟩ := CS.facts hh
            exact ⟨by rw [e3, Int.toNat_natCast, hI.rq, hk0]; rfl, e1⟩
          subst hk0
          clear hbe hbe1
          go_wp2_with fail
          by_cases hz : qn = 0
          · have HZ := Lib.hid hz
            have hzb : ((qn : Int) == 0) = true := by simp; omega
            clear hz
            refine (used_any _ _ _ _ hc4).mono ?_
            rintro e w5 ⟨rfl, hf5⟩
            rw [hU0.out.1 HZ.out, hU0.out.2.2]
            replace hd3 := hd3.fr hf5 (fun x => x)
            have hF5 := hF4.then0 hf5
            clear hf5
            go_wp2_with fail
            refine (used_any _ _ _ _ hd3).mono ?_
            rintro e w6 ⟨rfl, hf6⟩
            rw [hU1.out.1, hU1.out.2]
            have hF6 := hF5.then0 hf6
            clear hf6
            go_wp2_with fail
            refine (works_any _).mono ?_
            rintro e w8 ⟨rfl, hf8⟩
            go_wp2
            go_ret
            exact ⟨rfl, (hF6.then0 hf8).below⟩
          · have HZ := Lib.hid hz
            have hzb : ((qn : Int) == 0) = false := by simp; omega
            clear hz
            refine (used_any _ _ _ _ hc4).mono ?_
            rintro e w5 ⟨rfl, hf5⟩
            rw [hU0.out.2.1 HZ.out, hU0.out.2.2]
            replace hd3 := hd3.fr hf5 (fun x => x)
            have hF5 := hF4.then0 hf5
            clear hf5
            go_wp2_with fail
            refine (used_any _ _ _ _ hd3).mono ?_
            rintro e w6 ⟨rfl, hf6⟩
            rw [hU1.out.1, hU1.out.2]
            have hF6 := hF5.then0 hf6
            clear hf6
            go_wp2_with fail
            refine (works_any _).mono ?_
            rintro e w8 ⟨rfl, hf8⟩
            go_wp2
            go_ret
            exact ⟨rfl, (hF6.then0 hf8).below⟩
        · have hU1 : Hid (s.giveE (qn : Int) = 0 ∧ s.giveS (qn : Int) = s.add qn (-1) ∧ (s.add qn (-1)).usedV (qn : Int) = (k : Int) - 1 ∧ (s.add qn (-1)).err (qn : Int) = 0 ∧ (s.add qn (-1)).total = (k : Int) - 1) := by
            have hh : s.has (qn : Int) = true := CS.has_of hq1 (by rw [hI.jobs]; exact hq2)
            have hh2 : (s.add qn (-1)).has (qn : Int) = true := hh
            have hrn : s.r qn ≠ 0 := by rw [hI.rq]; omega
            obtain ⟨e1, _, e3, _⟩ := CS.facts hh2
            refine ⟨by simp [CS.giveE, hh, hrn], by simp [CS.giveS, hh, hrn], ?_, e1, ?_⟩
            · rw [e3, Int.toNat_natCast, s.add_r _ _ _ hI.cap.ok.lr (by omega), if_pos rfl, hI.rq]; omega
            · show s.total + -1 = _; rw [hI.tot]; omega
          go_wp2_with fail
          refine (give_any _ _ _ _ hd3).mono ?_
          rintro e w5 ⟨rfl, hd5, hf5⟩
          rw [hU1.out.1]
          rw [hU1.out.2.1] at hd5
          replace hc4 := hc4.fr hf5 (fun e => hne e.symm)
          have hF5 := hF4.own hf5 hgd
          clear hf5 hd3
          go_wp2_with fail
          refine (total_any _ _ _ hc4).mono ?_
          rintro e _ ⟨rfl, rfl⟩
          rw [HT1.out]
          have hbe2 : ((k : Int) - 1 != (k : Int) - 1) = false := by simp
          go_wp2_with fail
          refine (total_any _ _ _ hd5).mono ?_
          rintro e _ ⟨rfl, rfl⟩
          rw [hU1.out.2.2.2.2]
          go_wp2_with fail
          by_cases hz : qn = 0
          · have HZ := Lib.hid hz
            have hzb : ((qn : Int) == 0) = true := by simp; omega
            clear hz
            refine (used_any _ _ _ _ hc4).mono ?_
            rintro e w6 ⟨rfl, hf6⟩
            rw [hU0.out.1 HZ.out, hU0.out.2.2]
            replace hd5 := hd5.fr hf6 (fun x => x)
            have hF6 := hF5.then0 hf6
            clear hf6
            go_wp2_with fail
            refine (used_any _ _ _ _ hd5).mono ?_
            rintro e w7 ⟨rfl, hf7⟩
            rw [hU1.out.2.2.1, hU1.out.2.2.2.1]
            have hF7 := hF6.then0 hf7
            clear hf7 hbe hbe1 hbe2
            go_wp2_with fail
            refine (works_any _).mono ?_
            rintro e w8 ⟨rfl, hf8⟩
            go_wp2
            go_ret
            exact ⟨rfl, (hF7.then0 hf8).below⟩
          · have HZ := Lib.hid hz
            have hzb : ((qn : Int) == 0) = false := by simp; omega
            clear hz
            refine (used_any _ _ _ _ hc4).mono ?_
            rintro e w6 ⟨rfl, hf6⟩
            rw [hU0.out.2.1 HZ.out, hU0.out.2.2]
            replace hd5 := hd5.fr hf6 (fun x => x)
            have hF6 := hF5.then0 hf6
            clear hf6
            go_wp2_with fail
            refine (used_any _ _ _ _ hd5).mono ?_
            rintro e w7 ⟨rfl, hf7⟩
            rw [hU1.out.2.2.1, hU1.out.2.2.2.1]
            have hF7 := hF6.then0 hf7
            clear hf7 hbe hbe1 hbe2
            go_wp2_with fail
            refine (works_any _).mono ?_
            rintro e w8 ⟨rfl, hf8⟩
            go_wp2
            go_ret
            exact ⟨rfl, (hF7.then0 hf8).below⟩
  · obtain ⟨l, rfl⟩ := Int.eq_ofNat_of_zero_le hX1
    go_wp2
    try rw [hqr]
    clear hqr
    go_loopw [40] (fun i wr => ∃ (k : Nat) (s : CS), i = .int .i64 k ∧ k ≤ l ∧ CopI w wr xs g m qn k s) (fun i _ => l - (intOf i).toNat)
    case atStart => exact ⟨0, s0, rfl, Nat.zero_le _, hs0⟩
    case round =>
      clear hs0
      obtain ⟨k, s, rfl, hk, hI⟩ := hrel
      have hg := M.hg
      have hg1 : w.heap.size ≤ g := Nat.le_trans f1.size hg
      have hhas : s.has (qn : Int) = true := CS.has_of hq1 (by rw [hI.jobs]; exact hq2)
      obtain ⟨f2, f3, f5, f4, _⟩ := CS.facts hhas
      simp only [Int.toNat_natCast] at f3 f4 f5
      have hlq : s.left qn = min ((l : Int) - k) (255 - k) := by unfold CS.left; rw [hI.most, HXe.out, hI.rq, hI.hall, hI.tot]
      have F5 := Lib.hid f5
      have F2 := Lib.hid f2
      by_cases hkl : k < l
      · have hE := Lib.hid (f4 (by rw [hlq]; omega))
        clear f2 f3 f4 f5 hlq hhas
        go_wp2_with fail
        refine (take_any _ _ _ _ hI.cap).mono ?_
        rintro e w3 ⟨rfl, hc3, hf⟩
        rw [hE.out.2.1]
        rw [hE.out.2.2] at hc3
        have hJ : CopI w w3 xs g m qn (k + 1) (s.add qn 1) := by
          refine ⟨hc3, hI.jobs, hI.hall, hI.most, ?_, fun j hj => ?_, ?_, hI.frw.own hf hg1⟩
          · rw [s.add_r _ _ _ hI.cap.ok.lr (by omega), if_pos rfl, hI.rq]; omega
          · rw [s.add_r _ _ _ hI.cap.ok.lr (by omega), if_neg hj]; exact hI.ro j hj
          · show s.total + 1 = _; rw [hI.tot]; omega
        clear hf hc3 hI
        go_wp2
        go_roundw
        case rel => exact ⟨k + 1, _, by go_num, by omega, hJ⟩
        case measure => simp [intOf]; omega
      · have hkl : k = l := by omega
        subst hkl
        clear f2 f3 f4 f5 hlq hhas
        have hh0 : s.has 0 = true := CS.has_of (Int.le_refl _) (by rw [hI.jobs]; omega)
        have hl0 : 0 < s.left 0 := by
          have h1 : s.m 0 = 200 := by rw [hI.most, HX0.out]
          have h2 : s.r 0 ≤ k := by
            by_cases h : 0 = qn
            · rw [h, hI.rq]; omega
            · rw [hI.ro 0 h]; omega
          unfold CS.left; rw [h1, hI.hall, hI.tot]; omega
        have hE := Lib.hid ((CS.facts hh0).2.2.2.1 hl0)
        have HT := Lib.hid hI.tot
        have HTT : Hid (Value.int .i64 (k : Int) = .int .i64 k) := rfl
        clear hh0 hl0
        go_wp2_with fail
        refine (copy_any _ _ _ hI.cap).mono ?_
        rintro e w3 ⟨rfl, hd3, hf3⟩
        have hc3 := hI.cap.fr hf3 (fun x => x)
        have hF3 := hI.frw.then0 hf3
        have hlt := hI.cap.blk.lt
        have hgd : w.heap.size ≤ wr.heap.size := hI.frw.size
        have hne : wr.heap.size ≠ g := by omega
        generalize wr.heap.size = gd at *
        go_wp2_with fail
        refine (total_any _ _ _ hd3).mono ?_
        rintro e _ ⟨rfl, rfl⟩
        rw [HT.out]
        have hbe : ((k : Int) != (k : Int)) = false := by simp
        go_wp2_with fail
        refine (take_any _ _ _ _ hc3).mono ?_
        rintro e w4 ⟨rfl, hc4, hf4⟩
        rw [hE.out.2.1]
        rw [hE.out.2.2] at hc4
        replace hd3 := hd3.fr hf4 hne
        have hF4 := hF3.own hf4 hg1
        clear hf4 hc3 hF3 hf3
        simp only [Int.toNat_zero] at hc4
        go_wp2_with fail
        refine (total_any _ _ _ hd3).mono ?_
        rintro e _ ⟨rfl, rfl⟩
        rw [HT.out]
        have HT1 : Hid ((s.add 0 1).total = k + 1) := by show s.total + 1 = _; rw [hI.tot]
        have hbe1 : ((k : Int) + 1 != (k : Int) + 1) = false := by simp
        go_wp2_with fail
        refine (total_any _ _ _ hc4).mono ?_
        rintro e _ ⟨rfl, rfl⟩
        rw [HT1.out]
        have hU0 : Hid ((qn = 0 → (s.add 0 1).usedV (qn : Int) = (k : Int) + 1) ∧ (qn ≠ 0 → (s.add 0 1).usedV (qn : Int) = (k : Int)) ∧ (s.add 0 1).err (qn : Int) = 0) := by
          have hh : (s.add 0 1).has (qn : Int) = true := CS.has_of hq1 (by show (qn : Int) < s.jobs; rw [hI.jobs]; exact hq2)
          obtain ⟨e1, _, e3, _⟩ := CS.facts hh
          rw [e3, Int.toNat_natCast, s.add_r _ _ _ hI.cap.ok.lr (by omega)]
          refine ⟨fun h => ?_, fun h => ?_, e1⟩
          · subst h; simp [hI.rq]
          · simp [h, hI.rq]
        rcases Nat.eq_zero_or_pos k with hk0 | hk0
        · have hU1 : Hid (s.usedV (qn : Int) = 0 ∧ s.err (qn : Int) = 0) := by
            have hh : s.has (qn : Int) = true := CS.has_of hq1 (by rw [hI.jobs]; exact hq2)
            obtain ⟨e1, _, e3, _⟩ := CS.facts hh
            exact ⟨by rw [e3, Int.toNat_natCast, hI.rq, hk0]; rfl, e1⟩
          subst hk0
          clear hbe hbe1
          go_wp2_with fail
          by_cases hz : qn = 0
          · have HZ := Lib.hid hz
            have hzb : ((qn : Int) == 0) = true := by simp; omega
            clear hz
            refine (used_any _ _ _ _ hc4).mono ?_
            rintro e w5 ⟨rfl, hf5⟩
            rw [hU0.out.1 HZ.out, hU0.out.2.2]
            replace hd3 := hd3.fr hf5 (fun x => x)
            have hF5 := hF4.then0 hf5
            clear hf5
            go_wp2_with fail
            refine (used_any _ _ _ _ hd3).mono ?_
            rintro e w6 ⟨rfl, hf6⟩
            rw [hU1.out.1, hU1.out.2]
            have hF6 := hF5.then0 hf6
            clear hf6
            go_wp2_with fail
            refine (works_any _).mono ?_
            rintro e w8 ⟨rfl, hf8⟩
            go_wp2
            go_ret
            exact ⟨rfl, (hF6.then0 hf8).below⟩
          · have HZ := Lib.hid hz
            have hzb : ((qn : Int) == 0) = false := by simp; omega
            clear hz
            refine (used_any _ _ _ _ hc4).mono ?_
            rintro e w5 ⟨rfl, hf5⟩
            rw [hU0.out.2.1 HZ.out, hU0.out.2.2]
            replace hd3 := hd3.fr hf5 (fun x => x)
            have hF5 := hF4.then0 hf5
            clear hf5
            go_wp2_with fail
            refine (used_any _ _ _ _ hd3).mono ?_
            rintro e w6 ⟨rfl, hf6⟩
            rw [hU1.out.1, hU1.out.2]
            have hF6 := hF5.then0 hf6
            clear hf6
            go_wp2_with fail
            refine (works_any _).mono ?_
            rintro e w8 ⟨rfl, hf8⟩
            go_wp2
            go_ret
            exact ⟨rfl, (hF6.then0 hf8).below⟩
        · have hU1 : Hid (s.giveE (qn : Int) = 0 ∧ s.giveS (qn : Int) = s.add qn (-1) ∧ (s.add qn (-1)).usedV (qn : Int) = (k : Int) - 1 ∧ (s.add qn (-1)).err (qn : Int) = 0 ∧ (s.add qn (-1)).total = (k : Int) - 1) := by
            have hh : s.has (qn : Int) = true := CS.has_of hq1 (by rw [hI.jobs]; exact hq2)
            have hh2 : (s.add qn (-1)).has (qn : Int) = true := hh
            have hrn : s.r qn ≠ 0 := by rw [hI.rq]; omega
            obtain ⟨e1, _, e3, _⟩ := CS.facts hh2
            refine ⟨by simp [CS.giveE, hh, hrn], by simp [CS.giveS, hh, hrn], ?_, e1, ?_⟩
            · rw [e3, Int.toNat_natCast, s.add_r _ _ _ hI.cap.ok.lr (by omega), if_pos rfl, hI.rq]; omega
            · show s.total + -1 = _; rw [hI.tot]; omega
          go_wp2_with fail
          refine (give_any _ _ _ _ hd3).mono ?_
          rintro e w5 ⟨rfl, hd5, hf5⟩
          rw [hU1.out.1]
          rw [hU1.out.2.1] at hd5
          replace hc4 := hc4.fr hf5 (fun e => hne e.symm)
          have hF5 := hF4.own hf5 hgd
          clear hf5 hd3
          go_wp2_with fail
          refine (total_any _ _ _ hc4).mono ?_
          rintro e _ ⟨rfl, rfl⟩
          rw [HT1.out]
          have hbe2 : ((k : Int) - 1 != (k : Int) - 1) = false := by simp
          go_wp2_with fail
          refine (total_any _ _ _ hd5).mono ?_
          rintro e _ ⟨rfl, rfl⟩
          rw [hU1.out.2.2.2.2]
          go_wp2_with fail
          by_cases hz : qn = 0
          · have HZ := Lib.hid hz
            have hzb : ((qn : Int) == 0) = true := by simp; omega
            clear hz
            refine (used_any _ _ _ _ hc4).mono ?_
            rintro e w6 ⟨rfl, hf6⟩
            rw [hU0.out.1 HZ.out, hU0.out.2.2]
            replace hd5 := hd5.fr hf6 (fun x => x)
            have hF6 := hF5.then0 hf6
            clear hf6
            go_wp2_with fail
            refine (used_any _ _ _ _ hd5).mono ?_
            rintro e w7 ⟨rfl, hf7⟩
            rw [hU1.out.2.2.1, hU1.out.2.2.2.1]
            have hF7 := hF6.then0 hf7
            clear hf7 hbe hbe1 hbe2
            go_wp2_with fail
            refine (works_any _).mono ?_
            rintro e w8 ⟨rfl, hf8⟩
            go_wp2
            go_ret
            exact ⟨rfl, (hF7.then0 hf8).below⟩
          · have HZ := Lib.hid hz
            have hzb : ((qn : Int) == 0) = false := by simp; omega
            clear hz
            refine (used_any _ _ _ _ hc4).mono ?_
            rintro e w6 ⟨rfl, hf6⟩
            rw [hU0.out.2.1 HZ.out, hU0.out.2.2]
            replace hd5 := hd5.fr hf6 (fun x => x)
            have hF6 := hF5.then0 hf6
            clear hf6
            go_wp2_with fail
            refine (used_any _ _ _ _ hd5).mono ?_
            rintro e w7 ⟨rfl, hf7⟩
            rw [hU1.out.2.2.1, hU1.out.2.2.2.1]
            have hF7 := hF6.then0 hf7
            clear hf7 hbe hbe1 hbe2
            go_wp2_with fail
            refine (works_any _).mono ?_
            rintro e w8 ⟨rfl, hf8⟩
            go_wp2
            go_ret
            exact ⟨rfl, (hF7.then0 hf8).below⟩
end Go.Proofs.Ytjgjbjigghfnbaa
