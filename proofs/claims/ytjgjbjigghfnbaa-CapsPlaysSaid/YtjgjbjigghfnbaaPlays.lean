/- The walk of CapsPlays. -/
import Derived.Test.YtjgjbjigghfnbaaPlayI
import Derived.Deep.RegionHeld3
namespace Go.Proofs.Ytjgjbjigghfnbaa
open Go.RowKit Go.Wk

set_option maxRecDepth 100000 in
set_option maxHeartbeats 4000000 in
theorem capsPlays_walk (all : Int) (A1 : Option Addr) (n1 c1 : Nat) (xs : List Int) (A2 : Option Addr) (n2 c2 : Nat) (es : List (List Int)) (job : Int) (w : World)
    (h1 : Reads w w.heap.size 1 A1 n1 (xs.map (Value.int .i64))) (hn1 : n1 ≤ 9223372036854775807) (hn2 : n2 ≤ 9223372036854775807) (h2 : RowF [.i64, .i64] 16 w A2 n2 c2 es) :
    Calls Try.prog 7 #[.int .i64 all, .slice A1 n1 c1, .slice A2 n2 c2, .int .i64 job] w fun e w' => e = .returned (.bool true) ∧ Fr No w w' := by
  have HR1 := Lib.hid h1
  have HR2 := Lib.hid h2
  have HL1 := Lib.hid h1.length_ints
  clear h1 h2
  by_cases b1 : 64 < n1
  · go_enter Try.func7, Try.ntmps7
    go_wp2_with fail
    refine (works_any _).mono ?_
    rintro x w1 ⟨rfl, hf⟩
    go_wp2
    go_ret
    exact ⟨rfl, hf⟩
  by_cases b2 : 300 < n2
  · go_enter Try.func7, Try.ntmps7
    go_wp2_with fail
    refine (works_any _).mono ?_
    rintro x w1 ⟨rfl, hf⟩
    go_wp2
    go_ret
    exact ⟨rfl, hf⟩
  by_cases hbad : beyondB all = true ∨ 64 < n1 ∨ xs.any beyondB = true
  · have HBAD := Lib.hid hbad
    clear hbad
    go_enter Try.func7, Try.ntmps7
    go_wp2_with fail
    refine (new_bad all A1 n1 c1 _ xs _ hn1 HR1.out HBAD.out).mono ?_
    rintro x w1 ⟨rfl, rfl⟩
    go_wp2_with fail
    refine (rnew_bad all A1 n1 c1 _ xs _ hn1 HR1.out HBAD.out).mono ?_
    rintro x w1 ⟨rfl, rfl⟩
    go_wp2_with fail
    refine (works_any _).mono ?_
    rintro x w1 ⟨rfl, hf⟩
    go_wp2
    go_ret
    exact ⟨rfl, hf⟩
  have hg1 := Lib.hid (show beyondB all = false by cases h : beyondB all <;> simp_all)
  have hg3 := Lib.hid (show xs.any beyondB = false by cases h : xs.any beyondB <;> simp_all)
  have hle1 : n1 ≤ 64 := by omega
  clear hbad
  go_enter Try.func7, Try.ntmps7
  go_wp2_with fail
  refine (new_good' all A1 n1 c1 _ xs _ HL1.out HR1.out (Nat.le_refl _) hg1.out hle1 hg3.out).mono ?_
  rintro x w1 ⟨rfl, hca, hbl⟩
  have F1 : Fr No w w1 := Fr.of_below hbl
  have HR1' := Lib.hid (HR1.out.fr F1 (Nat.le_refl _) (fun _ _ x => x))
  have HF1 := Lib.hid F1.size
  go_wp2_with fail
  refine (rnew_good' all A1 n1 c1 _ xs _ HL1.out HR1'.out HF1.out hg1.out hle1 hg3.out).mono ?_
  rintro x w2 ⟨b, e, r, rfl, q1, q2, q3, q4, q5, hre, F2⟩
  have PI := PlayI.start hca F1 hre F2 q1 q2 q3 q4 q5
  clear hca hbl F1 HF1 HR1' q1 q2 q3 q4 q5 hre F2
  go_wp2
  go_loopw [9, 11, 13, 14, 46] (fun vc vb old was i wr => ∃ (k c b e r : Nat) (s : CS), vc = .pointer (some ⟨c, 0, none⟩) ∧ vb = .pointer (some ⟨b, 0, none⟩) ∧ i = .int .i64 k ∧ k ≤ n2 ∧ PlayI w wr c b e r s old was) (fun _ _ _ _ i _ => n2 - (intOf i).toNat)
  case atStart => exact ⟨0, _, _, _, _, _, rfl, rfl, rfl, Nat.zero_le _, PI⟩
  case round =>
    clear PI
    obtain ⟨k, c, b, e, r, s, rfl, rfl, rfl, hk, PI⟩ := hrel
    by_cases hlt : k < n2
    · obtain ⟨xb, xo, d, jb, rfl, hxb, hd, hj, _, _⟩ := RowF.pair HR2.out hlt
      have cd := (PI.fr.cell (p := ⟨xb, xo + k * 2, none⟩) hxb (fun x => x)).trans hd
      have cj := (PI.fr.cell (p := ⟨xb, xo + k * 2 + 1, none⟩) hxb (fun x => x)).trans hj
      have hsz := PI.fr.size
      have HXB := Lib.hid hxb
      have HPI := Lib.hid PI
      clear hd hj hxb PI
      rcases (show d = 0 ∨ d = 1 ∨ d = 2 ∨ (¬ d = 0 ∧ ¬ d = 1 ∧ ¬ d = 2) by omega) with rfl | rfl | rfl | ⟨n0, n1', n2'⟩
      · have HW := Lib.hid (HPI.out.keep ((Fr.refl No wr).alloc (.cells #[.int .i64 0, .int .i64 jb] 47)))
        have hX := Blk.new wr 47 #[.int .i64 0, .int .i64 jb]
        have hlc := HPI.out.cap.blk.lt
        have hlr := HPI.out.lt.2.2
        go_wp2_with fail
        obtain ⟨wx, hwx⟩ : ∃ wx, wx = wr.alloc (.cells #[.int .i64 0, .int .i64 jb] 47) := ⟨_, rfl⟩
        rw [← hwx] at HW hX ⊢
        clear hwx
        obtain ⟨X, hXX⟩ : ∃ X, X = wr.heap.size := ⟨_, rfl⟩
        simp only [← hXX] at hX hlc hlr ⊢
        have XLT := hX.lt
        have KX := hX.cell 1
        simp only [List.getElem?_toArray, List.getElem?_cons_succ, List.getElem?_cons_zero] at KX
        clear hX hXX cd cj
        have PID := Lib.hid (HW.out.keep ((Fr.refl No wx).drew))
        have hXc : X ≠ c := by omega
        have hXr : X ≠ r := by omega
        have KD : wx.drew.cell? ⟨X, 1, none⟩ = some (.int .i64 jb) := KX
        go_region_held3 (fun w' => w'.cell? ⟨X, 1, none⟩ = some (.int .i64 jb)) (first | go_keep | exact k2 | exact k1 | exact KD)
          (first
            | (go_at_call 13; refine (take_any c s wx.drew jb PID.out.cap).mono ?_; rintro x w1 ⟨rfl, hc1, hf1⟩; have k1 := (hf1.cell (p := ⟨X, 1, none⟩) XLT hXc).trans KD)
            | (go_at_call 20; refine (rtake_any b e r s w1 jb (PID.out.ref1 hf1)).mono ?_; rintro x w2 ⟨rfl, hr2, hf2⟩; have k2 := (hf2.cell (p := ⟨X, 1, none⟩) (Nat.lt_of_lt_of_le XLT hf1.size) hXr).trans k1))
        have HP := Lib.hid (PID.out.step hc1 hf1 hr2 hf2)
        replace XLT := Nat.lt_of_lt_of_le (Nat.lt_of_lt_of_le XLT hf1.size) hf2.size
        replace KX := k2
        clear hc1 hf1 hr2 hf2 k1 k2 KD HW PID HPI
        generalize s.takeE jb = te at *
        generalize s.takeS jb = s2 at *
        rcases HP.out.olds with ⟨rfl, rfl⟩ | ⟨oc, ob, _, _, _, rfl, rfl, _⟩
        · go_wp2_with fail
          refine (shows_any c b e r s2 _ jb HP.out.cap HP.out.ref).mono ?_
          rintro x w5 ⟨rfl, hf⟩
          replace HP := Lib.hid (HP.out.keep hf)
          replace KX := (hf.cell (p := ⟨X, 1, none⟩) XLT (fun x => x)).trans KX
          replace XLT := Nat.lt_of_lt_of_le XLT hf.size
          clear hf
          go_wp2_with fail
          refine (shows_any c b e r s2 _ job HP.out.cap HP.out.ref).mono ?_
          rintro x w6 ⟨rfl, hf⟩
          replace HP := Lib.hid (HP.out.keep hf)
          replace KX := (hf.cell (p := ⟨X, 1, none⟩) XLT (fun x => x)).trans KX
          replace XLT := Nat.lt_of_lt_of_le XLT hf.size
          clear hf
          go_wp2
          go_roundw
          case rel => exact ⟨k + 1, _, _, _, _, _, rfl, rfl, by go_num, by omega, HP.out⟩
          case measure => simp [intOf]; omega
        · go_wp2_with fail
          refine (shows_any c b e r s2 _ jb HP.out.cap HP.out.ref).mono ?_
          rintro x w5 ⟨rfl, hf⟩
          replace HP := Lib.hid (HP.out.keep hf)
          replace KX := (hf.cell (p := ⟨X, 1, none⟩) XLT (fun x => x)).trans KX
          replace XLT := Nat.lt_of_lt_of_le XLT hf.size
          clear hf
          go_wp2_with fail
          refine (shows_any c b e r s2 _ job HP.out.cap HP.out.ref).mono ?_
          rintro x w6 ⟨rfl, hf⟩
          replace HP := Lib.hid (HP.out.keep hf)
          replace KX := (hf.cell (p := ⟨X, 1, none⟩) XLT (fun x => x)).trans KX
          replace XLT := Nat.lt_of_lt_of_le XLT hf.size
          clear hf
          obtain ⟨oe, or_, so, hoc, hor⟩ := HP.out.oldc
          have HOC := Lib.hid hoc
          have HOR := Lib.hid hor
          clear hoc hor
          go_wp2_with fail
          refine (shows_any oc ob oe or_ so _ jb HOC.out HOR.out).mono ?_
          rintro x w7 ⟨rfl, hf⟩
          replace HP := Lib.hid (HP.out.keep hf)
          replace KX := (hf.cell (p := ⟨X, 1, none⟩) XLT (fun x => x)).trans KX
          replace XLT := Nat.lt_of_lt_of_le XLT hf.size
          clear hf
          go_wp2
          go_roundw
          case rel => exact ⟨k + 1, _, _, _, _, _, rfl, rfl, by go_num, by omega, HP.out⟩
          case measure => simp [intOf]; omega
      · have HW := Lib.hid (HPI.out.keep ((Fr.refl No wr).alloc (.cells #[.int .i64 1, .int .i64 jb] 47)))
        have hX := Blk.new wr 47 #[.int .i64 1, .int .i64 jb]
        have hlc := HPI.out.cap.blk.lt
        have hlr := HPI.out.lt.2.2
        go_wp2_with fail
        obtain ⟨wx, hwx⟩ : ∃ wx, wx = wr.alloc (.cells #[.int .i64 1, .int .i64 jb] 47) := ⟨_, rfl⟩
        rw [← hwx] at HW hX ⊢
        clear hwx
        obtain ⟨X, hXX⟩ : ∃ X, X = wr.heap.size := ⟨_, rfl⟩
        simp only [← hXX] at hX hlc hlr ⊢
        have XLT := hX.lt
        have KX := hX.cell 1
        simp only [List.getElem?_toArray, List.getElem?_cons_succ, List.getElem?_cons_zero] at KX
        clear hX hXX cd cj
        have PID := Lib.hid (HW.out.keep ((Fr.refl No wx).drew))
        have hXc : X ≠ c := by omega
        have hXr : X ≠ r := by omega
        have KD : wx.drew.cell? ⟨X, 1, none⟩ = some (.int .i64 jb) := KX
        go_region_held3 (fun w' => w'.cell? ⟨X, 1, none⟩ = some (.int .i64 jb)) (first | go_keep | exact k2 | exact k1 | exact KD)
          (first
            | (go_at_call 17; refine (give_any c s wx.drew jb PID.out.cap).mono ?_; rintro x w1 ⟨rfl, hc1, hf1⟩; have k1 := (hf1.cell (p := ⟨X, 1, none⟩) XLT hXc).trans KD)
            | (go_at_call 21; refine (rgive_any b e r s w1 jb (PID.out.ref1 hf1)).mono ?_; rintro x w2 ⟨rfl, hr2, hf2⟩; have k2 := (hf2.cell (p := ⟨X, 1, none⟩) (Nat.lt_of_lt_of_le XLT hf1.size) hXr).trans k1))
        have HP := Lib.hid (PID.out.step hc1 hf1 hr2 hf2)
        replace XLT := Nat.lt_of_lt_of_le (Nat.lt_of_lt_of_le XLT hf1.size) hf2.size
        replace KX := k2
        clear hc1 hf1 hr2 hf2 k1 k2 KD HW PID HPI
        generalize s.giveE jb = te at *
        generalize s.giveS jb = s2 at *
        rcases HP.out.olds with ⟨rfl, rfl⟩ | ⟨oc, ob, _, _, _, rfl, rfl, _⟩
        · go_wp2_with fail
          refine (shows_any c b e r s2 _ jb HP.out.cap HP.out.ref).mono ?_
          rintro x w5 ⟨rfl, hf⟩
          replace HP := Lib.hid (HP.out.keep hf)
          replace KX := (hf.cell (p := ⟨X, 1, none⟩) XLT (fun x => x)).trans KX
          replace XLT := Nat.lt_of_lt_of_le XLT hf.size
          clear hf
          go_wp2_with fail
          refine (shows_any c b e r s2 _ job HP.out.cap HP.out.ref).mono ?_
          rintro x w6 ⟨rfl, hf⟩
          replace HP := Lib.hid (HP.out.keep hf)
          replace KX := (hf.cell (p := ⟨X, 1, none⟩) XLT (fun x => x)).trans KX
          replace XLT := Nat.lt_of_lt_of_le XLT hf.size
          clear hf
          go_wp2
          go_roundw
          case rel => exact ⟨k + 1, _, _, _, _, _, rfl, rfl, by go_num, by omega, HP.out⟩
          case measure => simp [intOf]; omega
        · go_wp2_with fail
          refine (shows_any c b e r s2 _ jb HP.out.cap HP.out.ref).mono ?_
          rintro x w5 ⟨rfl, hf⟩
          replace HP := Lib.hid (HP.out.keep hf)
          replace KX := (hf.cell (p := ⟨X, 1, none⟩) XLT (fun x => x)).trans KX
          replace XLT := Nat.lt_of_lt_of_le XLT hf.size
          clear hf
          go_wp2_with fail
          refine (shows_any c b e r s2 _ job HP.out.cap HP.out.ref).mono ?_
          rintro x w6 ⟨rfl, hf⟩
          replace HP := Lib.hid (HP.out.keep hf)
          replace KX := (hf.cell (p := ⟨X, 1, none⟩) XLT (fun x => x)).trans KX
          replace XLT := Nat.lt_of_lt_of_le XLT hf.size
          clear hf
          obtain ⟨oe, or_, so, hoc, hor⟩ := HP.out.oldc
          have HOC := Lib.hid hoc
          have HOR := Lib.hid hor
          clear hoc hor
          go_wp2_with fail
          refine (shows_any oc ob oe or_ so _ jb HOC.out HOR.out).mono ?_
          rintro x w7 ⟨rfl, hf⟩
          replace HP := Lib.hid (HP.out.keep hf)
          replace KX := (hf.cell (p := ⟨X, 1, none⟩) XLT (fun x => x)).trans KX
          replace XLT := Nat.lt_of_lt_of_le XLT hf.size
          clear hf
          go_wp2
          go_roundw
          case rel => exact ⟨k + 1, _, _, _, _, _, rfl, rfl, by go_num, by omega, HP.out⟩
          case measure => simp [intOf]; omega
      · have HW := Lib.hid (HPI.out.keep ((Fr.refl No wr).alloc (.cells #[.int .i64 2, .int .i64 jb] 47)))
        have hX := Blk.new wr 47 #[.int .i64 2, .int .i64 jb]
        go_wp2_with fail
        obtain ⟨wx, hwx⟩ : ∃ wx, wx = wr.alloc (.cells #[.int .i64 2, .int .i64 jb] 47) := ⟨_, rfl⟩
        rw [← hwx] at HW hX ⊢
        clear hwx
        obtain ⟨X, hXX⟩ : ∃ X, X = wr.heap.size := ⟨_, rfl⟩
        simp only [← hXX] at hX ⊢
        have XLT := hX.lt
        have KX := hX.cell 1
        simp only [List.getElem?_toArray, List.getElem?_cons_succ, List.getElem?_cons_zero] at KX
        clear hX hXX cd cj
        refine (copy_any c s wx HW.out.cap).mono ?_
        rintro x w1 ⟨rfl, hc1, hf1⟩
        have HRR := Lib.hid (HW.out.ref.fr hf1 (fun x => x) (fun x => x) (fun x => x))
        go_wp2_with fail
        refine (rcopy_any b e r s w1 HRR.out).mono ?_
        rintro x w2 ⟨b2, e2, r2, rfl, q1, q2, q3, q4, q5, hr2, hf2⟩
        have HP := Lib.hid (HW.out.copy hc1 hf1 hr2 hf2 q1 q2 q3 q4 q5)
        replace KX := (hf2.cell (p := ⟨X, 1, none⟩) (Nat.lt_of_lt_of_le XLT hf1.size) (fun x => x)).trans ((hf1.cell (p := ⟨X, 1, none⟩) XLT (fun x => x)).trans KX)
        replace XLT := Nat.lt_of_lt_of_le (Nat.lt_of_lt_of_le XLT hf1.size) hf2.size
        clear hc1 hf1 hr2 hf2 q1 q2 q3 q4 q5 HRR HW HPI
        generalize wx.heap.size = c2 at *
        go_wp2_with fail
        refine (shows_any c2 b2 e2 r2 s _ jb HP.out.cap HP.out.ref).mono ?_
        rintro x w5 ⟨rfl, hf⟩
        replace HP := Lib.hid (HP.out.keep hf)
        replace KX := (hf.cell (p := ⟨X, 1, none⟩) XLT (fun x => x)).trans KX
        replace XLT := Nat.lt_of_lt_of_le XLT hf.size
        clear hf
        go_wp2_with fail
        refine (shows_any c2 b2 e2 r2 s _ job HP.out.cap HP.out.ref).mono ?_
        rintro x w6 ⟨rfl, hf⟩
        replace HP := Lib.hid (HP.out.keep hf)
        replace KX := (hf.cell (p := ⟨X, 1, none⟩) XLT (fun x => x)).trans KX
        replace XLT := Nat.lt_of_lt_of_le XLT hf.size
        clear hf
        obtain ⟨oe, or_, so, hoc, hor⟩ := HP.out.oldc
        have HOC := Lib.hid hoc
        have HOR := Lib.hid hor
        clear hoc hor
        go_wp2_with fail
        refine (shows_any _ _ oe or_ so _ jb HOC.out HOR.out).mono ?_
        rintro x w7 ⟨rfl, hf⟩
        replace HP := Lib.hid (HP.out.keep hf)
        replace KX := (hf.cell (p := ⟨X, 1, none⟩) XLT (fun x => x)).trans KX
        replace XLT := Nat.lt_of_lt_of_le XLT hf.size
        clear hf
        go_wp2
        go_roundw
        case rel => exact ⟨k + 1, _, _, _, _, _, rfl, rfl, by go_num, by omega, HP.out⟩
        case measure => simp [intOf]; omega
      · have HP := Lib.hid (HPI.out.keep ((Fr.refl No wr).alloc (.cells #[.int .i64 d, .int .i64 jb] 47)))
        have hX := Blk.new wr 47 #[.int .i64 d, .int .i64 jb]
        go_wp2_with fail
        obtain ⟨wx, hwx⟩ : ∃ wx, wx = wr.alloc (.cells #[.int .i64 d, .int .i64 jb] 47) := ⟨_, rfl⟩
        rw [← hwx] at HP hX ⊢
        clear hwx
        obtain ⟨X, hXX⟩ : ∃ X, X = wr.heap.size := ⟨_, rfl⟩
        simp only [← hXX] at hX ⊢
        have XLT := hX.lt
        have KX := hX.cell 1
        simp only [List.getElem?_toArray, List.getElem?_cons_succ, List.getElem?_cons_zero] at KX
        clear hX hXX cd cj HPI
        rcases HP.out.olds with ⟨rfl, rfl⟩ | ⟨oc, ob, _, _, _, rfl, rfl, _⟩
        · refine (shows_any c b e r s _ jb HP.out.cap HP.out.ref).mono ?_
          rintro x w5 ⟨rfl, hf⟩
          replace HP := Lib.hid (HP.out.keep hf)
          replace KX := (hf.cell (p := ⟨X, 1, none⟩) XLT (fun x => x)).trans KX
          replace XLT := Nat.lt_of_lt_of_le XLT hf.size
          clear hf
          go_wp2_with fail
          refine (shows_any c b e r s _ job HP.out.cap HP.out.ref).mono ?_
          rintro x w6 ⟨rfl, hf⟩
          replace HP := Lib.hid (HP.out.keep hf)
          replace KX := (hf.cell (p := ⟨X, 1, none⟩) XLT (fun x => x)).trans KX
          replace XLT := Nat.lt_of_lt_of_le XLT hf.size
          clear hf
          go_wp2
          go_roundw
          case rel => exact ⟨k + 1, _, _, _, _, _, rfl, rfl, by go_num, by omega, HP.out⟩
          case measure => simp [intOf]; omega
        · refine (shows_any c b e r s _ jb HP.out.cap HP.out.ref).mono ?_
          rintro x w5 ⟨rfl, hf⟩
          replace HP := Lib.hid (HP.out.keep hf)
          replace KX := (hf.cell (p := ⟨X, 1, none⟩) XLT (fun x => x)).trans KX
          replace XLT := Nat.lt_of_lt_of_le XLT hf.size
          clear hf
          go_wp2_with fail
          refine (shows_any c b e r s _ job HP.out.cap HP.out.ref).mono ?_
          rintro x w6 ⟨rfl, hf⟩
          replace HP := Lib.hid (HP.out.keep hf)
          replace KX := (hf.cell (p := ⟨X, 1, none⟩) XLT (fun x => x)).trans KX
          replace XLT := Nat.lt_of_lt_of_le XLT hf.size
          clear hf
          obtain ⟨oe, or_, so, hoc, hor⟩ := HP.out.oldc
          have HOC := Lib.hid hoc
          have HOR := Lib.hid hor
          clear hoc hor
          go_wp2_with fail
          refine (shows_any oc ob oe or_ so _ jb HOC.out HOR.out).mono ?_
          rintro x w7 ⟨rfl, hf⟩
          replace HP := Lib.hid (HP.out.keep hf)
          replace KX := (hf.cell (p := ⟨X, 1, none⟩) XLT (fun x => x)).trans KX
          replace XLT := Nat.lt_of_lt_of_le XLT hf.size
          clear hf
          go_wp2
          go_roundw
          case rel => exact ⟨k + 1, _, _, _, _, _, rfl, rfl, by go_num, by omega, HP.out⟩
          case measure => simp [intOf]; omega
    · have PI2 := Lib.hid PI
      clear PI
      go_wp2_with fail
      refine (works_any _).mono ?_
      rintro x w1 ⟨rfl, hf⟩
      go_wp2
      go_ret
      exact ⟨rfl, PI2.out.fr.then0 hf⟩
end Go.Proofs.Ytjgjbjigghfnbaa
