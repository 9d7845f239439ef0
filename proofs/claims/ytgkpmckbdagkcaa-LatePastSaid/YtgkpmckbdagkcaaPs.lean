/- LatePast: the walk. -/
import Derived.Test.YtgkpmckbdagkcaaPp
import Derived.BigQuiet
namespace Go.Proofs.Ytgkpmckbdagkcaa
open Go.RowKit Go.Wk

theorem get_past {s : LS} (h : s.ok) (now : Int) {k : Nat} (hk : k < s.l.length) :
    (k < pastN s now → getV (pastS s now) (idN s k) = 0 ∧ getB (pastS s now) (idN s k) = false) ∧ (pastN s now ≤ k → getV (pastS s now) (idN s k) = atN s k ∧ getB (pastS s now) (idN s k) = true) := by
  refine ⟨fun hlt => ?_, fun hge => ?_⟩
  · have hn : mkOf (pastS s now).l (idN s k) = none := by
      apply mkOf_none
      intro e he
      obtain ⟨j, hj, rfl⟩ := List.mem_iff_getElem.1 he
      have hj' : j < s.l.length - pastN s now := by rw [← pastS_len]; exact hj
      have e1 : (pastS s now).l[j] = s.l[pastN s now + j]'(by omega) := List.getElem_drop ..
      rw [e1]
      have e2 : idN s k = s.l[k].id := by unfold idN; simp [hk]
      rw [e2]
      have := List.pairwise_iff_getElem.1 h.nodup k (pastN s now + j) hk (by omega) (by omega)
      exact fun h => this h.symm
    unfold getV getB
    rw [hn]
    exact ⟨rfl, rfl⟩
  · have hj : k - pastN s now < (pastS s now).l.length := by rw [pastS_len]; omega
    have e1 : idN (pastS s now) (k - pastN s now) = idN s k := by rw [pastS_id]; congr 1; omega
    have e2 : atN (pastS s now) (k - pastN s now) = atN s k := by rw [pastS_at]; congr 1; omega
    have h1 := getV_get (pastS_ok h now) hj
    have h2 := getB_get (pastS_ok h now) hj
    unfold idN atN at *
    rw [e1] at h1 h2
    rw [e2] at h1
    exact ⟨h1, h2⟩

theorem ar_lt {k m N : Nat} (h1 : ¬ k < m) (h2 : k < N) : k - m < N - m := by omega
theorem ar_id {k m : Nat} (h1 : ¬ k < m) : m + (k - m) = k := by omega
theorem ar_sum {m N : Nat} (h : m ≤ N) (hN : N ≤ 10000) : IntKind.i64.wrap ((m : Int) + ((N - m : Nat) : Int)) = (N : Int) ∧ wrap64 ((m : Int) + ((N - m : Nat) : Int)) = (N : Int) := by
  have e : ((m : Int) + ((N - m : Nat) : Int)) = (N : Int) := by omega
  rw [e]
  exact ⟨by simp only [IntKind.wrap_i64]; omega, by unfold wrap64; omega⟩
theorem ar_sub {k m N : Nat} (h1 : ¬ k < m) (h2 : k < N) (hN : N ≤ 10000) : IntKind.i64.wrap ((k : Int) - (m : Int)) = ((k - m : Nat) : Int) ∧ wrap64 ((k : Int) - (m : Int)) = ((k - m : Nat) : Int) := by
  have e : ((k : Int) - (m : Int)) = ((k - m : Nat) : Int) := by omega
  rw [e]
  exact ⟨by simp only [IntKind.wrap_i64]; omega, by unfold wrap64; omega⟩

set_option maxRecDepth 100000 in
set_option maxHeartbeats 4000000 in
theorem latePast_walk (A : Option Addr) (n c : Nat) (es : List (List Int)) (now : Int) (w : World) (h : RowF kStp 24 w A n c es) (hn : n ≤ 9223372036854775807) :
    Calls Try.prog 6 #[.slice A n c, .int .i64 now] w fun e w' => e = .returned (.bool true) ∧ Fr No w w' := by
  have HR := Lib.hid h
  clear h
  by_cases b1 : 80 < n
  · go_enter Try.func6, Try.ntmps6
    go_wp2_with fail
    refine (works_any _).mono ?_
    rintro x w1 ⟨rfl, hf⟩
    go_wp2
    go_ret
    exact ⟨rfl, hf⟩
  have hn80 : n ≤ 80 := by omega
  go_enter Try.func6, Try.ntmps6
  go_wp2_with fail
  refine (filled_any A n c es _ HR.out hn80).mono ?_
  rintro x w1 ⟨bx, D, rfl, OW⟩
  generalize fillS (stps es) = s at *
  have HO := Lib.hid OW
  clear OW
  have HOK := Lib.hid HO.out.at_.ok
  have HGP := Lib.hid (fun k hk => get_past HOK.out now (k := k) hk)
  have HLT := Lib.hid (fun j hj => pastN_lt HOK.out (now := now) (j := j) hj)
  have HGE := Lib.hid (fun j hj hl => pastN_ge HOK.out (now := now) (j := j) hj hl)
  have HPG := Lib.hid (fun k hk => pastG_get (s := s) (now := now) (k := k) hk)
  have HPI := Lib.hid (fun i => pastS_id s now i)
  have HPL := Lib.hid (pastS_len s now)
  have hml := pastN_le s now
  have hNl := HO.out.at_.n
  go_wp2_with fail
  refine (Copy_at bx D s _ HO.out.at_).mono ?_
  rintro x w2 ⟨b', D', rfl, hl, hD, hf⟩
  have T := Lib.hid (Two.of HO.out hl hD hf)
  clear HO hl hD hf
  have L1 := Lib.hid (fun k (hk : D k) => T.out.x.at_.lt hk)
  go_wp2_with fail
  refine (Ids_at bx D s _ T.out.x.at_).mono ?_
  rintro x w3 ⟨G, gc, rfl, ho, hgc, hf⟩
  replace T := Lib.hid (T.out.fr0 hf)
  have HO := Lib.hid ho
  clear ho hf
  have P := Past_at bx D s now w3 T.out.x.at_
  unfold PastAt at P
  have HP := Lib.hid P
  clear P
  go_wp2_with fail
  refine HP.out.mono ?_
  rintro x w4 ⟨G2, gc2, rfl, ho2, hgc2, hl, hf⟩
  replace T := Lib.hid (T.out.past hl hf)
  replace HO := Lib.hid (own_fr HO.out hf (own_nd HO.out L1.out))
  have HO2 := Lib.hid ho2
  clear hl hf ho2 HP
  have I := Lib.hid (Ids_at bx D (pastS s now) w4 T.out.x.at_)
  have J := Lib.hid (fun X hX => Len_at bx D (pastS s now) X hX)
  rw [HPL.out] at I J
  go_wp2_with fail
  refine I.out.mono ?_
  rintro x w5 ⟨G3, gc3, rfl, ho3, hgc3, hf⟩
  replace T := Lib.hid (T.out.fr0 hf)
  have R1 := Lib.hid ((Reads.of_own HO.out).fr0 hf)
  have R2 := Lib.hid ((Reads.of_own HO2.out).fr0 hf)
  have R3 := Lib.hid (Reads.of_own ho3)
  clear hf ho3 HO HO2 I
  obtain ⟨N, hN⟩ : ∃ N, N = s.l.length := ⟨_, rfl⟩
  obtain ⟨m, hm⟩ : ∃ m, m = pastN s now := ⟨_, rfl⟩
  rw [← hN] at hml hNl HPL
  rw [← hm] at HPL
  rw [← hN, ← hm] at R3 J
  rw [← hN] at R1 HGP HGE
  rw [← hm] at hml HGP HLT HGE HPG HPI R2
  have HNN := Lib.hid hN
  rw [← hN, ← hm]
  clear hN hm
  obtain ⟨hsum, hsum2⟩ := ar_sum hml hNl
  go_wp2_with fail
  refine (J.out _ T.out.x.at_).mono ?_
  rintro x _ ⟨rfl, rfl⟩
  clear J
  go_wp2
  clear hsum hsum2
  go_loopw [10, 11] (fun l i wr => ∃ (k : Nat) (L : Int), l = .int .i64 L ∧ i = .int .i64 k ∧ k ≤ N ∧ Hid (k < N → L ≤ atN s k) ∧ Fr No w5 wr) (fun l i _ => N - (intOf i).toNat)
  case atStart => exact ⟨0, -1, rfl, rfl, Nat.zero_le _, Lib.hid (fun h0 => by have := atN_rng HOK.out (i := 0) (by rw [← HNN.out]; exact h0); omega), Fr.refl _ _⟩
  case round =>
    obtain ⟨k, L, rfl, rfl, hk, HL, hf⟩ := hrel
    by_cases hlt : k < N
    · have hls : k < s.l.length := by rw [← HNN.out]; exact hlt
      obtain ⟨g1, o1, rfl, hg1, a1⟩ := (R1.out.fr0 hf).int_at (kd := .i64) (xs := ids s.l) hlt
      rw [ids_get _ _ hls] at a1
      have hL := HL.out hlt
      obtain ⟨hr1, hr2⟩ := atN_rng HOK.out hls
      have hB := getB_get HOK.out hls
      have hV : getV s (idN s k) = atN s k := getV_get HOK.out hls
      have hX := fits_get HOK.out hls
      have HNX := Lib.hid (show k + 1 < N → atN s k ≤ atN s (k + 1) from fun h => atN_le HOK.out (by omega) (by rw [← HNN.out]; exact h))
      have Q1 := Lib.hid (Get_at b' D' s (idN s k) hX wr (T.out.y.at_.fr0 hf))
      rw [hV, show getB s (idN s k) = true from hB] at Q1
      have HF := Lib.hid hf
      obtain ⟨gp1, gp2⟩ := HGP.out k hlt
      change wr.cell? _ = some (.int .i64 (idN s k)) at a1
      clear hf hB hV hls
      by_cases hkm : k < m
      · obtain ⟨e1, e2⟩ := gp1 hkm
        have hnow := HLT.out k hkm
        have Q2 := Lib.hid (fun X hX' => Get_at bx D (pastS s now) (idN s k) hX X hX')
        rw [e1, e2] at Q2
        obtain ⟨g2, o2, rfl, hg2, a2⟩ := (R2.out.fr0 HF.out).int_at (kd := .i64) (xs := pastG s now) hkm
        rw [HPG.out k hkm] at a2
        clear gp1 gp2 e1 e2
        generalize atN s k = d at *
        generalize idN s k = x at *
        have t1 : (k : Int) < (m : Int) := by omega
        have t2 : decide ((m : Int) ≤ (k : Int)) = false := decide_eq_false (by omega)
        have t5 : decide (m ≤ k) = false := decide_eq_false (by omega)
        have t3 : decide (now ≤ d) = false := decide_eq_false (by omega)
        have t4 : (x != x) = false := by simp
        go_wp2_with fail
        refine Q1.out.mono ?_
        rintro e w6 ⟨rfl, hf⟩
        replace a1 := (hf.cell (p := ⟨g1, o1 + k, none⟩) hg1 (fun x => x)).trans a1
        replace a2 := (hf.cell (p := ⟨g2, o2 + k, none⟩) hg2 (fun x => x)).trans a2
        replace HF := Lib.hid (HF.out.then0 hf)
        clear hf Q1
        go_wp2
        go_quiet (fail)
        have HF' := Lib.hid (HF.out.drewN nq)
        have TX := Lib.hid (T.out.x.at_.fr0 HF'.out)
        go_wp2_with fail
        refine (Q2.out _ TX.out).mono ?_
        rintro e w7 ⟨rfl, hf⟩
        have F := Lib.hid (HF'.out.then0 hf)
        clear hf Q2 TX
        go_wp2
        go_roundw
        case rel => exact ⟨k + 1, d, rfl, by go_num, by omega, HNX, F.out⟩
        case measure => simp [intOf]; omega
      · obtain ⟨e1, e2⟩ := gp2 (by omega)
        have hnow := HGE.out k (by omega) hlt
        have Q2 := Lib.hid (fun X hX' => Get_at bx D (pastS s now) (idN s k) hX X hX')
        rw [e1, e2] at Q2
        have hlt3 : k - m < N - m := ar_lt hkm hlt
        obtain ⟨g3, o3, rfl, hg3, a3⟩ := (R3.out.fr0 HF.out).int_at (kd := .i64) (xs := ids (pastS s now).l) hlt3
        rw [ids_get _ _ (by rw [HPL.out]; exact hlt3)] at a3
        change wr.cell? _ = some (.int .i64 (idN (pastS s now) (k - m))) at a3
        rw [HPI.out, ar_id hkm] at a3
        obtain ⟨hsub, hsub2⟩ := ar_sub hkm hlt hNl
        clear gp1 gp2 e1 e2
        generalize atN s k = d at *
        generalize idN s k = x at *
        have t1 : decide ((k : Int) < (m : Int)) = false := decide_eq_false (by omega)
        have t5 : decide (k < m) = false := decide_eq_false (by omega)
        have t2 : (m : Int) ≤ (k : Int) := by omega
        have t6 : m ≤ k := by omega
        have t3 : decide (d < now) = false := decide_eq_false (by omega)
        have t4 : (x != x) = false := by simp
        go_wp2_with fail
        refine Q1.out.mono ?_
        rintro e w6 ⟨rfl, hf⟩
        replace a1 := (hf.cell (p := ⟨g1, o1 + k, none⟩) hg1 (fun x => x)).trans a1
        replace a3 := (hf.cell (p := ⟨g3, o3 + (k - m), none⟩) hg3 (fun x => x)).trans a3
        replace HF := Lib.hid (HF.out.then0 hf)
        clear hf Q1
        go_wp2
        go_quiet (fail)
        clear hsub hsub2
        have HF' := Lib.hid (HF.out.drewN nq)
        have TX := Lib.hid (T.out.x.at_.fr0 HF'.out)
        go_wp2_with fail
        refine (Q2.out _ TX.out).mono ?_
        rintro e w7 ⟨rfl, hf⟩
        have F := Lib.hid (HF'.out.then0 hf)
        have hdd : (d != d) = false := by simp
        clear hf Q2 TX
        go_wp2
        go_roundw
        case rel => exact ⟨k + 1, d, rfl, by go_num, by omega, HNX, F.out⟩
        case measure => simp [intOf]; omega
    · have HF := Lib.hid hf
      clear hf HL
      go_wp2_with fail
      refine (works_any _).mono ?_
      rintro e w6 ⟨rfl, hf⟩
      replace T := Lib.hid ((T.out.fr0 HF.out).fr0 hf)
      clear hf
      go_wp2
      go_ret
      exact ⟨rfl, T.out.x.fr⟩
end Go.Proofs.Ytgkpmckbdagkcaa
