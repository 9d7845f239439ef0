/- LateNext: the walk. -/
import Derived.Test.YtgkpmckbdagkcaaPp
namespace Go.Proofs.Ytgkpmckbdagkcaa
open Go.RowKit Go.Wk

/-- The next deadline, then one second later. -/
theorem next_facts {s : LS} (h : s.ok) (hne : s.l ≠ []) : nextB s = true ∧ 0 ≤ nextV s ∧ nextV s ≤ 4611686018427387904 ∧ pastN s (nextV s) = 0 ∧ pastS s (nextV s) = s ∧ 0 < pastN s (nextV s + 1) ∧
    (∀ k, k < pastN s (nextV s + 1) → getV s (idN s k) = nextV s ∧ getB s (idN s k) = true ∧ fits (idN s k)) ∧
    (nextB (pastS s (nextV s + 1)) = true → nextV s < nextV (pastS s (nextV s + 1))) := by
  have hl := List.length_pos_iff.2 hne
  have e : nextV s = atN s 0 := by unfold nextV; rw [if_neg hne]; rfl
  obtain ⟨r1, r2⟩ := atN_rng h hl
  have e0 : pastN s (atN s 0) = 0 := pastN_eq h (Nat.zero_le _) (fun j hj => by omega) (fun _ => Int.le_refl _)
  rw [e]
  refine ⟨?_, r1, r2, e0, ?_, ?_, fun k hk => ?_, fun hb => ?_⟩
  · unfold nextB
    cases hs : s.l with
    | nil => exact absurd hs hne
    | cons => rfl
  · show (⟨s.l.drop (pastN s (atN s 0)), s.seq⟩ : LS) = s
    rw [e0]; rfl
  · rcases Nat.eq_zero_or_pos (pastN s (atN s 0 + 1)) with h0 | h0
    · have := pastN_ge h (now := atN s 0 + 1) (j := 0) (by omega) hl
      omega
    · exact h0
  · have hk' : k < s.l.length := Nat.lt_of_lt_of_le hk (pastN_le s _)
    have h1 := pastN_lt h hk
    have h2 := atN_le h (Nat.zero_le k) hk'
    exact ⟨(getV_get h hk').trans (by show atN s k = _; omega), getB_get h hk', fits_get h hk'⟩
  · have hl2 : 0 < (pastS s (atN s 0 + 1)).l.length := by
      unfold nextB at hb
      cases hs : (pastS s (atN s 0 + 1)).l with
      | nil => rw [hs] at hb; cases hb
      | cons => exact Nat.succ_pos _
    have e2 : nextV (pastS s (atN s 0 + 1)) = atN (pastS s (atN s 0 + 1)) 0 := by unfold nextV; rw [if_neg (List.length_pos_iff.1 hl2)]; rfl
    rw [e2, pastS_at]
    rw [pastS_len] at hl2
    have := pastN_ge h (now := atN s 0 + 1) (j := pastN s (atN s 0 + 1) + 0) (by omega) (by omega)
    omega

set_option maxRecDepth 100000 in
set_option maxHeartbeats 4000000 in
theorem lateNext_walk (A : Option Addr) (n c : Nat) (es : List (List Int)) (w : World) (h : RowF kStp 24 w A n c es) (hn : n ≤ 9223372036854775807) :
    Calls Try.prog 8 #[.slice A n c] w fun e w' => e = .returned (.bool true) ∧ Fr No w w' := by
  have HR := Lib.hid h
  clear h
  by_cases b1 : 80 < n
  · go_enter Try.func8, Try.ntmps8
    go_wp2_with fail
    refine (works_any _).mono ?_
    rintro x w1 ⟨rfl, hf⟩
    go_wp2
    go_ret
    exact ⟨rfl, hf⟩
  have hn80 : n ≤ 80 := by omega
  go_enter Try.func8, Try.ntmps8
  go_wp2_with fail
  refine (filled_any A n c es _ HR.out hn80).mono ?_
  rintro x w1 ⟨b, D, rfl, OW⟩
  generalize fillS (stps es) = s at *
  have HO := Lib.hid OW
  clear OW
  by_cases hne : s.l = []
  · have e1 : nextV s = 0 := by unfold nextV; rw [if_pos hne]
    have e2 : nextB s = false := by unfold nextB; rw [hne]; rfl
    have e3 : s.l.length = 0 := by rw [hne]; rfl
    go_wp2_with fail
    refine (Next_at b D s _ HO.out.at_).mono ?_
    rintro x w2 ⟨rfl, hf⟩
    rw [e1, e2]
    replace HO := Lib.hid (HO.out.fr0 hf)
    clear hf e1 e2 hne
    go_wp2_with fail
    refine (Len_at b D s _ HO.out.at_).mono ?_
    rintro x _ ⟨rfl, rfl⟩
    rw [e3]
    clear e3
    go_wp2_with fail
    refine (works_any _).mono ?_
    rintro e w4 ⟨rfl, hf⟩
    replace HO := Lib.hid (HO.out.fr0 hf)
    clear hf
    go_wp2
    go_ret
    exact ⟨rfl, HO.out.fr⟩
  · obtain ⟨e1, r1, r2, e2, e3, hpos, hall, hmore⟩ := next_facts HO.out.at_.ok hne
    have HPN := Lib.hid (pastG_len s (nextV s + 1))
    have HPG := Lib.hid (fun k hk => pastG_get (s := s) (now := nextV s + 1) (k := k) hk)
    have HALL := Lib.hid hall
    have HMORE := Lib.hid hmore
    have hpl : pastN s (nextV s + 1) ≤ 10000 := by have := pastN_le s (nextV s + 1); have := HO.out.at_.n; omega
    clear hne hall hmore
    go_wp2_with fail
    refine (Next_at b D s _ HO.out.at_).mono ?_
    rintro x w2 ⟨rfl, hf⟩
    rw [e1]
    replace HO := Lib.hid (HO.out.fr0 hf)
    clear hf e1
    have P1 := Lib.hid (fun X hX => Past_at b D s (nextV s) X hX)
    have P2 := Lib.hid (fun X hX => Past_at b D s (nextV s + 1) X hX)
    unfold PastAt at P1 P2
    rw [e2, e3] at P1
    clear e2 e3
    generalize pastG s (nextV s) = g0 at *
    generalize pastG s (nextV s + 1) = gl at *
    generalize pastS s (nextV s + 1) = s2 at *
    obtain ⟨m, hm⟩ : ∃ m, m = pastN s (nextV s + 1) := ⟨_, rfl⟩
    rw [← hm] at P2 HPN HPG HALL hpos hpl
    obtain ⟨v, hv⟩ : ∃ v, v = nextV s := ⟨_, rfl⟩
    rw [← hv] at P1 P2 HALL HMORE r1 r2 ⊢
    clear hv hm
    go_wp2_with fail
    refine (Copy_at b D s _ HO.out.at_).mono ?_
    rintro x w3 ⟨b', D', rfl, hl, hD, hf⟩
    have T := Lib.hid (Two.of HO.out hl hD hf)
    clear HO hl hD hf
    go_wp2_with fail
    refine (P1.out _ T.out.x.at_).mono ?_
    rintro x w4 ⟨G0, gc0, rfl, _, _, hl, hf⟩
    replace T := Lib.hid (T.out.past hl hf)
    clear hl hf
    go_wp2_with fail
    refine (P2.out _ T.out.x.at_).mono ?_
    rintro x w5 ⟨G, gc, rfl, ho, _, hl, hf⟩
    replace T := Lib.hid (T.out.past hl hf)
    have R := Lib.hid (Reads.of_own ho)
    clear hl hf ho
    go_wp2
    go_loopw [8] (fun i wr => ∃ k : Nat, i = .int .i64 k ∧ k ≤ m ∧ Fr No w5 wr) (fun i _ => m - (intOf i).toNat)
    case atStart => exact ⟨0, rfl, Nat.zero_le _, Fr.refl _ _⟩
    case round =>
      obtain ⟨k, rfl, hk, hf⟩ := hrel
      by_cases hlt : k < m
      · obtain ⟨g, off, rfl, hgl, a0⟩ := (R.out.fr0 hf).int_at (kd := .i64) (xs := gl) hlt
        rw [HPG.out k hlt] at a0
        obtain ⟨q1, q2, q3⟩ := HALL.out k hlt
        generalize idN s k = x at *
        have G1 := Lib.hid (Get_at b' D' s x q3 wr (T.out.y.at_.fr0 hf))
        rw [q1, q2] at G1
        have hvv : (v != v) = false := by simp
        have HF := Lib.hid hf
        clear q1 q2 q3 hf
        go_wp2_with fail
        refine G1.out.mono ?_
        rintro e w6 ⟨rfl, hf⟩
        have F := Lib.hid (HF.out.then0 hf)
        clear hf
        go_wp2
        go_roundw
        case rel => exact ⟨k + 1, by go_num, by omega, F.out⟩
        case measure => simp [intOf]; omega
      · have HT := Lib.hid (T.out.fr0 hf)
        clear hf
        go_wp2_with fail
        refine (Next_at b D s2 _ HT.out.x.at_).mono ?_
        rintro x w7 ⟨rfl, hf⟩
        replace HT := Lib.hid (HT.out.fr0 hf)
        clear hf
        generalize nextV s2 = v2 at *
        by_cases hb2 : nextB s2 = true
        · have hv2 := HMORE.out hb2
          rw [hb2]
          clear hb2
          go_wp2_with fail
          refine (works_any _).mono ?_
          rintro e w8 ⟨rfl, hf⟩
          replace HT := Lib.hid (HT.out.fr0 hf)
          clear hf
          go_wp2
          go_ret
          exact ⟨rfl, HT.out.x.fr⟩
        · rw [Bool.not_eq_true] at hb2
          rw [hb2]
          clear hb2
          go_wp2_with fail
          refine (works_any _).mono ?_
          rintro e w8 ⟨rfl, hf⟩
          replace HT := Lib.hid (HT.out.fr0 hf)
          clear hf
          go_wp2
          go_ret
          exact ⟨rfl, HT.out.x.fr⟩
end Go.Proofs.Ytgkpmckbdagkcaa
