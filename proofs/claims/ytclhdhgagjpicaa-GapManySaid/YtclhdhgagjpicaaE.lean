/- The contracts of package gap: Near; slices.BinarySearch. -/
import Derived.Test.YtclhdhgagjpicaaD
namespace Go.Proofs.Ytclhdhgagjpicaa
open Go.RowKit Go.Wk

theorem nan56 (x : Int) (w : World) : Calls Try.prog 56 #[.int .i64 x] w fun e w' => e = .returned (.bool false) ∧ w = w' := by
  have hx : (x != x) = false := by simp
  go_enter Try.func56, Try.ntmps56
  go_wp2
  go_ret
  exact ⟨ret1b (by simp), rfl⟩
theorem nan53 (x : Int) (w : World) : Calls Try.prog 53 #[.int .i64 x] w fun e w' => e = .returned (.bool false) ∧ w = w' := by
  have hx : (x != x) = false := by simp
  go_enter Try.func53, Try.ntmps53
  go_wp2
  go_ret
  exact ⟨ret1b (by simp), rfl⟩
theorem less_any (x y : Int) (w : World) : Calls Try.prog 51 #[.int .i64 x, .int .i64 y] w fun e w' => e = .returned (.bool (decide (x < y))) ∧ w = w' := by
  go_enter Try.func51, Try.ntmps51
  go_wp2_with (go_at_call 56; refine (nan56 _ _).mono ?_; rintro e w1 ⟨rfl, rfl⟩)
  go_ret
  exact ⟨ret1b (by simp), rfl⟩

/-- What the search says of a list in order. -/
structure Srch (l : List Int) (t : Int) (i : Nat) : Prop where
  le : i ≤ l.length
  lo : ∀ k, k < i → l.getD k 0 < t
  hi : ∀ k, i ≤ k → k < l.length → t ≤ l.getD k 0

theorem bs_any (A : Option Addr) (n c B : Nat) (l : List Int) (t : Int) (w : World) (h : Reads w B 1 A n (l.map (Value.int .i64))) (hg : Good l) :
    Calls Try.prog 43 #[.slice A n c, .int .i64 t] w fun x w' => (∃ (i : Nat) (f : Bool), Srch l t i ∧ x = .returned (.tuple #[.int .i64 i, .bool f])) ∧ w = w' := by
  have HR := Lib.hid h
  have HN := Lib.hid h.length_ints
  have HG := Lib.hid hg
  have hn := hg.len
  rw [HN.out] at hn
  clear h hg
  go_enter Try.func43, Try.ntmps43
  go_wp2
  go_loopw [7, 8] (fun i j wr => ∃ k m : Nat, i = .int .i64 k ∧ j = .int .i64 m ∧ k ≤ m ∧ m ≤ n ∧ w = wr ∧ Hid ((∀ q, q < k → l.getD q 0 < t) ∧ ∀ q, m ≤ q → q < n → t ≤ l.getD q 0)) (fun i j _ => (intOf j).toNat - (intOf i).toNat)
  case atStart => exact ⟨0, n, rfl, rfl, Nat.zero_le _, Nat.le_refl _, rfl, ⟨fun q h => by omega, fun q h1 h2 => by omega⟩⟩
  case round =>
    obtain ⟨k, m, rfl, rfl, hkm, hmn, rfl, hq⟩ := hrel
    by_cases hlt : k < m
    · obtain ⟨q, hq2⟩ : ∃ q : Nat, (k + m) / 2 = q := ⟨_, rfl⟩
      have hh : ((k : Int) + (m : Int)) / 2 = (q : Int) := by omega
      have hqk : k ≤ q := by omega
      have hqm : q < m := by omega
      obtain ⟨b, off, rfl, hb, hc⟩ := HR.out.int_at (k := q) (by omega)
      obtain ⟨u, hu⟩ : ∃ u, u = l.getD q 0 := ⟨_, rfl⟩
      rw [← hu] at hc
      have HU := Lib.hid hu
      clear hu hq2
      by_cases hid : u < t
      · have HC := Lib.hid (show decide (u < t) = true by simpa using hid)
        go_wp2_with (go_at_call 51; refine (less_any u t _).mono ?_; rintro y w1 ⟨rfl, rfl⟩; rw [HC.out])
        go_roundw
        case rel =>
          refine ⟨q + 1, m, by go_num, rfl, by omega, hmn, (by trivial), ⟨fun p hp => ?_, hq.2⟩⟩
          have := HG.out.le (i := p) (j := q) (by omega) (by rw [HN.out]; omega)
          rw [← HU.out] at this
          omega
        case measure => simp [intOf]; omega
      · have HC := Lib.hid (show decide (u < t) = false by simpa using hid)
        go_wp2_with (go_at_call 51; refine (less_any u t _).mono ?_; rintro y w1 ⟨rfl, rfl⟩; rw [HC.out])
        go_roundw
        case rel =>
          refine ⟨k, q, rfl, rfl, by omega, by omega, (by trivial), ⟨hq.1, fun p hp hpn => ?_⟩⟩
          have := HG.out.le (i := q) (j := p) hp (by rw [HN.out]; exact hpn)
          rw [← HU.out] at this
          omega
        case measure => simp [intOf]; omega
    · have hs : Srch l t k := ⟨by rw [HN.out]; omega, hq.1, fun p hp hpn => hq.2 p (by omega) (by rw [HN.out] at hpn; exact hpn)⟩
      have HS := Lib.hid hs
      clear hs hq
      by_cases hkn : k < n
      · obtain ⟨b, off, rfl, hb, hc⟩ := HR.out.int_at hkn
        generalize l.getD k 0 = u at *
        by_cases hut : u = t
        · have hub : (u == t) = true := by simpa using hut
          go_wp2_with (go_at_call 53; refine (nan53 _ _).mono ?_; rintro y w1 ⟨rfl, rfl⟩)
          go_ret2
          exact ⟨⟨k, _, HS.out, rfl⟩, rfl⟩
        · have hub : (u == t) = false := by simpa using hut
          go_wp2_with (go_at_call 53; refine (nan53 _ _).mono ?_; rintro y w1 ⟨rfl, rfl⟩)
          go_ret2
          exact ⟨⟨k, _, HS.out, rfl⟩, rfl⟩
      · go_wp2
        go_ret2
        exact ⟨⟨k, _, HS.out, rfl⟩, rfl⟩

def dist (l : List Int) (t : Int) (i : Nat) : Int := max (l.getD i 0 - t) (t - l.getD i 0)
/-- The first of those that are nearest. -/
structure Nearest (l : List Int) (t : Int) (i : Nat) : Prop where
  lt : i < l.length
  le : ∀ k, k < l.length → dist l t i ≤ dist l t k
  first : ∀ k, k < i → dist l t i < dist l t k
theorem Nearest.same {l : List Int} {t : Int} {i j : Nat} (h : Nearest l t i) (k : Nearest l t j) : i = j := by
  rcases Nat.lt_trichotomy i j with hij | hij | hij
  · have h1 := k.first i hij
    have h2 := h.le j k.lt
    omega
  · exact hij
  · have h1 := h.first j hij
    have h2 := k.le i h.lt
    omega
theorem near_last {l : List Int} {t : Int} (hg : Good l) (h0 : 0 < l.length) (hs : Srch l t l.length) : Nearest l t (l.length - 1) := by
  have hl := hs.lo (l.length - 1) (by omega)
  refine ⟨by omega, fun k hk => ?_, fun k hk => ?_⟩
  · have := hs.lo k hk
    have := hg.le (i := k) (j := l.length - 1) (by omega) (by omega)
    unfold dist; omega
  · have := hs.lo k (by omega)
    have := hg.lt (i := k) (j := l.length - 1) hk (by omega)
    unfold dist; omega
theorem near_prev {l : List Int} {t : Int} {i : Nat} (hg : Good l) (hi : i < l.length) (h0 : 0 < i) (hs : Srch l t i) (hc : t - l.getD (i - 1) 0 ≤ l.getD i 0 - t) : Nearest l t (i - 1) := by
  have hl := hs.lo (i - 1) (by omega)
  refine ⟨by omega, fun k hk => ?_, fun k hk => ?_⟩
  · rcases Nat.lt_or_ge k i with h | h
    · have := hs.lo k h
      have := hg.le (i := k) (j := i - 1) (by omega) (by omega)
      unfold dist; omega
    · have := hs.hi k h hk
      have := hg.le (i := i) (j := k) h hk
      unfold dist; omega
  · have := hs.lo k (by omega)
    have := hg.lt (i := k) (j := i - 1) hk (by omega)
    unfold dist; omega
theorem near_this {l : List Int} {t : Int} {i : Nat} (hg : Good l) (hi : i < l.length) (hs : Srch l t i) (hc : i = 0 ∨ ¬ t - l.getD (i - 1) 0 ≤ l.getD i 0 - t) : Nearest l t i := by
  have hl := hs.hi i (Nat.le_refl _) hi
  refine ⟨hi, fun k hk => ?_, fun k hk => ?_⟩
  · rcases Nat.lt_or_ge k i with h | h
    · have := hs.lo k h
      have := hg.le (i := k) (j := i - 1) (by omega) (by omega)
      have hc := hc.resolve_left (by omega)
      unfold dist; omega
    · have := hs.hi k h hk
      have := hg.le (i := i) (j := k) h hk
      unfold dist; omega
  · have := hs.lo k hk
    have := hg.le (i := k) (j := i - 1) (by omega) (by omega)
    have hc := hc.resolve_left (by omega)
    unfold dist; omega

def nearE (l : List Int) (t : Int) : Int := if (chk [l] = 0 ∨ chk [l] = 8) ∧ vld t = false then 14 else if chk [l] ≠ 0 then chk [l] else if l = [] then 5 else 0
/-- What Near answers. -/
def NearOf (l : List Int) (t : Int) (w : World) (e : Ending) (w' : World) : Prop := ∃ i : Int, e = .returned (.tuple #[.int .i64 i, .int .i64 (nearE l t)]) ∧ (nearE l t ≠ 0 → i = 0) ∧ (nearE l t = 0 → ∃ k : Nat, i = k ∧ Nearest l t k) ∧ Fr No w w'

theorem near_any (A : Option Addr) (n c B : Nat) (l : List Int) (t : Int) (w : World) (h : Reads w B 1 A n (l.map (Value.int .i64))) (hB : B ≤ w.heap.size) (ht0 : -9223372036854775808 ≤ t) (ht1 : t ≤ 9223372036854775807) :
    Calls Try.prog 17 #[.slice A n c, .int .i64 t] w fun e w' => NearOf l t w e w' := by
  have HC := Lib.hid (check1_any A n c B l w h hB)
  have HF := Lib.hid ((Fr.refl No w).alloc (.cells #[.slice A n c] 25))
  have HR := Lib.hid (h.alloc hB (.cells #[.slice A n c] 25))
  have HN := Lib.hid h.length_ints
  have HV := Lib.hid (valid_any t (w.alloc (.cells #[.slice A n c] 25)))
  clear h
  have err : ∀ k, nearE l t = k → k ≠ 0 → ∀ w', Fr No w w' → NearOf l t w (.returned (.tuple #[.int .i64 0, .int .i64 k])) w' := fun k hk h0 w' hf =>
    ⟨0, by rw [hk], fun _ => rfl, fun h => absurd (hk.symm.trans h) h0, hf⟩
  have ERR := Lib.hid err
  clear err
  by_cases hbad : (chk [l] = 0 ∨ chk [l] = 8) ∧ vld t = false
  · have HE := Lib.hid (show nearE l t = 14 by unfold nearE; rw [if_pos hbad])
    rw [hbad.2] at HV
    rcases hbad.1 with hk | hk
    all_goals
      rw [hk] at HC
      clear hbad hk
      go_enter Try.func17, Try.ntmps17
      go_wp2_with (first
        | (go_at_call 41; refine HC.out.mono ?_; rintro e w1 ⟨rfl, rfl⟩)
        | (go_at_call 42; refine HV.out.mono ?_; rintro e w1 ⟨rfl, rfl⟩))
      go_ret2
      exact ERR.out 14 HE.out (by omega) _ HF.out
  · by_cases hk : chk [l] = 0
    · have hv : vld t = true := by
        cases hv : vld t
        · exact absurd ⟨.inl hk, hv⟩ hbad
        · rfl
      have hvv : 0 ≤ t ∧ t ≤ 253402300799 := by simpa [vld] using hv
      obtain ⟨hvv1, hvv2⟩ := hvv
      rw [hv] at HV
      have HG := Lib.hid (chk_ok hk l (by simp))
      have hn := HG.out.len
      rw [HN.out] at hn
      by_cases hn0 : n = 0
      · have HE := Lib.hid (show nearE l t = 5 by
          unfold nearE
          rw [if_neg hbad, if_neg (by simpa using hk), if_pos (List.eq_nil_of_length_eq_zero (by rw [HN.out, hn0]))])
        rw [hk] at HC
        subst hn0
        clear hbad hk hv
        go_enter Try.func17, Try.ntmps17
        go_wp2_with (first
          | (go_at_call 41; refine HC.out.mono ?_; rintro e w1 ⟨rfl, rfl⟩)
          | (go_at_call 42; refine HV.out.mono ?_; rintro e w1 ⟨rfl, rfl⟩))
        go_ret2
        exact ERR.out 5 HE.out (by omega) _ HF.out
      · have HE := Lib.hid (show nearE l t = 0 by
          unfold nearE
          rw [if_neg hbad, if_neg (by simpa using hk), if_neg (fun h => hn0 (by rw [← HN.out, h]; rfl))])
        have HS := Lib.hid (bs_any A n c B l t _ HR.out HG.out)
        rw [hk] at HC
        have hnb : ((n : Int) == 0) = false := by simpa using hn0
        have fine : ∀ k : Nat, Nearest l t k → ∀ w', Fr No w w' → NearOf l t w (.returned (.tuple #[.int .i64 k, .int .i64 0])) w' := fun k hk w' hf =>
          ⟨k, by rw [HE.out], fun h => absurd HE.out h, fun _ => ⟨k, rfl, hk⟩, hf⟩
        have FINE := Lib.hid fine
        clear fine hbad hk hv ERR
        go_enter Try.func17, Try.ntmps17
        go_wp2_with (first
          | (go_at_call 41; refine HC.out.mono ?_; rintro e w1 ⟨rfl, rfl⟩)
          | (go_at_call 42; refine HV.out.mono ?_; rintro e w1 ⟨rfl, rfl⟩)
          | (go_at_call 43; refine HS.out.mono ?_; rintro e w1 ⟨⟨i, f, hs, rfl⟩, rfl⟩; have HSS := Lib.hid hs; clear hs))
        have hin := HSS.out.le
        rw [HN.out] at hin
        by_cases hie : i = n
        · have HNR := Lib.hid (near_last HG.out (by rw [HN.out]; omega) (by rw [HN.out, ← hie]; exact HSS.out))
          rw [HN.out] at HNR
          have hib : ((i : Int) == (n : Int)) = true := by simp; omega
          have hi1 : (i : Int) - 1 = ((n - 1 : Nat) : Int) := by omega
          have HI1 := Lib.hid hi1
          clear hi1 hie
          go_quiet (fail)
          go_wp2
          go_ret2
          rw [HI1.out]
          exact FINE.out _ HNR.out _ (HF.out.drewN _)
        · have hil : i < n := by omega
          have hib : ((i : Int) == (n : Int)) = false := by simp; omega
          by_cases hi0 : 0 < i
          · obtain ⟨b, off, rfl, hb, hc0⟩ := HR.out.int_at (k := i - 1) (by omega)
            obtain ⟨b', off', hbb, _, hc1⟩ := HR.out.int_at hil
            injection hbb with hbb
            injection hbb with hb1 hb2
            subst hb1
            subst hb2
            have hv0 := HG.out.val (i - 1) (by rw [HN.out]; omega)
            have hv1 := HG.out.val i (by rw [HN.out]; exact hil)
            have HP := Lib.hid (near_prev HG.out (i := i) (t := t) (by rw [HN.out]; exact hil) hi0 HSS.out)
            have HT := Lib.hid (fun hc => near_this HG.out (i := i) (t := t) (by rw [HN.out]; exact hil) HSS.out (.inr hc))
            have hi3 : (0 : Int) < (i : Int) := by omega
            have hto : ((i : Int) - 1).toNat = i - 1 := by omega
            have hi1 : (0 : Int) ≤ (i : Int) - 1 := by omega
            have hi2 : (i : Int) - 1 < (n : Int) := by omega
            have hi4 : (i : Int) < (n : Int) := by omega
            have hwr : IntKind.i64.wrap ((i : Int) - 1) = (i : Int) - 1 := by simp only [IntKind.wrap_i64]; omega
            obtain ⟨hv01, hv02⟩ := hv0
            obtain ⟨hv11, hv12⟩ := hv1
            generalize l.getD (i - 1) 0 = x at *
            generalize l.getD i 0 = y at *
            by_cases hxy : t - x ≤ y - t
            · have HNR := Lib.hid (HP.out hxy)
              have hcast : (i : Int) - 1 = ((i - 1 : Nat) : Int) := by omega
              have HCA := Lib.hid hcast
              clear hcast HP HT
              go_quiet (fail)
              go_wp2
              go_ret2
              rw [HCA.out]
              exact FINE.out _ HNR.out _ (HF.out.drewN _)
            · have HNR := Lib.hid (HT.out hxy)
              clear HP HT
              go_quiet (fail)
              go_wp2
              go_ret2
              exact FINE.out _ HNR.out _ (HF.out.drewN _)
          · have HNR := Lib.hid (near_this HG.out (i := i) (t := t) (by rw [HN.out]; exact hil) HSS.out (.inl (by omega)))
            have hi3 : ¬ (0 : Int) < (i : Int) := by omega
            have hi4 : decide ((0 : Int) < (i : Int)) = false := by simp; omega
            go_quiet (fail)
            go_wp2
            go_ret2
            exact FINE.out _ HNR.out _ (HF.out.drewN _)
    · have HE := Lib.hid (show nearE l t = chk [l] by unfold nearE; rw [if_neg hbad, if_pos hk])
      have hkb : (chk [l] == 0) = false := by simpa using hk
      have hkn : (chk [l] != 0) = true := by simpa using hk
      by_cases h8 : chk [l] = 8
      · have hv : vld t = true := by
          cases hv : vld t
          · exact absurd ⟨.inr h8, hv⟩ hbad
          · rfl
        rw [hv] at HV
        rw [h8] at HC HE
        clear hbad hk h8 hv hkb hkn
        go_enter Try.func17, Try.ntmps17
        go_wp2_with (first
          | (go_at_call 41; refine HC.out.mono ?_; rintro e w1 ⟨rfl, rfl⟩)
          | (go_at_call 42; refine HV.out.mono ?_; rintro e w1 ⟨rfl, rfl⟩))
        go_ret2
        exact ERR.out 8 HE.out (by omega) _ HF.out
      · have h8b : (chk [l] == 8) = false := by simpa using h8
        clear hbad
        obtain ⟨k, hkk⟩ : ∃ k, k = chk [l] := ⟨_, rfl⟩
        rw [← hkk] at HC HE hk hkb hkn h8 h8b
        clear hkk
        go_enter Try.func17, Try.ntmps17
        go_wp2_with (first
          | (go_at_call 41; refine HC.out.mono ?_; rintro e w1 ⟨rfl, rfl⟩)
          | (go_at_call 42; refine HV.out.mono ?_; rintro e w1 ⟨rfl, rfl⟩))
        go_ret2
        exact ERR.out k HE.out hk _ HF.out
end Go.Proofs.Ytclhdhgagjpicaa
