/- The document's Near. -/
import Derived.Test.YtclhdhgagjpicaaRB
import Derived.RegionTactic
namespace Go.Proofs.Ytclhdhgagjpicaa
open Go.RowKit Go.Wk

/-- The first of the nearest among the first k. -/
structure NearTo (l : List Int) (t : Int) (k b : Nat) : Prop where
  start : k = 0 → b = 0
  lt : 0 < k → b < k
  le : ∀ j, j < k → dist l t b ≤ dist l t j
  first : ∀ j, j < b → dist l t b < dist l t j
theorem NearTo.zero (l : List Int) (t : Int) : NearTo l t 0 0 := ⟨fun _ => rfl, fun h => absurd h (Nat.lt_irrefl _), fun _ h => absurd h (Nat.not_lt_zero _), fun _ h => absurd h (Nat.not_lt_zero _)⟩
theorem NearTo.turn {l : List Int} {t : Int} {k b : Nat} (h : NearTo l t k b) (hd : dist l t k < dist l t b) : NearTo l t (k + 1) k := by
  refine ⟨fun h => by omega, fun _ => by omega, fun j hj => ?_, fun j hj => ?_⟩
  · rcases (show j < k ∨ j = k by omega) with hk | rfl
    · have := h.le j hk; omega
    · exact Int.le_refl _
  · have := h.le j hj; omega
theorem NearTo.stay {l : List Int} {t : Int} {k b : Nat} (h : NearTo l t k b) (hd : ¬ dist l t k < dist l t b) : NearTo l t (k + 1) b := by
  refine ⟨fun h => by omega, fun _ => ?_, fun j hj => ?_, h.first⟩
  · rcases Nat.eq_zero_or_pos k with h0 | h0
    · rw [h.start h0]; omega
    · have := h.lt h0; omega
  · rcases (show j < k ∨ j = k by omega) with hk | rfl
    · exact h.le j hk
    · omega
theorem NearTo.end_ {l : List Int} {t : Int} {b : Nat} (h : NearTo l t l.length b) (h0 : 0 < l.length) : Nearest l t b := ⟨h.lt h0, h.le, h.first⟩

set_option maxRecDepth 100000 in
set_option maxHeartbeats 8000000 in
theorem rnear_any (A : Option Addr) (n c B : Nat) (l : List Int) (t : Int) (w : World) (h : Reads w B 1 A n (l.map (Value.int .i64))) (hB : B ≤ w.heap.size) (ht0 : -9223372036854775808 ≤ t) (ht1 : t ≤ 9223372036854775807) :
    Calls Try.prog 23 #[.slice A n c, .int .i64 t] w fun e w' => NearOf l t w e w' := by
  have HC := Lib.hid (rcheck1_any A n c B l w h hB)
  have HF := Lib.hid ((Fr.refl No w).alloc (.cells #[.slice A n c] 25))
  have HR := Lib.hid (h.alloc hB (.cells #[.slice A n c] 25))
  have HN := Lib.hid h.length_ints
  have HV := Lib.hid (fun w => rvalid_any t w)
  have HBB := Lib.hid (show B ≤ (w.alloc (.cells #[.slice A n c] 25)).heap.size by simp; omega)
  clear h
  have err : ∀ k, nearE l t = k → k ≠ 0 → ∀ w', Fr No w w' → NearOf l t w (.returned (.tuple #[.int .i64 0, .int .i64 k])) w' := fun k hk h0 w' hf =>
    ⟨0, by rw [hk], fun _ => rfl, fun h => absurd (hk.symm.trans h) h0, hf⟩
  have ERR := Lib.hid err
  clear err
  by_cases hbad : (chk [l] = 0 ∨ chk [l] = 8) ∧ vld t = false
  · have HE := Lib.hid (show nearE l t = 14 by unfold nearE; rw [if_pos hbad])
    rw [hbad.2] at HV
    rcases hbad.1 with hk | hk
    all_goals
      rw [hk] at HC
      clear hbad hk
      go_enter Try.func23, Try.ntmps23
      go_wp2_with (first
        | (go_at_call 48; refine HC.out.mono ?_; rintro e w1 ⟨rfl, hf⟩)
        | (go_at_call 49; refine (HV.out _).mono ?_; rintro e w1 ⟨rfl, rfl⟩))
      go_ret2
      exact ERR.out 14 HE.out (by omega) _ (HF.out.then0 hf)
  · by_cases hk : chk [l] = 0
    · have hv : vld t = true := by
        cases hv : vld t
        · exact absurd ⟨.inl hk, hv⟩ hbad
        · rfl
      have hvv : 0 ≤ t ∧ t ≤ 253402300799 := by simpa [vld] using hv
      obtain ⟨hvv1, hvv2⟩ := hvv
      rw [hv] at HV
      have HG := Lib.hid (chk_ok hk l (by simp))
      have hn := HG.out.len
      rw [HN.out] at hn
      by_cases hn0 : n = 0
      · have HE := Lib.hid (show nearE l t = 5 by
          unfold nearE
          rw [if_neg hbad, if_neg (by simpa using hk), if_pos (List.eq_nil_of_length_eq_zero (by rw [HN.out, hn0]))])
        rw [hk] at HC
        subst hn0
        clear hbad hk hv
        go_enter Try.func23, Try.ntmps23
        go_wp2_with (first
          | (go_at_call 48; refine HC.out.mono ?_; rintro e w1 ⟨rfl, hf⟩)
          | (go_at_call 49; refine (HV.out _).mono ?_; rintro e w1 ⟨rfl, rfl⟩))
        go_ret2
        exact ERR.out 5 HE.out (by omega) _ (HF.out.then0 hf)
      · have HE := Lib.hid (show nearE l t = 0 by
          unfold nearE
          rw [if_neg hbad, if_neg (by simpa using hk), if_neg (fun h => hn0 (by rw [← HN.out, h]; rfl))])
        rw [hk] at HC
        have hnb : ((n : Int) == 0) = false := by simpa using hn0
        have fine : ∀ k : Nat, Nearest l t k → ∀ w', Fr No w w' → NearOf l t w (.returned (.tuple #[.int .i64 k, .int .i64 0])) w' := fun k hk w' hf =>
          ⟨k, by rw [HE.out], fun h => absurd HE.out h, fun _ => ⟨k, rfl, hk⟩, hf⟩
        have FINE := Lib.hid fine
        clear fine hbad hk hv ERR
        go_enter Try.func23, Try.ntmps23
        go_wp2_with (first
          | (go_at_call 48; refine HC.out.mono ?_; rintro e w1 ⟨rfl, hf⟩)
          | (go_at_call 49; refine (HV.out _).mono ?_; rintro e w1 ⟨rfl, rfl⟩))
        have HF1 := Lib.hid (HF.out.then0 hf)
        replace HR := Lib.hid (HR.out.fr hf HBB.out (fun _ _ x => x))
        clear hf
        go_loopw [7, 8] (fun bi i wr => ∃ k b m : Nat, i = .int .i64 k ∧ k ≤ n ∧ bi = .int .i64 b ∧ wr = w1.drewN m ∧ Hid (NearTo l t k b)) (fun _ i _ => n - (intOf i).toNat)
        case atStart => exact ⟨0, 0, 0, rfl, Nat.zero_le _, rfl, rfl, Lib.hid (NearTo.zero l t)⟩
        case round =>
          obtain ⟨k, b, m, rfl, hk, rfl, rfl, HT⟩ := hrel
          by_cases hlt : k < n
          · have hbn : b < n := by
              rcases Nat.eq_zero_or_pos k with h0 | h0
              · rw [HT.out.start h0]; omega
              · have := HT.out.lt h0; omega
            obtain ⟨g, off, rfl, hb, hc0⟩ := HR.out.int_at hlt
            obtain ⟨g', off', hbb, _, hc1⟩ := HR.out.int_at hbn
            injection hbb with hbb
            injection hbb with hb1 hb2
            subst hb1
            subst hb2
            have hv0 := HG.out.val k (by rw [HN.out]; exact hlt)
            have hv1 := HG.out.val b (by rw [HN.out]; exact hbn)
            have DK := Lib.hid (show dist l t k = max (l.getD k 0 - t) (t - l.getD k 0) from rfl)
            have DB := Lib.hid (show dist l t b = max (l.getD b 0 - t) (t - l.getD b 0) from rfl)
            obtain ⟨hv01, hv02⟩ := hv0
            obtain ⟨hv11, hv12⟩ := hv1
            have hin : (k : Int) < (n : Int) := by omega
            have hin2 : (b : Int) < (n : Int) := by omega
            generalize l.getD k 0 = x at *
            generalize l.getD b 0 = y at *
            by_cases hx : x - t ≤ t - x
            all_goals
              by_cases hy : y - t ≤ t - y
              all_goals
                by_cases hd : dist l t k < dist l t b
                · have HT1 := Lib.hid (HT.out.turn hd)
                  rw [DK.out, DB.out] at hd
                  go_wp2
                  go_region
                  all_goals
                    go_wp2
                    try (exfalso; omega)
                    go_roundw
                    case rel => exact ⟨k + 1, k, _, by go_num, by omega, rfl, rfl, HT1⟩
                    case measure => simp [intOf]; omega
                · have HT1 := Lib.hid (HT.out.stay hd)
                  rw [DK.out, DB.out] at hd
                  go_wp2
                  go_region
                  all_goals
                    go_wp2
                    try (exfalso; omega)
                    go_roundw
                    case rel => exact ⟨k + 1, b, _, by go_num, by omega, rfl, rfl, HT1⟩
                    case measure => simp [intOf]; omega
          · have HNR := Lib.hid (NearTo.end_ (l := l) (t := t) (b := b) (by rw [HN.out, show n = k by omega]; exact HT.out) (by rw [HN.out]; omega))
            clear HT
            go_wp2
            go_ret2
            exact FINE.out _ HNR.out _ (HF1.out.drewN _)
    · have HE := Lib.hid (show nearE l t = chk [l] by unfold nearE; rw [if_neg hbad, if_pos hk])
      have hkb : (chk [l] == 0) = false := by simpa using hk
      have hkn : (chk [l] != 0) = true := by simpa using hk
      by_cases h8 : chk [l] = 8
      · have hv : vld t = true := by
          cases hv : vld t
          · exact absurd ⟨.inr h8, hv⟩ hbad
          · rfl
        rw [hv] at HV
        rw [h8] at HC HE
        clear hbad hk h8 hv hkb hkn
        go_enter Try.func23, Try.ntmps23
        go_wp2_with (first
          | (go_at_call 48; refine HC.out.mono ?_; rintro e w1 ⟨rfl, hf⟩)
          | (go_at_call 49; refine (HV.out _).mono ?_; rintro e w1 ⟨rfl, rfl⟩))
        go_ret2
        exact ERR.out 8 HE.out (by omega) _ (HF.out.then0 hf)
      · have hh : chk [l] = 12 ∨ chk [l] = 14 := by
          unfold chk at hk h8 ⊢
          by_cases h1 : [l].any many = true
          · rw [if_pos h1]; exact .inl rfl
          · rw [if_neg h1] at hk h8 ⊢
            by_cases h2 : [l].any inv = true
            · rw [if_pos h2]; exact .inr rfl
            · rw [if_neg h2] at hk h8 ⊢
              by_cases h3 : [l].any ord = true
              · rw [if_pos h3] at h8; exact absurd rfl h8
              · rw [if_neg h3] at hk; exact absurd rfl hk
        rcases hh with hh | hh
        all_goals
          rw [hh] at HC HE
          clear hbad hk h8 hkb hkn hh
          go_enter Try.func23, Try.ntmps23
          go_wp2_with (first
            | (go_at_call 48; refine HC.out.mono ?_; rintro e w1 ⟨rfl, hf⟩)
            | (go_at_call 49; refine (HV.out _).mono ?_; rintro e w1 ⟨rfl, rfl⟩))
          go_ret2
          exact ERR.out _ HE.out (by omega) _ (HF.out.then0 hf)
end Go.Proofs.Ytclhdhgagjpicaa
