/- GapSums: the walk. -/
import Derived.Test.YtclhdhgagjpicaaMd
import Derived.Test.YtclhdhgagjpicaaRG
namespace Go.Proofs.Ytclhdhgagjpicaa
open Go.RowKit Go.Wk

theorem getD_mem' {l : List Int} {i : Nat} (h : i < l.length) : l.getD i 0 ∈ l := by
  rw [show l.getD i 0 = l[i] by simp [h]]; exact List.getElem_mem _
theorem made_gap (f : Int) (gs : List Int) {m k : Nat} (h : k < m) : (gapsL (madeL f gs m)).getD k 0 = gs.getD k 0 + 1 := by
  rw [gapsL_get _ (by rw [madeL_len]; omega), madeL_get _ _ (by omega), madeL_get _ _ (by omega)]
  show madeAt f gs k + (gs.getD k 0 + 1) - madeAt f gs k = _
  omega

set_option maxRecDepth 100000 in
set_option maxHeartbeats 8000000 in
theorem gapSums_walk (f : Int) (A : Option Addr) (n c : Nat) (gs : List Int) (w : World) (h : Reads w w.heap.size 1 A n (gs.map (Value.int .u16))) (hn : n ≤ 9223372036854775807) (hc : n ≤ c) (hf0 : 0 ≤ f) (hf1 : f ≤ 4294967295) (hg : ∀ x ∈ gs, 0 ≤ x ∧ x ≤ 65535) :
    Calls Try.prog 10 #[.int .u32 f, .slice A n c] w fun e w' => e = .returned (.bool true) ∧ Fr No w w' := by
  have HMD := Lib.hid (made_any f A n c gs w h hn hc hf0 hf1 hg)
  have HNG := Lib.hid h.length_ints
  have HR := Lib.hid h
  obtain ⟨m, hm⟩ : ∃ m, m = min n 300 := ⟨_, rfl⟩
  rw [← hm] at HMD
  have hmn : m ≤ n := by omega
  have hm3 : m ≤ 300 := by omega
  clear hm
  have HG := Lib.hid (madeL_good (m := m) ⟨hf0, hf1⟩ hg hm3)
  have HLN := Lib.hid (madeL_len f gs m)
  have HOK := Lib.hid (ok_of_good HG.out)
  have HGE := Lib.hid (show gapL (madeL f gs m) = gapsL (madeL f gs m) by unfold gapL; rw [if_pos HOK.out])
  have HGL := Lib.hid (show (gapsL (madeL f gs m)).length = m by rw [gapsL_len, HLN.out]; rfl)
  have HGG := Lib.hid (fun k (hk : k < m) => made_gap f gs hk)
  have HAT := Lib.hid (fun k (hk : k ≤ m) => madeL_get f gs hk)
  have HAB := Lib.hid (fun k => madeAt_bnd hg (f := f) k)
  have HAS := Lib.hid (fun k => show madeAt f gs (k + 1) = madeAt f gs k + (gs.getD k 0 + 1) from rfl)
  have HA0 := Lib.hid (show madeAt f gs 0 = f from rfl)
  have HGB := Lib.hid (show ∀ k, k < m → 0 ≤ gs.getD k 0 ∧ gs.getD k 0 ≤ 65535 from fun k hk => hg _ (getD_mem' (by rw [HNG.out]; omega)))
  have HLV := Lib.hid (show leastV (madeL f gs m) = minL (gapsL (madeL f gs m)) by unfold leastV; rw [HGE.out])
  have HLB := Lib.hid (show leastB (madeL f gs m) = decide (0 < m) by
    unfold leastB
    rw [HGE.out]
    by_cases h0 : 0 < m
    · rw [decide_eq_true h0, decide_eq_true]
      intro he
      have := HGL.out
      rw [he] at this
      simp at this
      omega
    · rw [decide_eq_false h0, decide_eq_false]
      intro hne
      exact hne (List.eq_nil_of_length_eq_zero (by rw [HGL.out]; omega)))
  have HEB := Lib.hid (show evenB (madeL f gs m) = decide (0 < m ∧ minL (gapsL (madeL f gs m)) = maxL (gapsL (madeL f gs m))) by
    have h1 := HLB.out
    unfold leastB at h1
    unfold evenB
    rw [HGE.out] at h1 ⊢
    by_cases h0 : 0 < m
    · rw [decide_eq_true h0] at h1
      simp only [decide_eq_true_eq] at h1
      simp [h0, h1]
    · rw [decide_eq_false h0] at h1
      simp only [decide_eq_false_iff_not] at h1
      simp [h0, h1])
  have HEV := Lib.hid (show evenV (madeL f gs m) = if evenB (madeL f gs m) = true then (gapsL (madeL f gs m)).getD 0 0 else 0 by unfold evenV; rw [HGE.out])
  generalize madeL f gs m = L at *
  clear h hg
  go_enter Try.func10, Try.ntmps10
  go_wp2_with fail
  refine (HMD.out).mono ?_
  rintro e w2 ⟨A2, c2, rfl, ho, hf⟩
  have HL := Lib.hid (Reads.of_own ho)
  replace HR := Lib.hid (HR.out.fr0 hf)
  have HF := Lib.hid hf
  clear hf ho
  rw [HLN.out] at HL ⊢
  go_wp2_with fail
  refine (gaps_any A2 (m + 1) c2 _ L _ HL.out (Nat.le_refl _)).mono ?_
  rintro e w3 ⟨Ag, cg, rfl, ho, hf⟩
  have HGR := Lib.hid (Reads.of_own ho)
  replace HR := Lib.hid (HR.out.fr0 hf)
  replace HL := Lib.hid (HL.out.fr0 hf)
  replace HF := Lib.hid (HF.out.then0 hf)
  clear hf ho
  rw [HGE.out, HGL.out] at HGR
  rw [HGE.out, HGL.out, HOK.out]
  go_wp2_with fail
  refine (least_any A2 (m + 1) c2 _ L _ HL.out (Nat.le_refl _)).mono ?_
  rintro e w4 ⟨rfl, hf⟩
  replace HR := Lib.hid (HR.out.fr0 hf)
  replace HL := Lib.hid (HL.out.fr0 hf)
  replace HGR := Lib.hid (HGR.out.fr0 hf)
  replace HF := Lib.hid (HF.out.then0 hf)
  clear hf
  rw [HLV.out, HLB.out, HOK.out]
  go_wp2_with fail
  refine (even_any A2 (m + 1) c2 _ L _ HL.out (Nat.le_refl _)).mono ?_
  rintro e w5 ⟨rfl, hf⟩
  replace HR := Lib.hid (HR.out.fr0 hf)
  replace HL := Lib.hid (HL.out.fr0 hf)
  replace HGR := Lib.hid (HGR.out.fr0 hf)
  replace HF := Lib.hid (HF.out.then0 hf)
  clear hf
  rw [HOK.out]
  generalize gapsL L = G at *
  by_cases hm0 : 0 < m
  · rw [decide_eq_true hm0]
    have hm1 : (0 : Int) < (m : Int) := by omega
    have hm2 : ((m : Int) == 0) = false := by simp; omega
    have hmm : ((m : Int) != (m : Int)) = false := by simp
    go_wp2
    obtain ⟨w8, hw8⟩ : ∃ w8 : World, w8 = w5 := ⟨_, rfl⟩
    rw [← hw8] at HR HL HGR HF ⊢
    clear hw8
    go_loopw [14, 65] (fun sv i wr => ∃ k : Nat, i = .int .i64 k ∧ k ≤ m ∧ sv = .int .i64 (madeAt f gs k - f) ∧ w8 = wr) (fun _ i _ => m - (intOf i).toNat)
    case atStart => exact ⟨0, rfl, Nat.zero_le _, by rw [HA0.out, Int.sub_self], rfl⟩
    case round =>
      obtain ⟨k, rfl, hk, rfl, rfl⟩ := hrel
      by_cases hlt : k < m
      · obtain ⟨b, off, rfl, hb, hcc⟩ := HR.out.int_at (k := k) (by omega)
        obtain ⟨bg, og, rfl, hbg, hcg⟩ := HGR.out.int_at (k := k) hlt
        rw [HGG.out k hlt] at hcg
        have hgb := HGB.out k hlt
        have hab := HAB.out k
        obtain ⟨hgb1, hgb2⟩ := hgb
        obtain ⟨hab1, hab2⟩ := hab
        have HS := Lib.hid (HAS.out k)
        have hl1 : (k : Int) < (m : Int) := by omega
        have hl2 : (k : Int) < (n : Int) := by omega
        generalize gs.getD k 0 = x at *
        generalize madeAt f gs k = t at *
        have ht : t ≤ 4294967295 + 300 * 65536 := by omega
        go_wp2
        go_roundw
        case rel => exact ⟨k + 1, by go_num, by omega, by rw [HS.out]; congr 1; omega, (by trivial)⟩
        case measure => simp [intOf]; omega
      obtain rfl : m = k := by omega
      have hab := HAB.out m
      obtain ⟨hab1, hab2⟩ := hab
      obtain ⟨b, off, rfl, hb, hc1⟩ := HL.out.int_at (k := m) (by omega)
      obtain ⟨b', off', hbb, _, hc0⟩ := HL.out.int_at (k := 0) (by omega)
      injection hbb with hbb
      injection hbb with hb1 hb2
      subst hb1
      subst hb2
      rw [HAT.out m (Nat.le_refl _)] at hc1
      rw [HAT.out 0 (Nat.zero_le _), HA0.out, Nat.add_zero] at hc0
      have hkk : (m : Int) < (m : Int) + 1 := by omega
      have hk0 : (0 : Int) < (m : Int) + 1 := by omega
      generalize madeAt f gs m = t at *
      have ht : t ≤ 4294967295 + 300 * 65536 := by omega
      have htt : ((t - f) != (t - f)) = false := by simp
      go_wp2
      go_quiet (fail)
      obtain ⟨w9, hw9⟩ : ∃ w9 : World, w9 = w8.drewN nq := ⟨_, rfl⟩
      rw [← hw9]
      have HF9 := Lib.hid (show Fr No w w9 by rw [hw9]; exact HF.out.drewN nq)
      have HGR9 := Lib.hid (show Reads w9 w9.heap.size 1 Ag m (G.map (Value.int .i64)) by rw [hw9]; exact HGR.out)
      clear hw9
      have HMN := Lib.hid (min_any Ag m cg _ G w9 HGR9.out hm0 (by omega))
      have HMX := Lib.hid (max_any Ag m cg _ G w9 HGR9.out hm0 (by omega))
      obtain ⟨bg, og, rfl, hbg, hcg⟩ := HGR9.out.int_at (k := 0) hm0
      rw [Nat.add_zero] at hcg
      obtain ⟨g0, hg0⟩ : ∃ g0, g0 = G.getD 0 0 := ⟨_, rfl⟩
      rw [← hg0] at hcg HEV
      clear hg0
      have hEB := HEB.out
      have hEV := HEV.out
      by_cases he : minL G = maxL G
      · have h1 : evenB L = true := by rw [hEB]; simp [hm0, he]
        rw [h1, if_pos rfl] at hEV
        rw [← he] at HMX
        have HE2 := Lib.hid (And.intro h1 hEV)
        clear hEB hEV h1 he
        generalize minL G = mn at *
        rw [HE2.out.1, HE2.out.2]
        have q1 : (mn == mn) = true := by simp
        have q2 : (g0 == g0) = true := by simp
        go_wp2_with (first
          | (go_at_call 29; refine HMN.out.mono ?_; rintro e w2 ⟨rfl, rfl⟩)
          | (go_at_call 30; refine HMX.out.mono ?_; rintro e w2 ⟨rfl, rfl⟩)
          | (go_at_call 16; refine (works_any _).mono ?_; rintro e w2 ⟨rfl, hf⟩))
        go_ret
        exact ⟨rfl, HF9.out.then0 hf⟩
      · have h1 : evenB L = false := by rw [hEB]; simp [he]
        rw [h1, if_neg (by simp)] at hEV
        have HE2 := Lib.hid (And.intro h1 hEV)
        have q3 : (minL G == maxL G) = false := by simpa using he
        clear hEB hEV h1 he
        generalize minL G = mn at *
        generalize maxL G = mx at *
        rw [HE2.out.1, HE2.out.2]
        have q1 : (mn == mn) = true := by simp
        go_wp2_with (first
          | (go_at_call 29; refine HMN.out.mono ?_; rintro e w2 ⟨rfl, rfl⟩)
          | (go_at_call 30; refine HMX.out.mono ?_; rintro e w2 ⟨rfl, rfl⟩)
          | (go_at_call 16; refine (works_any _).mono ?_; rintro e w2 ⟨rfl, hf⟩))
        go_ret
        exact ⟨rfl, HF9.out.then0 hf⟩
  · have hm1 : ¬ (0 : Int) < (m : Int) := by omega
    have hm2 : ((m : Int) == 0) = true := by simp; omega
    have hmm : ((m : Int) != (m : Int)) = false := by simp
    have hEB := HEB.out
    have hEV := HEV.out
    have h1 : evenB L = false := by rw [hEB]; simp [hm0]
    rw [h1, if_neg (by simp)] at hEV
    have HE2 := Lib.hid (And.intro h1 hEV)
    have HG0 := Lib.hid (show G = [] from List.eq_nil_of_length_eq_zero (by rw [HGL.out]; omega))
    have HMN0 := Lib.hid (show minL G = 0 by rw [HG0.out]; rfl)
    clear hEB hEV h1
    rw [HE2.out.1, HE2.out.2, HMN0.out, decide_eq_false hm0]
    go_wp2
    obtain ⟨w8, hw8⟩ : ∃ w8 : World, w8 = w5 := ⟨_, rfl⟩
    rw [← hw8] at HR HL HGR HF ⊢
    clear hw8
    go_loopw [14, 65] (fun sv i wr => ∃ k : Nat, i = .int .i64 k ∧ k ≤ m ∧ sv = .int .i64 (madeAt f gs k - f) ∧ w8 = wr) (fun _ i _ => m - (intOf i).toNat)
    case atStart => exact ⟨0, rfl, Nat.zero_le _, by rw [HA0.out, Int.sub_self], rfl⟩
    case round =>
      obtain ⟨k, rfl, hk, rfl, rfl⟩ := hrel
      by_cases hlt : k < m
      · obtain ⟨b, off, rfl, hb, hcc⟩ := HR.out.int_at (k := k) (by omega)
        obtain ⟨bg, og, rfl, hbg, hcg⟩ := HGR.out.int_at (k := k) hlt
        rw [HGG.out k hlt] at hcg
        have hgb := HGB.out k hlt
        have hab := HAB.out k
        obtain ⟨hgb1, hgb2⟩ := hgb
        obtain ⟨hab1, hab2⟩ := hab
        have HS := Lib.hid (HAS.out k)
        have hl1 : (k : Int) < (m : Int) := by omega
        have hl2 : (k : Int) < (n : Int) := by omega
        generalize gs.getD k 0 = x at *
        generalize madeAt f gs k = t at *
        have ht : t ≤ 4294967295 + 300 * 65536 := by omega
        go_wp2
        go_roundw
        case rel => exact ⟨k + 1, by go_num, by omega, by rw [HS.out]; congr 1; omega, (by trivial)⟩
        case measure => simp [intOf]; omega
      obtain rfl : m = k := by omega
      have hab := HAB.out m
      obtain ⟨hab1, hab2⟩ := hab
      obtain ⟨b, off, rfl, hb, hc1⟩ := HL.out.int_at (k := m) (by omega)
      obtain ⟨b', off', hbb, _, hc0⟩ := HL.out.int_at (k := 0) (by omega)
      injection hbb with hbb
      injection hbb with hb1 hb2
      subst hb1
      subst hb2
      rw [HAT.out m (Nat.le_refl _)] at hc1
      rw [HAT.out 0 (Nat.zero_le _), HA0.out, Nat.add_zero] at hc0
      have hkk : (m : Int) < (m : Int) + 1 := by omega
      have hk0 : (0 : Int) < (m : Int) + 1 := by omega
      generalize madeAt f gs m = t at *
      have ht : t ≤ 4294967295 + 300 * 65536 := by omega
      have htt : ((t - f) != (t - f)) = false := by simp
      go_wp2
      go_quiet (fail)
      obtain ⟨w9, hw9⟩ : ∃ w9 : World, w9 = w8.drewN nq := ⟨_, rfl⟩
      rw [← hw9]
      have HF9 := Lib.hid (show Fr No w w9 by rw [hw9]; exact HF.out.drewN nq)
      have HGR9 := Lib.hid (show Reads w9 w9.heap.size 1 Ag m (G.map (Value.int .i64)) by rw [hw9]; exact HGR.out)
      clear hw9
      go_wp2_with (go_at_call 16; refine (works_any _).mono ?_; rintro e w2 ⟨rfl, hf⟩)
      go_ret
      exact ⟨rfl, HF9.out.then0 hf⟩
end Go.Proofs.Ytclhdhgagjpicaa
