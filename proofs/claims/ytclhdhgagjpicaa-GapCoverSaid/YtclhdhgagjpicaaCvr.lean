/- GapCover: the walk. -/
import Derived.Test.YtclhdhgagjpicaaCvp
import Derived.Test.YtclhdhgagjpicaaRB
import Derived.Deep.RegionHeld3
namespace Go.Proofs.Ytclhdhgagjpicaa
open Go.RowKit Go.Wk

theorem backF_bnd {l : List Int} (h : Good l) {v : Int} (h1 : 1 ≤ v) (h2 : v ≤ 68719476736) : ∀ k, k ≤ l.length → 0 ≤ (backF l v k).1 ∧ (backF l v k).1 ≤ k ∧ v - 4611686018427387904 ≤ (backF l v k).2 ∧ (backF l v k).2 ≤ v
  | 0, _ => by simp [backF]; omega
  | k + 1, hk => by
    have ih := backF_bnd h h1 h2 k (by omega)
    rw [backF_succ v (by omega)]
    have hv := h.val (l.length - 1 - k) (by omega)
    unfold covStep
    split
    · simp only; omega
    · omega

set_option maxRecDepth 100000 in
set_option maxHeartbeats 8000000 in
theorem gapCover_walk (f : Int) (A : Option Addr) (n c : Nat) (gs : List Int) (v0 : Int) (w : World) (h : Reads w w.heap.size 1 A n (gs.map (Value.int .u16))) (hn : n ≤ 9223372036854775807) (hc : n ≤ c) (hf0 : 0 ≤ f) (hf1 : f ≤ 4294967295) (hg : ∀ x ∈ gs, 0 ≤ x ∧ x ≤ 65535) (hv0 : 0 ≤ v0) (hv1 : v0 ≤ 65535) :
    Calls Try.prog 3 #[.int .u32 f, .slice A n c, .int .u16 v0] w fun e w' => e = .returned (.bool true) ∧ Fr No w w' := by
  have HMD := Lib.hid (made_any f A n c gs w h hn hc hf0 hf1 hg)
  have HG := Lib.hid (madeL_good (m := min n 300) ⟨hf0, hf1⟩ hg (by omega))
  have HLN := Lib.hid (madeL_len f gs (min n 300))
  have HSP := Lib.hid (show (madeL f gs (min n 300)).getD (min n 300) 0 ≤ f + 300 * 65536 by
    rw [madeL_get f gs (Nat.le_refl _)]
    have := madeAt_bnd hg (f := f) (min n 300)
    omega)
  have HSP0 := Lib.hid (show (madeL f gs (min n 300)).getD 0 0 = f by
    rw [madeL_get f gs (Nat.zero_le _)]; rfl)
  clear h hg
  generalize madeL f gs (min n 300) = L at *
  obtain ⟨m, hm, hm3⟩ : ∃ m, m = min n 300 ∧ m ≤ 300 := ⟨_, rfl, by omega⟩
  rw [← hm] at HLN HSP
  clear hm
  obtain ⟨v, hv⟩ : ∃ v, v = v0 + 1 := ⟨_, rfl⟩
  have hv2 : 1 ≤ v := by omega
  have hv3 : v ≤ 65536 := by omega
  have HV := Lib.hid hv
  have HW0 := Lib.hid (wnd_good HG.out (v := v) (by omega) (by omega))
  have HBE := Lib.hid (backF_end HG.out (v := v) (by omega) (by omega))
  have HBS := Lib.hid (fun k (hk : k < m + 1) => backF_succ (l := L) v (k := k) (by rw [HLN.out]; exact hk))
  have HBB := Lib.hid (fun k (hk : k ≤ m + 1) => backF_bnd HG.out (v := v) (by omega) (by omega) k (by rw [HLN.out]; exact hk))
  have HB0 := Lib.hid (show backF L v 0 = (0, v - 4611686018427387904) from rfl)
  have HC := Lib.hid (show covN L v = (cov L v).1 by unfold covN; rw [if_pos HW0.out])
  have HC1 := Lib.hid (cov_each HG.out)
  have HW1 := Lib.hid (wnd_good HG.out (v := 1) (by omega) (by omega))
  rw [HLN.out] at HBE HC1
  clear hv
  have HCM := Lib.hid (show f ≤ L.getD m 0 from by
    have := HG.out.le (show 0 ≤ m by omega) (by rw [HLN.out]; omega)
    rwa [HSP0.out] at this)
  have HCO := Lib.hid (show covN L (L.getD m 0 - f + 1) = 1 from by
    have := cov_one HG.out (by rw [HLN.out]; omega) (by rw [HLN.out, HSP0.out, Nat.add_sub_cancel]; have := HSP.out; omega)
    rwa [HLN.out, HSP0.out, Nat.add_sub_cancel] at this)
  have HWO := Lib.hid (wnd_good HG.out (v := L.getD m 0 - f + 1) (by have := HCM.out; omega) (by have := HSP.out; omega))
  go_enter Try.func3, Try.ntmps3
  go_wp2_with fail
  refine HMD.out.mono ?_
  rintro e w2 ⟨A2, c2, rfl, ho, hf⟩
  have HL := Lib.hid (Reads.of_own ho)
  have HF := Lib.hid hf
  clear ho hf
  rw [HLN.out] at HL ⊢
  go_wp2_with fail
  rw [← HV.out]
  refine (cover_any A2 (m + 1) c2 _ L v _ HL.out (Nat.le_refl _)).mono ?_
  rintro e w3 ⟨rfl, hf⟩
  replace HL := Lib.hid (HL.out.fr0 hf)
  replace HF := Lib.hid (HF.out.then0 hf)
  rw [HW0.out]
  clear hf
  obtain ⟨cn, hcn⟩ : ∃ cn, cn = covN L v := ⟨_, rfl⟩
  rw [← hcn] at HBE HC ⊢
  clear hcn
  go_wp2
  go_loopw [11, 12, 39] (fun a x i wr => ∃ k : Nat, i = .int .i64 k ∧ k ≤ m + 1 ∧ a = .int .i64 (backF L v k).1 ∧ x = .int .i64 (v - (backF L v k).2) ∧ w3 = wr) (fun _ _ i _ => m + 1 - (intOf i).toNat)
  case atStart => exact ⟨0, rfl, Nat.zero_le _, by rw [HB0.out], by rw [HB0.out]; congr 1; omega, rfl⟩
  case round =>
    obtain ⟨k, rfl, hk, rfl, rfl, rfl⟩ := hrel
    by_cases hlt : k < m + 1
    · obtain ⟨b, off, rfl, hb, hcc⟩ := HL.out.int_at (k := m - k) (by omega)
      have hv := HG.out.val (m - k) (by rw [HLN.out]; omega)
      have HS := Lib.hid (HBS.out k hlt)
      have hbb := HBB.out k hk
      rw [HLN.out, Nat.add_sub_cancel] at HS
      obtain ⟨hva, hvb⟩ := hv
      obtain ⟨hb1, hb2, hb3, hb4⟩ := hbb
      have hl1 : (k : Int) < (m : Int) + 1 := by omega
      have hl2 : (0 : Int) ≤ (m : Int) - (k : Int) := by omega
      have hl3 : (m : Int) - (k : Int) < (m : Int) + 1 := by omega
      have hl4 : ((m : Int) - (k : Int)).toNat = m - k := by omega
      have hl5 : (k : Int) ≤ (m : Int) := by omega
      generalize L.getD (m - k) 0 = t at *
      generalize backF L v k = s at *
      by_cases hp : s.2 ≤ -t
      · have HE := Lib.hid (show covStep v s (-t) = (s.1 + 1, -t + v) by unfold covStep; rw [if_pos hp])
        have hq : t + v ≤ v - s.2 := by omega
        clear hp
        go_wp2
        go_roundw
        case rel => exact ⟨k + 1, by go_num, by omega, by rw [HS.out, HE.out], by rw [HS.out, HE.out]; congr 1; simp only; omega, (by trivial)⟩
        case measure => simp [intOf]; omega
      · have HE := Lib.hid (show covStep v s (-t) = s by unfold covStep; rw [if_neg hp])
        have hq : ¬ t + v ≤ v - s.2 := by omega
        clear hp
        go_wp2
        go_roundw
        case rel => exact ⟨k + 1, by go_num, by omega, by rw [HS.out, HE.out], by rw [HS.out, HE.out], (by trivial)⟩
        case measure => simp [intOf]; omega
    · rw [show k = m + 1 by omega, HBE.out]
      have hcc : (cn != cn) = false := by simp
      have hmm : ¬ ((m + 1 : Nat) : Int) < (m : Int) + 1 := by omega
      clear hlt hk
      go_wp2
      go_loopw [15, 16, 64] (fun a x i wr => ∃ k : Nat, i = .int .i64 k ∧ k ≤ m + 1 ∧ a = .int .i64 (cov (L.take k) v).1 ∧ x = .int .i64 (cov (L.take k) v).2 ∧ w3 = wr) (fun _ _ i _ => m + 1 - (intOf i).toNat)
      case atStart => exact ⟨0, rfl, Nat.zero_le _, rfl, rfl, rfl⟩
      case round =>
        obtain ⟨k, rfl, hk, rfl, rfl, rfl⟩ := hrel
        by_cases hlt : k < m + 1
        · obtain ⟨b, off, rfl, hb, hcc⟩ := HL.out.int_at (k := k) hlt
          have hv := HG.out.val k (by rw [HLN.out]; exact hlt)
          have HS := Lib.hid (cov_succ v (show k < L.length by rw [HLN.out]; exact hlt))
          obtain ⟨hq1, hq2, hq3, hq4⟩ := cov_bnd v ⟨hv2, by omega⟩ (L.take k) (fun x hx => HG.out.mem x (List.mem_of_mem_take hx)) (0, -1) (by simp)
          rw [show (L.take k).foldl (covStep v) (0, -1) = cov (L.take k) v from rfl] at hq1 hq2 hq3 hq4
          have hl2 := List.length_take_le k L
          have hq5 : (cov (L.take k) v).1 ≤ 100000 := by simp at hq2; omega
          have hl1 : (k : Int) < (m : Int) + 1 := by omega
          obtain ⟨hva, hvb⟩ := hv
          clear hq2 hl2
          generalize L.getD k 0 = t at *
          generalize cov (L.take k) v = s at *
          by_cases hts : s.2 ≤ t
          · have HE := Lib.hid (show covStep v s t = (s.1 + 1, t + v) by unfold covStep; rw [if_pos hts])
            go_wp2
            go_roundw
            case rel => exact ⟨k + 1, by go_num, by omega, by rw [HS.out, HE.out], by rw [HS.out, HE.out], (by trivial)⟩
            case measure => simp [intOf]; omega
          · have HE := Lib.hid (show covStep v s t = s by unfold covStep; rw [if_neg hts])
            go_wp2
            go_roundw
            case rel => exact ⟨k + 1, by go_num, by omega, by rw [HS.out, HE.out], by rw [HS.out, HE.out], (by trivial)⟩
            case measure => simp [intOf]; omega
        · rw [show L.take k = L from List.take_of_length_le (by rw [HLN.out]; omega), ← HC.out]
          obtain ⟨b, off, rfl, hb, hc1⟩ := HL.out.int_at (k := m) (by omega)
          obtain ⟨b', off', hbb, _, hc0⟩ := HL.out.int_at (k := 0) (by omega)
          injection hbb with hbb
          injection hbb with hb1 hb2
          subst hb1
          subst hb2
          rw [HSP0.out, Nat.add_zero] at hc0
          have hsp := HSP.out
          have hcm := HCM.out
          have hvm := HG.out.val m (by rw [HLN.out]; omega)
          obtain ⟨hvm1, hvm2⟩ := hvm
          generalize L.getD m 0 = t at *
          have hk0 : (0 : Int) < (m : Int) + 1 := by omega
          have hk1 : (m : Int) < (m : Int) + 1 := by omega
          have hw1 : IntKind.i64.wrap ((m : Int) + 1 - 1) = (m : Int) := by simp only [IntKind.wrap_i64]; omega
          have hw1b : IntKind.i64.wrap (m : Int) = (m : Int) := by simp only [IntKind.wrap_i64]; omega
          have hm0 : (0 : Int) ≤ (m : Int) := by omega
          have hw2 : IntKind.i64.wrap (t - f) = t - f := by simp only [IntKind.wrap_i64]; omega
          have hw3 : IntKind.i64.wrap (t - f + 1) = t - f + 1 := by simp only [IntKind.wrap_i64]; omega
          have HC1' := Lib.hid hc1
          have HC0' := Lib.hid hc0
          have HR4 := Lib.hid (fun X (hX : Fr No w3 X) => cover_any (some ⟨b, off, none⟩) (m + 1) c2 _ L (t - f + 1) X (HL.out.fr0 hX) (Nat.le_refl _))
          have hbw := hb
          go_wp2
          go_region_held3 (fun w' => w'.cell? ⟨b, off + m, none⟩ = some (.int .i64 t) ∧ w'.cell? ⟨b, off, none⟩ = some (.int .i64 f)) (first | go_keep | exact k1)
            ((go_at_call 15; refine (HR4.out _ ((Fr.refl No w3).drew)).mono ?_; rintro e w4 ⟨rfl, hf⟩; have F4 := Lib.hid (((Fr.refl No w3).drew).then0 hf); have k1 : w4.cell? ⟨b, off + m, none⟩ = some (.int .i64 t) ∧ w4.cell? ⟨b, off, none⟩ = some (.int .i64 f) := ⟨(F4.out.cell (p := ⟨b, off + m, none⟩) hbw (fun x => x)).trans HC1'.out, (F4.out.cell (p := ⟨b, off, none⟩) hbw (fun x => x)).trans HC0'.out⟩; clear hf))
          all_goals
            have HL5 := Lib.hid (HL.out.fr0 F4.out)
            have HF5 := Lib.hid (HF.out.then0 F4.out)
            rw [HCO.out, HWO.out]
            go_wp2_with fail
            refine (cover_any (some ⟨b, off, none⟩) (m + 1) c2 _ L 1 _ HL5.out (Nat.le_refl _)).mono ?_
            rintro e w6 ⟨rfl, hf⟩
            rw [HC1.out, HW1.out]
            replace HF5 := Lib.hid (HF5.out.then0 hf)
            clear hf
            have q1 : (cn == cn) = true := by simp
            have q2 : ((m : Int) + 1 == (m : Int) + 1) = true := by simp
            go_wp2_with fail
            refine (works_any _).mono ?_
            rintro e w7 ⟨rfl, hf⟩
            go_wp2
            go_ret
            exact ⟨rfl, HF5.out.then0 hf⟩
end Go.Proofs.Ytclhdhgagjpicaa
