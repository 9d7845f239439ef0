/- The contracts of symMerge and of the stable sort. -/
import Derived.Test.YtbndmelkdamgjaaVSc
import Derived.Test.YtbndmelkdamgjaaVBl
namespace Go.Proofs.Ytbndmelkdamgjaa.So
open Go.RowKit Go.Wk

theorem sym_any (g b c n : Nat) (y : KY) (hn2 : n ≤ 1000000000000) : ∀ (N : Nat) (p m q : Nat) (L : List TI) (w : World), q - p ≤ N → Srtr w g b c y L → L.length = n → Mrg y p m q L → Calls Try.prog 98 #[.slice (some ⟨b, 0, none⟩) n c, .int .i64 p, .int .i64 m, .int .i64 q, .func (.func 78) #[] #[.pointer (some ⟨g, 0, none⟩)]] w (Merged g b c p q y L w)
  | 0, p, m, q, L, w, hN, hs, hn, hM => by have := hM.am; have := hM.mb; omega
  | N + 1, p, m, q, L, w, hN, hs, hn, hM => by
    have h1 := hM.am
    have h2 := hM.mb
    by_cases c1 : m = p + 1
    · subst c1
      have := sym_left g b c n p q y L w hs hn hM hn2
      rwa [show ((p : Int) + 1) = ((p + 1 : Nat) : Int) by omega] at this
    · by_cases c2 : q = m + 1
      · subst c2
        have := sym_right g b c n p m y L w hs hn hM (by omega) hn2
        rwa [show ((m : Int) + 1) = ((m + 1 : Nat) : Int) by omega] at this
      · exact sym_mid g b c n p m q y L w hs hn hM (by omega) (by omega) hn2 (fun p' m' q' L' w' hlt a1 a2 a3 => sym_any g b c n y hn2 N p' m' q' L' w' (by omega) a1 a2 a3)

set_option maxRecDepth 100000 in
set_option maxHeartbeats 8000000 in
theorem stb_any (g b c n : Nat) (y : KY) (L : List TI) (w : World) (hs : Srtr w g b c y L) (hn : L.length = n) (ht : Tags 0 n L) (hn2 : n ≤ 1000000000) :
    Calls Try.prog 94 #[.slice (some ⟨b, 0, none⟩) n c, .int .i64 n, .func (.func 78) #[] #[.pointer (some ⟨g, 0, none⟩)]] w (Merged g b c 0 n y L w) := by
  have HS := Lib.hid hs
  have HN := Lib.hid hn
  have HT := Lib.hid ht
  have HBE := Lib.hid (show ∀ k sz, bend sz n (k * sz) = min (k * sz + sz) n from fun _ _ => rfl)
  clear hs hn ht
  go_enter Try.func94, Try.ntmps94
  go_wp2
  go_loopw [7, 8] (fun i j wr => ∃ (k : Nat) (M : List TI), i = .int .i64 ((k * 20 : Nat) : Int) ∧ j = .int .i64 ((k * 20 + 20 : Nat) : Int) ∧ k * 20 ≤ n ∧ Hid (Bl y 20 n 0 (k * 20) L M) ∧ Hid (∀ i, k * 20 ≤ i → ati M i = ati L i) ∧ Hid (Turn 0 n L M) ∧ Hid (Srtr wr g b c y M) ∧ Hid (Fr (· = b) w wr)) (fun i _ _ => n - (intOf i).toNat)
  case atStart => exact ⟨0, L, by go_num, by go_num, Nat.zero_le _, Lib.hid (by rw [Nat.zero_mul]; exact Bl.none_ _ _ _ _ _ _), Lib.hid (fun _ _ => rfl), Lib.hid (Turn.refl _ _ _), HS, Lib.hid (Fr.refl _ _)⟩
  case round =>
    obtain ⟨k, M, rfl, rfl, hk, HB, HO, HTU, HM, HF⟩ := hrel
    obtain ⟨a, ha⟩ : ∃ a, k * 20 = a := ⟨_, rfl⟩
    have HA := Lib.hid ha
    have hlM := HTU.out.len.trans HN.out
    have htg := fun e (he : e ≤ n) => (show Tags a e M from (fun i j h1 h2 h3 => by rw [HO.out i (by rw [HA.out]; exact h1), HO.out j (by rw [HA.out]; omega)]; exact HT.out i j (Nat.zero_le _) h2 (by omega)))
    have HLM := Lib.hid hlM
    rw [ha] at HB HO hk
    by_cases hlt : a + 20 ≤ n
    · have hlt2 : ((a + 20 : Nat) : Int) ≤ (n : Int) := by omega
      have hlt3 : (a : Int) + 20 ≤ (n : Int) := by omega
      have HTG := Lib.hid (htg (a + 20) hlt)
      clear htg hlM
      rw [ha]
      clear ha
      go_wp2_with fail
      refine (ins_any g b c n a (a + 20) y M wr HM.out HLM.out (by omega) hlt (by omega) HTG.out).mono ?_
      rintro x w' ⟨rfl, M', hs', ht', hsr', hf'⟩
      have HB2 := Lib.hid (show Bl y 20 n 0 (a + 20) L M' from by
        have h1 := HB.out
        rw [← HA.out] at h1 ht' hsr' ⊢
        exact h1.ins (fun i hi => HO.out i (by rw [← HA.out]; exact hi)) (by rw [HBE.out]; have := HA.out; omega) ht' hsr')
      have HO2 := Lib.hid (show ∀ i, a + 20 ≤ i → ati M' i = ati L i from fun i hi => (ht'.out i (by omega)).trans (HO.out i (by omega)))
      have HT2 := Lib.hid (HTU.out.trans (ht'.wide (Nat.zero_le _) hlt))
      have HS2 := Lib.hid hs'
      have HF2 := Lib.hid (HF.out.trans hf' (fun _ _ x => x))
      clear hs' ht' hsr' hf'
      go_wp2
      go_roundw
      case rel =>
        have e1 : (k + 1) * 20 = a + 20 := by have := HA.out; omega
        exact ⟨k + 1, M', by rw [e1]; go_num, by rw [e1]; go_num, by rw [e1]; exact hlt, by rw [e1]; exact HB2, by rw [e1]; exact HO2, HT2, HS2, HF2⟩
      case measure => simp [intOf]; omega
    · have hlt2 : ¬ ((a + 20 : Nat) : Int) ≤ (n : Int) := by omega
      have hlt3 : ¬ (a : Int) + 20 ≤ (n : Int) := by omega
      have HTG := Lib.hid (htg n (Nat.le_refl _))
      clear htg hlM
      rw [ha]
      clear ha
      go_wp2_with fail
      refine (ins_any g b c n a n y M wr HM.out HLM.out hk (Nat.le_refl _) (by omega) HTG.out).mono ?_
      rintro x w' ⟨rfl, M', hs', ht', hsr', hf'⟩
      have HB2 := Lib.hid (show Bl y 20 n 0 n L M' from by
        have h1 := HB.out
        rw [← HA.out] at h1 ht' hsr'
        exact (h1.ins (fun i hi => HO.out i (by rw [← HA.out]; exact hi)) (by rw [HBE.out]; have := HA.out; omega) ht' hsr').less (by have := HA.out; omega))
      have HT2 := Lib.hid (HTU.out.trans (ht'.wide (Nat.zero_le _) (Nat.le_refl _)))
      have HS2 := Lib.hid hs'
      have HF2 := Lib.hid (HF.out.trans hf' (fun _ _ x => x))
      clear hs' ht' hsr' hf' HB HO HTU HM HF
      go_wp2
      go_loopw [6] (fun i wr => ∃ (sz : Nat) (M : List TI), i = .int .i64 sz ∧ 20 ≤ sz ∧ Hid (Bl y sz n 0 n L M) ∧ Hid (Turn 0 n L M) ∧ Hid (Srtr wr g b c y M) ∧ Hid (Fr (· = b) w wr)) (fun i _ => n - (intOf i).toNat)
      case atStart => exact ⟨20, M', rfl, Nat.le_refl _, HB2, HT2, HS2, HF2⟩
      case round =>
        clear HB2 HT2 HS2 HF2
        obtain ⟨sz, M, rfl, h20, HB, HTU, HM, HF⟩ := hrel
        by_cases hlt5 : sz < n
        · have hd1 : IntKind.i64.wrap (2 * (sz : Int)) = ((2 * sz : Nat) : Int) := by simp only [IntKind.wrap_i64]; omega
          have hd2 : wrap64 (2 * (sz : Int)) = ((2 * sz : Nat) : Int) := by unfold wrap64; omega
          have hd3 : wrap64 ((sz : Int) * 2) = ((2 * sz : Nat) : Int) := by unfold wrap64; omega
          go_wp2
          go_loopw [7, 8] (fun i j wr => ∃ (k : Nat) (M : List TI), i = .int .i64 ((k * (2 * sz) : Nat) : Int) ∧ j = .int .i64 ((k * (2 * sz) + 2 * sz : Nat) : Int) ∧ k * (2 * sz) ≤ n ∧ Hid (Bl2 y sz n k L M) ∧ Hid (Turn 0 n L M) ∧ Hid (Srtr wr g b c y M) ∧ Hid (Fr (· = b) w wr)) (fun i _ _ => n - (intOf i).toNat)
          case atStart => exact ⟨0, M, by go_num, by rw [Nat.zero_mul, Nat.zero_add]; go_num, by rw [Nat.zero_mul]; omega, Lib.hid (Bl2.start HB.out), HTU, HM, HF⟩
          case round =>
            clear HB HTU HM HF
            obtain ⟨k, M, rfl, rfl, hk, HB, HTU, HM, HF⟩ := hrel
            have HLM := Lib.hid (HTU.out.len.trans HN.out)
            have HMG := Lib.hid (fun hn => HB.out.mrg (by omega) hn HLM.out HT.out)
            have HNX := Lib.hid (fun (M' : List TI) hn => HB.out.next (M' := M') (by omega) hn)
            have HLS := Lib.hid HB.out.last
            have HST2 := Lib.hid (step2 k sz)
            have HBE2 := Lib.hid (HBE.out k (2 * sz))
            obtain ⟨a, ha⟩ : ∃ a, k * (2 * sz) = a := ⟨_, rfl⟩
            rw [ha] at hk HMG HNX HLS HST2 HBE2 ⊢
            have HA := Lib.hid ha
            clear ha
            by_cases hlt6 : a + 2 * sz ≤ n
            · have hlt7 : ((a + 2 * sz : Nat) : Int) ≤ (n : Int) := by omega
              have hlt8 : (a : Int) + 2 * (sz : Int) ≤ (n : Int) := by omega
              have hbe : bend (2 * sz) n a = a + 2 * sz := by rw [HBE2.out]; omega
              rw [hbe] at HMG HNX
              clear hbe
              have w1 : IntKind.i64.wrap ((a : Int) + (sz : Int)) = ((a + sz : Nat) : Int) := by simp only [IntKind.wrap_i64]; omega
              go_wp2_with fail
              refine (sym_any g b c n y (by omega) _ a (a + sz) (a + 2 * sz) M wr (Nat.le_refl _) HM.out HLM.out (HMG.out (by omega))).mono ?_
              rintro x w' ⟨rfl, M', hs', ht', hsr', hf'⟩
              have HB2 := Lib.hid (HNX.out M' (by omega) ht' hsr')
              have HT2 := Lib.hid (HTU.out.trans (ht'.wide (Nat.zero_le _) hlt6))
              have HS2 := Lib.hid hs'
              have HF2 := Lib.hid (HF.out.trans hf' (fun _ _ x => x))
              clear hs' ht' hsr' hf'
              go_wp2
              go_roundw
              case rel => exact ⟨k + 1, M', by rw [HST2.out]; go_num, by rw [HST2.out]; go_num, by rw [HST2.out]; exact hlt6, HB2, HT2, HS2, HF2⟩
              case measure => simp [intOf]; omega
            · have hlt7 : ¬ ((a + 2 * sz : Nat) : Int) ≤ (n : Int) := by omega
              have hlt8 : ¬ (a : Int) + 2 * (sz : Int) ≤ (n : Int) := by omega
              have hbe : bend (2 * sz) n a = n := by rw [HBE2.out]; omega
              rw [hbe] at HMG HNX
              clear hbe
              have w1 : IntKind.i64.wrap ((a : Int) + (sz : Int)) = ((a + sz : Nat) : Int) := by simp only [IntKind.wrap_i64]; omega
              have w2 : IntKind.i64.wrap ((sz : Int) * 2) = ((2 * sz : Nat) : Int) := by simp only [IntKind.wrap_i64]; omega
              by_cases hlt9 : a + sz < n
              · have hlt10 : ((a + sz : Nat) : Int) < (n : Int) := by omega
                have hlt11 : (a : Int) + (sz : Int) < (n : Int) := by omega
                go_wp2_with fail
                refine (sym_any g b c n y (by omega) _ a (a + sz) n M wr (Nat.le_refl _) HM.out HLM.out (HMG.out hlt9)).mono ?_
                rintro x w' ⟨rfl, M', hs', ht', hsr', hf'⟩
                have HB2 := Lib.hid (HNX.out M' hlt9 ht' hsr')
                have HB3 := Lib.hid (HB2.out.over (by rw [HST2.out]; omega))
                have HT2 := Lib.hid (HTU.out.trans (ht'.wide (Nat.zero_le _) (Nat.le_refl _)))
                have HS2 := Lib.hid hs'
                have HF2 := Lib.hid (HF.out.trans hf' (fun _ _ x => x))
                clear hs' ht' hsr' hf'
                go_wp2
                go_roundw
                case rel => exact ⟨2 * sz, M', by go_num, by omega, HB3, HT2, HS2, HF2⟩
                case measure => simp [intOf]; omega
              · have hlt10 : ¬ ((a + sz : Nat) : Int) < (n : Int) := by omega
                have hlt11 : ¬ (a : Int) + (sz : Int) < (n : Int) := by omega
                have HB3 := Lib.hid (HLS.out (by omega))
                go_wp2
                go_roundw
                case rel => exact ⟨2 * sz, M, by go_num, by omega, HB3, HTU, HM, HF⟩
                case measure => simp [intOf]; omega
        · go_wp2
          go_end0
          exact ⟨rfl, M, HM.out, HTU.out, HB.out.whole (by omega), HF.out⟩
theorem sortS_any (g b c n : Nat) (y : KY) (L : List TI) (w : World) (hs : Srtr w g b c y L) (hn : L.length = n) (ht : Tags 0 n L) (hn2 : n ≤ 1000000000) :
    Calls Try.prog 77 #[.slice (some ⟨b, 0, none⟩) n c, .func (.func 78) #[] #[.pointer (some ⟨g, 0, none⟩)]] w (Merged g b c 0 n y L w) := by
  have H := Lib.hid (stb_any g b c n y L w hs hn ht hn2)
  clear hs hn ht
  go_enter Try.func77, Try.ntmps77
  go_wp2_with fail
  refine H.out.mono ?_
  rintro x w' ⟨rfl, hr⟩
  go_wp2
  go_end0
  exact ⟨rfl, hr⟩
end Go.Proofs.Ytbndmelkdamgjaa.So
