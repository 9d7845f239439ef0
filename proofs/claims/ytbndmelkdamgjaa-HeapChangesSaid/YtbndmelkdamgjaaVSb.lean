/- The contract of symMerge where the right side has one item. -/
import Derived.Test.YtbndmelkdamgjaaVSa
namespace Go.Proofs.Ytbndmelkdamgjaa.So
open Go.RowKit Go.Wk

set_option maxRecDepth 100000 in
set_option maxHeartbeats 8000000 in
theorem sym_right (g b c n p m : Nat) (y : KY) (L : List TI) (w : World) (hs : Srtr w g b c y L) (hn : L.length = n) (hM : Mrg y p m (m + 1) L) (hpm : p + 1 < m) (hn2 : n ≤ 1000000000000) :
    Calls Try.prog 98 #[.slice (some ⟨b, 0, none⟩) n c, .int .i64 p, .int .i64 m, .int .i64 ((m : Int) + 1), .func (.func 78) #[] #[.pointer (some ⟨g, 0, none⟩)]] w (Merged g b c p (m + 1) y L w) := by
  have HS := Lib.hid hs
  have HN := Lib.hid hn
  have HM := Lib.hid hM
  have hqn : m + 1 ≤ n := by rw [← hn]; exact hM.bl
  clear hs hn hM
  have w1 : IntKind.i64.wrap ((m : Int) - (p : Int)) = (m : Int) - (p : Int) := by simp only [IntKind.wrap_i64]; omega
  have w2 : ((m : Int) - (p : Int) == 1) = false := by simp; omega
  have w3 : (m : Int) + 1 - (m : Int) = 1 := by omega
  have w4 : ¬ ((m : Int) - (p : Int) = 1) := by omega
  go_enter Try.func98, Try.ntmps98
  go_wp2
  go_loopw [14, 15] (fun i j wr => ∃ (s r : Nat), i = .int .i64 s ∧ j = .int .i64 r ∧ p ≤ s ∧ s ≤ r ∧ r ≤ m ∧ Hid (∀ h, p ≤ h → h < s → tlt y (ati L h) (ati L m)) ∧ Hid (∀ h, r ≤ h → h < m → tlt y (ati L m) (ati L h)) ∧ Hid (Fr No w wr)) (fun i j _ => (intOf j).toNat - (intOf i).toNat)
  case atStart => exact ⟨p, m, rfl, rfl, Nat.le_refl _, by omega, Nat.le_refl _, Lib.hid (fun h h1 h2 => by omega), Lib.hid (fun h h1 h2 => by omega), Lib.hid (Fr.refl _ _)⟩
  case round =>
    obtain ⟨s, r, rfl, rfl, h1, h2, h3, HL, HR, HF⟩ := hrel
    by_cases hlt : s < r
    · obtain ⟨h, hh⟩ : ∃ h : Nat, (s + r) / 2 = h := ⟨_, rfl⟩
      have hh2 : ((s : Int) + (r : Int)) / 2 = (h : Int) := by omega
      have hsh : s ≤ h := by omega
      have hhr : h < r := by omega
      have hl : L.length = n := HN.out
      have i1 : m < L.length := by omega
      have i2 : h < L.length := by omega
      have hS2 := HS.out.fr HF.out
      have HC := Lib.hid (hS2.cmp i1 i2 wr.drew (Fr.refl _ _).drew)
      obtain ⟨s0, t0⟩ := hS2.two i1 i2 wr (Fr.refl _ _)
      have SK := Lib.hid (fun X hX => hS2.two i1 i2 X ((Fr.refl No wr).drew.then0 hX))
      have HT := HM.out.tags h m (by omega) (by omega) (Nat.le_refl _) (by omega)
      have HLT := Lib.hid (ord_tlt (y := y) HT)
      have HGE := Lib.hid (nord_tlt (y := y) HT)
      have HRT := Lib.hid HM.out.left
      obtain ⟨o, ho⟩ : ∃ o, o = ordI y (ati L m).1 (ati L h).1 := ⟨_, rfl⟩
      rw [← ho] at HC HLT HGE
      clear ho HT hS2 hl hh
      generalize hx : (ati L m).1 = x at *
      generalize hz : (ati L h).1 = z at *
      clear hx hz
      try dsimp only at *
      have v1 : (h : Int) < (n : Int) := by omega
      have v2 : (m : Int) < (n : Int) := by omega
      clear i1 i2
      by_cases ho : o < 0
      · have hd : decide (o < 0) = true := by simpa using ho
        have hA := HLT.out.1 ho
        have HA := Lib.hid (show ∀ k, h ≤ k → k < m → tlt y (ati L m) (ati L k) from fun k k1 k2 => by
          by_cases e : k = h
          · rw [e]; exact hA
          · exact tlt_trans hA (HRT.out h k (by omega) (by omega) k2))
        clear hA
        go_wp2
        go_region_held3 (fun w' => w'.cell? ⟨b, m, none⟩ = some (.int .i64 x)
            ∧ w'.cell? ⟨b, h, none⟩ = some (.int .i64 z))
          (first | exact SK.out _ FA.out | exact ⟨s0, t0⟩ | go_keep)
          (first | (go_at_call 78; ((with_reducible refine HC.out.mono ?_); rintro ex wA ⟨rfl, hf⟩); have FA := Lib.hid hf; clear hf))
        all_goals
          go_wp2
          go_roundw
          case rel => exact ⟨s, h, rfl, rfl, h1, by omega, by omega, HL, HA, Lib.hid (HF.out.then0 ((Fr.refl _ _).drew.then0 FA.out))⟩
          case measure => simp [intOf]; omega
      · have hd : decide (o < 0) = false := by simpa using ho
        have hA := HGE.out.1 ho
        have HA := Lib.hid (show ∀ k, p ≤ k → k < h + 1 → tlt y (ati L k) (ati L m) from fun k k1 k2 => by
          by_cases e : k = h
          · rw [e]; exact hA
          · exact tlt_trans (HRT.out k h k1 (by omega) (by omega)) hA)
        clear hA
        go_wp2
        go_region_held3 (fun w' => w'.cell? ⟨b, m, none⟩ = some (.int .i64 x)
            ∧ w'.cell? ⟨b, h, none⟩ = some (.int .i64 z))
          (first | exact SK.out _ FA.out | exact ⟨s0, t0⟩ | go_keep)
          (first | (go_at_call 78; ((with_reducible refine HC.out.mono ?_); rintro ex wA ⟨rfl, hf⟩); have FA := Lib.hid hf; clear hf))
        all_goals
          go_wp2
          go_roundw
          case rel => exact ⟨h + 1, r, by go_num, rfl, by omega, by omega, by omega, HA, HR, Lib.hid (HF.out.then0 ((Fr.refl _ _).drew.then0 FA.out))⟩
          case measure => simp [intOf]; omega
    · obtain rfl : s = r := by omega
      have HS2 := Lib.hid (HS.out.fr HF.out)
      have HF2 := Lib.hid (Fr.mono HF.out (T := (· = b)) (fun _ x => x.elim))
      clear HF
      go_wp2
      go_loopw [17] (fun i wr => ∃ (k : Nat) (M : List TI), i = .int .i64 k ∧ s ≤ k ∧ k ≤ m ∧ Hid (MvD m k L M) ∧ Hid (Srtr wr g b c y M) ∧ Hid (Fr (· = b) w wr)) (fun i _ => (intOf i).toNat)
      case atStart => exact ⟨m, L, rfl, h3, Nat.le_refl _, Lib.hid (MvD.start m L), HS2, HF2⟩
      case round =>
        clear HS2 HF2
        obtain ⟨k, M, rfl, hpk, hks, HX, HM2, HF⟩ := hrel
        by_cases hlt2 : s < k
        · obtain ⟨r, rfl⟩ : ∃ r, k = r + 1 := ⟨k - 1, by omega⟩
          have hl2 : M.length = n := HX.out.perm.length_eq.trans HN.out
          have HST := Lib.hid (HX.out.step (by omega) hks (by omega))
          rw [show r + 1 - 1 = r by omega] at HST
          have i1 : r + 1 < M.length := by omega
          have i2 : r < M.length := by omega
          obtain ⟨s0, t0⟩ := HM2.out.two i1 i2 wr.drew (Fr.refl _ _).drew
          obtain ⟨s0', t0'⟩ := HM2.out.two i1 i2 wr (Fr.refl _ _)
          have HXC := Lib.hid (fun X' hX' => HM2.out.exch HF.out i1 i2 wr X' (Fr.refl _ _) hX')
          have hfz := (HM2.out.row).frozen
          have z0 := hfz (r)
          have z4 := hfz (r + 1)
          generalize hx : (ati M (r + 1)).1 = x at *
          generalize hz : (ati M r).1 = z at *
          clear hx hz
          try dsimp only at *
          have v1 : (r : Int) < (n : Int) := by omega
          have v2 : (r : Int) + 1 < (n : Int) := by omega
          have v3 : 0 ≤ (r : Int) + 1 := by omega
          have v4 : (s : Int) < (r : Int) + 1 := by omega
          have v5 : IntKind.i64.wrap ((r : Int) + 1 - 1) = (r : Int) := by simp only [IntKind.wrap_i64]; omega
          have v6 : IntKind.i64.wrap (r : Int) = (r : Int) := by simp only [IntKind.wrap_i64]; omega
          clear hfz i1 i2 hl2
          go_wp2
          go_region
          all_goals go_wp2
          go_roundw
          case rel => exact ⟨r, _, rfl, by omega, by omega, HST, Lib.hid ((HXC.out _ rfl).1.fr (Fr.refl _ _).drew), Lib.hid (HXC.out _ rfl).2.drew⟩
          case measure => simp [intOf] <;> omega
        · obtain rfl : k = s := by omega
          go_wp2
          go_end0
          exact ⟨rfl, M, HM2.out, HX.out.turn h1 hks (by omega), HM.out.down h1 h3 HL.out HR.out HX.out, HF.out⟩
end Go.Proofs.Ytbndmelkdamgjaa.So
