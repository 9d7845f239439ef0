/- The contract of symMerge where one side has one item. -/
import Derived.Test.YtbndmelkdamgjaaVRot
namespace Go.Proofs.Ytbndmelkdamgjaa.So
open Go.RowKit Go.Wk

/-- What a merge gives. -/
def Merged (g b c p q : Nat) (y : KY) (L : List TI) (w : World) (x : Ending) (w' : World) : Prop := x = .returned (.tuple #[]) ∧ ∃ L', Srtr w' g b c y L' ∧ Turn p q L L' ∧ Srt y p q L' ∧ Fr (· = b) w w'

set_option maxRecDepth 100000 in
set_option maxHeartbeats 8000000 in
theorem sym_left (g b c n p q : Nat) (y : KY) (L : List TI) (w : World) (hs : Srtr w g b c y L) (hn : L.length = n) (hM : Mrg y p (p + 1) q L) (hn2 : n ≤ 1000000000000) :
    Calls Try.prog 98 #[.slice (some ⟨b, 0, none⟩) n c, .int .i64 p, .int .i64 ((p : Int) + 1), .int .i64 q, .func (.func 78) #[] #[.pointer (some ⟨g, 0, none⟩)]] w (Merged g b c p q y L w) := by
  have HS := Lib.hid hs
  have HN := Lib.hid hn
  have HM := Lib.hid hM
  have hqn : q ≤ n := by rw [← hn]; exact hM.bl
  have hpq := hM.mb
  clear hs hn hM
  have w1 : IntKind.i64.wrap ((p : Int) + 1 - (p : Int)) = 1 := by simp only [IntKind.wrap_i64]; omega
  have w2 : IntKind.i64.wrap ((p : Int) + 1 - (p : Int)) == 1 := by rw [w1]; rfl
  have w3 : (p : Int) + 1 - (p : Int) = 1 := by omega
  go_enter Try.func98, Try.ntmps98
  go_wp2
  go_loopw [10, 11] (fun i j wr => ∃ (s r : Nat), i = .int .i64 s ∧ j = .int .i64 r ∧ p + 1 ≤ s ∧ s ≤ r ∧ r ≤ q ∧ Hid (∀ h, p + 1 ≤ h → h < s → tlt y (ati L h) (ati L p)) ∧ Hid (∀ h, r ≤ h → h < q → tlt y (ati L p) (ati L h)) ∧ Hid (Fr No w wr)) (fun i j _ => (intOf j).toNat - (intOf i).toNat)
  case atStart => exact ⟨p + 1, q, by go_num, rfl, Nat.le_refl _, by omega, Nat.le_refl _, Lib.hid (fun h h1 h2 => by omega), Lib.hid (fun h h1 h2 => by omega), Lib.hid (Fr.refl _ _)⟩
  case round =>
    obtain ⟨s, r, rfl, rfl, h1, h2, h3, HL, HR, HF⟩ := hrel
    by_cases hlt : s < r
    · obtain ⟨h, hh⟩ : ∃ h : Nat, (s + r) / 2 = h := ⟨_, rfl⟩
      have hh2 : ((s : Int) + (r : Int)) / 2 = (h : Int) := by omega
      have hsh : s ≤ h := by omega
      have hhr : h < r := by omega
      have hl : L.length = n := HN.out
      have i1 : h < L.length := by omega
      have i2 : p < L.length := by omega
      have hS2 := HS.out.fr HF.out
      have HC := Lib.hid (hS2.cmp i1 i2 wr.drew (Fr.refl _ _).drew)
      obtain ⟨s0, t0⟩ := hS2.two i1 i2 wr (Fr.refl _ _)
      have SK := Lib.hid (fun X hX => hS2.two i1 i2 X ((Fr.refl No wr).drew.then0 hX))
      have HT := HM.out.tags p h (Nat.le_refl _) (by omega) (by omega) (by omega)
      have HLT := Lib.hid (ord_tlt (y := y) HT)
      have HGE := Lib.hid (nord_tlt (y := y) HT)
      have HRT := Lib.hid HM.out.right
      obtain ⟨o, ho⟩ : ∃ o, o = ordI y (ati L h).1 (ati L p).1 := ⟨_, rfl⟩
      rw [← ho] at HC HLT HGE
      clear ho HT hS2 hl hh
      generalize hx : (ati L h).1 = x at *
      generalize hz : (ati L p).1 = z at *
      clear hx hz
      try dsimp only at *
      have v1 : (h : Int) < (n : Int) := by omega
      have v2 : (p : Int) < (n : Int) := by omega
      clear i1 i2
      by_cases ho : o < 0
      · have hA := HLT.out.1 ho
        have HA := Lib.hid (show ∀ k, p + 1 ≤ k → k < h + 1 → tlt y (ati L k) (ati L p) from fun k k1 k2 => by
          by_cases e : k = h
          · rw [e]; exact hA
          · exact tlt_trans (HRT.out k h k1 (by omega) (by omega)) hA)
        clear hA
        go_wp2
        go_region_held3 (fun w' => w'.cell? ⟨b, h, none⟩ = some (.int .i64 x)
            ∧ w'.cell? ⟨b, p, none⟩ = some (.int .i64 z))
          (first | exact SK.out _ FA.out | exact ⟨s0, t0⟩ | go_keep)
          (first | (go_at_call 78; ((with_reducible refine HC.out.mono ?_); rintro ex wA ⟨rfl, hf⟩); have FA := Lib.hid hf; clear hf))
        all_goals
          go_wp2
          go_roundw
          case rel => exact ⟨h + 1, r, by go_num, rfl, by omega, by omega, by omega, HA, HR, Lib.hid (HF.out.then0 ((Fr.refl _ _).drew.then0 FA.out))⟩
          case measure => simp [intOf]; omega
      · have hA := HGE.out.1 ho
        have HA := Lib.hid (show ∀ k, h ≤ k → k < q → tlt y (ati L p) (ati L k) from fun k k1 k2 => by
          by_cases e : k = h
          · rw [e]; exact hA
          · exact tlt_trans hA (HRT.out h k (by omega) (by omega) k2))
        clear hA
        go_wp2
        go_region_held3 (fun w' => w'.cell? ⟨b, h, none⟩ = some (.int .i64 x)
            ∧ w'.cell? ⟨b, p, none⟩ = some (.int .i64 z))
          (first | exact SK.out _ FA.out | exact ⟨s0, t0⟩ | go_keep)
          (first | (go_at_call 78; ((with_reducible refine HC.out.mono ?_); rintro ex wA ⟨rfl, hf⟩); have FA := Lib.hid hf; clear hf))
        all_goals
          go_wp2
          go_roundw
          case rel => exact ⟨s, h, rfl, rfl, h1, by omega, by omega, HL, HA, Lib.hid (HF.out.then0 ((Fr.refl _ _).drew.then0 FA.out))⟩
          case measure => simp [intOf]; omega
    · obtain rfl : s = r := by omega
      have hs1 : (1 : Int) ≤ (s : Int) := by omega
      have w5 : IntKind.i64.wrap ((s : Int) - 1) = ((s - 1 : Nat) : Int) := by simp only [IntKind.wrap_i64]; omega
      have HS2 := Lib.hid (HS.out.fr HF.out)
      have HF2 := Lib.hid (Fr.mono HF.out (T := (· = b)) (fun _ x => x.elim))
      clear HF
      go_wp2
      go_loopw [13] (fun i wr => ∃ (k : Nat) (M : List TI), i = .int .i64 k ∧ p ≤ k ∧ k + 1 ≤ s ∧ Hid (MvU p k L M) ∧ Hid (Srtr wr g b c y M) ∧ Hid (Fr (· = b) w wr)) (fun i _ => s - (intOf i).toNat)
      case atStart => exact ⟨p, L, rfl, Nat.le_refl _, by omega, Lib.hid (MvU.start p L), HS2, HF2⟩
      case round =>
        clear HS2 HF2
        obtain ⟨k, M, rfl, hpk, hks, HX, HM2, HF⟩ := hrel
        by_cases hlt2 : k < s - 1
        · have hl2 : M.length = n := HX.out.perm.length_eq.trans HN.out
          have HST := Lib.hid (HX.out.step hpk (by omega))
          have i1 : k < M.length := by omega
          have i2 : k + 1 < M.length := by omega
          obtain ⟨s0, t0⟩ := HM2.out.two i1 i2 wr.drew (Fr.refl _ _).drew
          obtain ⟨s0', t0'⟩ := HM2.out.two i1 i2 wr (Fr.refl _ _)
          have HXC := Lib.hid (fun X' hX' => HM2.out.exch HF.out i1 i2 wr X' (Fr.refl _ _) hX')
          have hfz := (HM2.out.row).frozen
          have z0 := hfz (k)
          have z4 := hfz (k + 1)
          generalize hx : (ati M k).1 = x at *
          generalize hz : (ati M (k + 1)).1 = z at *
          clear hx hz
          try dsimp only at *
          have v1 : (k : Int) < (n : Int) := by omega
          have v2 : (k : Int) + 1 < (n : Int) := by omega
          have v3 : 0 ≤ (k : Int) + 1 := by omega
          have v4 : (k : Int) < (s : Int) - 1 := by omega
          have v5 : (k : Int) < ((s - 1 : Nat) : Int) := by omega
          clear hfz i1 i2 hl2
          go_wp2
          go_region
          all_goals go_wp2
          go_roundw
          case rel => exact ⟨k + 1, _, by go_num, by omega, by omega, HST, Lib.hid ((HXC.out _ rfl).1.fr (Fr.refl _ _).drew), Lib.hid (HXC.out _ rfl).2.drew⟩
          case measure => simp [intOf]; omega
        · obtain rfl : k = s - 1 := by omega
          have v4 : ¬ (((s - 1 : Nat) : Int) < (s : Int) - 1) := by omega
          go_wp2
          go_end0
          exact ⟨rfl, M, HM2.out, HX.out.turn hpk (by omega), HM.out.up h1 h3 HL.out HR.out HX.out, HF.out⟩
end Go.Proofs.Ytbndmelkdamgjaa.So
