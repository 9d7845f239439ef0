/- The contract of the insertion sort. -/
import Derived.Test.YtbndmelkdamgjaaVRw
namespace Go.Proofs.Ytbndmelkdamgjaa.So
open Go.RowKit Go.Wk

set_option maxRecDepth 100000 in
set_option maxHeartbeats 4000000 in
theorem ins_any (g b c n a e : Nat) (y : KY) (L : List TI) (w : World) (hs : Srtr w g b c y L) (hn : L.length = n) (ha : a ≤ e) (he : e ≤ n) (hn2 : n ≤ 1000000000000) (ht : Tags a e L) :
    Calls Try.prog 97 #[.slice (some ⟨b, 0, none⟩) n c, .int .i64 a, .int .i64 e, .func (.func 78) #[] #[.pointer (some ⟨g, 0, none⟩)]] w fun x w' => x = .returned (.tuple #[]) ∧ ∃ L', Srtr w' g b c y L' ∧ Turn a e L L' ∧ Srt y a e L' ∧ Fr (· = b) w w' := by
  have HS := Lib.hid hs
  have HT := Lib.hid ht
  have HN := Lib.hid hn
  clear hs ht hn
  by_cases hae : a = e
  · subst hae
    go_enter Try.func97, Try.ntmps97
    go_wp2
    go_loopw [8] (fun i wr => i = .int .i64 ((a : Int) + 1) ∧ w = wr) (fun _ _ => 0)
    case atStart => exact ⟨rfl, rfl⟩
    case round =>
      obtain ⟨rfl, rfl⟩ := hrel
      go_wp2
      go_end0
      exact ⟨rfl, L, HS.out, Turn.refl _ _ _, fun i j h1 h2 h3 => by omega, Fr.refl _ _⟩
  · have hlt : a < e := by omega
    clear hae
    go_enter Try.func97, Try.ntmps97
    go_wp2
    go_loopw [8] (fun i wr => ∃ (k : Nat) (M : List TI), i = .int .i64 k ∧ a + 1 ≤ k ∧ k ≤ e ∧ Hid (InsI y a k L M) ∧ Hid (Srtr wr g b c y M) ∧ Hid (Fr (· = b) w wr)) (fun i _ => e - (intOf i).toNat)
    case atStart => exact ⟨a + 1, L, by go_num, Nat.le_refl _, hlt, Lib.hid (InsI.first y a (a + 1) L (Nat.le_refl _)), HS, Lib.hid (Fr.refl _ _)⟩
    case round =>
      obtain ⟨k, M, rfl, hk1, hk2, HI, HM, HF⟩ := hrel
      by_cases hke : k < e
      · have hke2 : (k : Int) < (e : Int) := by omega
        go_wp2
        go_loopw [9] (fun j wr2 => ∃ (p : Nat) (M2 : List TI), j = .int .i64 p ∧ Hid (InsJ y a k p L M2) ∧ Hid (Srtr wr2 g b c y M2) ∧ Hid (Fr (· = b) w wr2)) (fun j _ => (intOf j).toNat - a)
        case atStart => exact ⟨k, M, rfl, Lib.hid (HI.out.begin (by omega) hke HT.out), HM, HF⟩
        case round =>
          clear HI HM HF
          obtain ⟨p, M2, rfl, HJ, HM2, HF2⟩ := hrel
          have hl2 : M2.length = n := HJ.out.turn.len.trans HN.out
          have hpa := HJ.out.aj
          have hpk := HJ.out.ji
          by_cases hpa2 : a < p
          · obtain ⟨q, rfl⟩ : ∃ q, p = q + 1 := ⟨p - 1, by omega⟩
            have HC := Lib.hid (HM2.out.cmp (i := q + 1) (j := q) (by omega) (by omega) wr.drew (Fr.refl _ _).drew)
            have s0 := HM2.out.row.cells (i := q + 1) (by omega)
            have t0 := HM2.out.row.cells (i := q) (by omega)
            have SK := Lib.hid (fun (X : World) (hX : Fr No wr.drew X) => (show (X.cell? ⟨b, q + 1, none⟩ = some (.int .i64 (ati M2 (q + 1)).1)
                ∧ X.cell? ⟨b, q, none⟩ = some (.int .i64 (ati M2 q).1)) from by
              have h1 : RowT X b c M2 := HM2.out.row.drew.fr hX (fun x => x)
              exact ⟨h1.cells (by omega), h1.cells (by omega)⟩))
            have HST := Lib.hid (fun h => HJ.out.step (by omega) hpa2 h)
            have HDN := Lib.hid (fun h => HJ.out.done (y := y) (.inr h))
            have HXC := Lib.hid (fun (X X' : World) (hX : Fr No wr.drew X) (hX' : X' = (X.setCell ⟨b, q + 1, none⟩ (.int .i64 (ati M2 q).1)).setCell ⟨b, q, none⟩ (.int .i64 (ati M2 (q + 1)).1)) => show Srtr X' g b c y (swp M2 (q + 1) q) ∧ Fr (· = b) w X' from by
              have h0 : Fr No wr X := (Fr.refl No wr).drew.then0 hX
              have h1 := (HM2.out.fr h0).row.put2 (i := q + 1) (j := q) (by omega) (by omega) hX'
              exact ⟨(HM2.out.fr h0).xch (by omega) (by omega) h1.1 h1.2, (HF2.out.then0 h0).trans h1.2 (fun _ _ x => x)⟩)
            rw [show q + 1 - 1 = q by omega] at HST HDN
            obtain ⟨r, hr⟩ : ∃ r, r = ordI y (ati M2 (q + 1)).1 (ati M2 q).1 := ⟨_, rfl⟩
            rw [← hr] at HC HST HDN
            clear hr
            generalize (ati M2 (q + 1)).1 = x at *
            generalize (ati M2 q).1 = z at *
            try dsimp only at *
            have hq1 : q + 1 < n := by omega
            have hq2 : q < n := by omega
            have hq3 : (q : Int) + 1 < (n : Int) := by omega
            have hq4 : (q : Int) < (n : Int) := by omega
            have hq5 : (0 : Int) ≤ (q : Int) + 1 := by omega
            have hw1 : IntKind.i64.wrap ((q : Int) + 1 - 1) = (q : Int) := by simp only [IntKind.wrap_i64]; omega
            have hw2 : IntKind.i64.wrap (q : Int) = (q : Int) := by simp only [IntKind.wrap_i64]; omega
            have hq6 : (0 : Int) ≤ (q : Int) := by omega
            have hqa : (a : Int) < (q : Int) + 1 := by omega
            by_cases hr0 : r < 0
            · have hh := Lib.hid (HST.out hr0)
              go_wp2
              go_region_held3 (fun w' => w'.cell? ⟨b, q + 1, none⟩ = some (.int .i64 x)
                  ∧ w'.cell? ⟨b, q, none⟩ = some (.int .i64 z))
                (first | exact SK.out _ FA.out | exact ⟨s0, t0⟩ | go_keep)
                (first | (go_at_call 78; ((with_reducible refine HC.out.mono ?_); rintro ex wA ⟨rfl, hf⟩); have FA := Lib.hid hf; clear hf))
              all_goals
                clear s0 t0
                obtain ⟨s0, t0⟩ := SK.out _ FA.out.drew
                obtain ⟨s0', t0'⟩ := SK.out _ FA.out
                have HX := Lib.hid (HXC.out wA _ FA.out rfl)
                have hfz := (HM2.out.row.drew.fr FA.out (fun x => x)).frozen
                have z0 := hfz (q + 1)
                have z4 := hfz (q)
                clear hfz
                go_wp2
                go_region
                all_goals go_wp2
                go_roundw
                case rel => exact ⟨q, _, rfl, hh, Lib.hid (HX.out.1.fr (Fr.refl _ _).drew), Lib.hid HX.out.2.drew⟩
                case measure => simp [intOf]; omega
            · have hh := Lib.hid (HDN.out hr0)
              go_wp2
              go_region_held3 (fun w' => w'.cell? ⟨b, q + 1, none⟩ = some (.int .i64 x)
                  ∧ w'.cell? ⟨b, q, none⟩ = some (.int .i64 z))
                (first | exact SK.out _ FA.out | exact ⟨s0, t0⟩ | go_keep)
                (first | (go_at_call 78; ((with_reducible refine HC.out.mono ?_); rintro ex wA ⟨rfl, hf⟩); have FA := Lib.hid hf; clear hf))
              all_goals
                go_wp2
                go_roundw
                case rel => exact ⟨k + 1, M2, by go_num, by omega, by omega, hh, Lib.hid (HM2.out.fr ((Fr.refl _ _).drew.then0 FA.out)), Lib.hid (HF2.out.then0 ((Fr.refl _ _).drew.then0 FA.out))⟩
                case measure => simp [intOf]; omega
          · have hpe : p = a := by omega
            have hh := Lib.hid (HJ.out.done (.inl hpe))
            have hpz : ¬ (a : Int) < (p : Int) := by omega
            clear hpe
            go_wp2
            go_quiet (fail)
            go_wp2
            go_roundw
            case rel => exact ⟨k + 1, M2, by go_num, by omega, by omega, hh, Lib.hid (HM2.out.fr ((Fr.refl _ _).drewN _)), Lib.hid (HF2.out.drewN _)⟩
            case measure => simp [intOf]; omega
      · obtain rfl : k = e := by omega
        go_wp2
        go_end0
        exact ⟨rfl, M, HM.out, HI.out.turn, HI.out.srt, HF.out⟩
end Go.Proofs.Ytbndmelkdamgjaa.So
