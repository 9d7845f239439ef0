/- The contracts of swapRange and rotate. -/
import Derived.Test.YtbndmelkdamgjaaVIns
namespace Go.Proofs.Ytbndmelkdamgjaa.So
open Go.RowKit Go.Wk

/-- Both ways to read two items of the row, in any world that has not turned. -/
theorem Srtr.two {w : World} {g b c : Nat} {y : KY} {L : List TI} (h : Srtr w g b c y L) {i j : Nat} (hi : i < L.length) (hj : j < L.length) (X : World) (hX : Fr No w X) :
    (X.cell? ⟨b, i, none⟩ = some (.int .i64 (ati L i).1)
    ∧ X.cell? ⟨b, j, none⟩ = some (.int .i64 (ati L j).1)) := by
  have h1 : RowT X b c L := h.row.fr hX (fun x => x)
  exact ⟨h1.cells hi, h1.cells hj⟩
/-- What an exchange leaves. -/
theorem Srtr.exch {w W : World} {g b c : Nat} {y : KY} {L : List TI} (h : Srtr W g b c y L) (hF : Fr (· = b) w W) {i j : Nat} (hi : i < L.length) (hj : j < L.length) (X X' : World) (hX : Fr No W X)
    (hX' : X' = (X.setCell ⟨b, i, none⟩ (.int .i64 (ati L j).1)).setCell ⟨b, j, none⟩ (.int .i64 (ati L i).1)) : Srtr X' g b c y (swp L i j) ∧ Fr (· = b) w X' := by
  have h1 := (h.fr hX).row.put2 hi hj hX'
  exact ⟨(h.fr hX).xch hi hj h1.1 h1.2, (hF.then0 hX).trans h1.2 (fun _ _ x => x)⟩

set_option maxRecDepth 100000 in
set_option maxHeartbeats 4000000 in
theorem swr_any (g b c n p q m : Nat) (y : KY) (L : List TI) (w : World) (F : Value) (hs : Srtr w g b c y L) (hn : L.length = n) (hpq : p + m ≤ q) (hq : q + m ≤ n) (hn2 : n ≤ 1000000000000) :
    Calls Try.prog 100 #[.slice (some ⟨b, 0, none⟩) n c, .int .i64 p, .int .i64 q, .int .i64 m, F] w fun x w' => x = .returned (.tuple #[]) ∧ ∃ L', Srtr w' g b c y L' ∧ Xch p q m L L' ∧ Fr (· = b) w w' := by
  have HS := Lib.hid hs
  have HN := Lib.hid hn
  clear hs hn
  go_enter Try.func100, Try.ntmps100
  go_wp2
  go_loopw [10] (fun i wr => ∃ (k : Nat) (M : List TI), i = .int .i64 k ∧ k ≤ m ∧ Hid (Xch p q k L M) ∧ Hid (Srtr wr g b c y M) ∧ Hid (Fr (· = b) w wr)) (fun i _ => m - (intOf i).toNat)
  case atStart => exact ⟨0, L, rfl, Nat.zero_le _, Lib.hid (Xch.start p q L), HS, Lib.hid (Fr.refl _ _)⟩
  case round =>
    obtain ⟨k, M, rfl, hk, HX, HM, HF⟩ := hrel
    by_cases hlt : k < m
    · have hl2 : M.length = n := HX.out.len.trans HN.out
      have HST := Lib.hid (HX.out.step hpq hlt (by rw [HN.out]; exact hq))
      have i1 : p + k < M.length := by omega
      have i2 : q + k < M.length := by omega
      obtain ⟨s0, t0⟩ := HM.out.two i1 i2 wr.drew (Fr.refl _ _).drew
      obtain ⟨s0', t0'⟩ := HM.out.two i1 i2 wr (Fr.refl _ _)
      have HXC := Lib.hid (fun X' hX' => HM.out.exch HF.out i1 i2 wr X' (Fr.refl _ _) hX')
      have hfz := (HM.out.row).frozen
      have z0 := hfz (p + k)
      have z4 := hfz (q + k)
      generalize (ati M (p + k)).1 = x at *
      generalize (ati M (q + k)).1 = z at *
      try dsimp only at *
      have hlt2 : (k : Int) < (m : Int) := by omega
      have w1 : IntKind.i64.wrap ((p : Int) + (k : Int)) = ((p + k : Nat) : Int) := by simp only [IntKind.wrap_i64]; omega
      have w2 : IntKind.i64.wrap ((q : Int) + (k : Int)) = ((q + k : Nat) : Int) := by simp only [IntKind.wrap_i64]; omega
      have v1 : ((p : Int) + (k : Int)) < (n : Int) := by omega
      have v2 : ((q : Int) + (k : Int)) < (n : Int) := by omega
      have v3 : 0 ≤ ((p : Int) + (k : Int)) := by omega
      have v4 : 0 ≤ ((q : Int) + (k : Int)) := by omega
      have v5 : ((p : Int) + (k : Int)).toNat = p + k := by omega
      have v6 : ((q : Int) + (k : Int)).toNat = q + k := by omega
      clear hfz i1 i2 hl2
      go_wp2
      go_region
      all_goals go_wp2
      go_roundw
      case rel => exact ⟨k + 1, _, by go_num, by omega, HST, Lib.hid ((HXC.out _ rfl).1.fr (Fr.refl _ _).drew), Lib.hid (HXC.out _ rfl).2.drew⟩
      case measure => simp [intOf]; omega
    · obtain rfl : k = m := by omega
      go_wp2
      go_end0
      exact ⟨rfl, M, HM.out, HX.out, HF.out⟩
end Go.Proofs.Ytbndmelkdamgjaa.So
