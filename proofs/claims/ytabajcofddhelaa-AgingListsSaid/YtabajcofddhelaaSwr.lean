/- The contracts of swapRange and rotate. -/
import Derived.Test.YtabajcofddhelaaIns
namespace Go.Proofs.Ytabajcofddhelaa
open Go.RowKit Go.Wk

/-- Both ways to read two items of the row, in any world that has not turned. -/
theorem Srtr.two {w : World} {g b c : Nat} {y : Int} {L : List TI} (h : Srtr w g b c y L) {i j : Nat} (hi : i < L.length) (hj : j < L.length) (X : World) (hX : Fr No w X) :
    (X.cell? ⟨b, i * 4, none⟩ = some (.int .i64 (ati L i).1.id) ∧ X.cell? ⟨b, i * 4 + 1, none⟩ = some (.int .i64 (ati L i).1.pr) ∧ X.cell? ⟨b, i * 4 + 2, none⟩ = some (.int .i64 (ati L i).1.since) ∧ X.cell? ⟨b, i * 4 + 3, none⟩ = some (.int .i64 (ati L i).1.seq)
    ∧ X.cell? ⟨b, j * 4, none⟩ = some (.int .i64 (ati L j).1.id) ∧ X.cell? ⟨b, j * 4 + 1, none⟩ = some (.int .i64 (ati L j).1.pr) ∧ X.cell? ⟨b, j * 4 + 2, none⟩ = some (.int .i64 (ati L j).1.since) ∧ X.cell? ⟨b, j * 4 + 3, none⟩ = some (.int .i64 (ati L j).1.seq)) := by
  have h1 : RowT X b c L := h.row.fr hX (fun x => x)
  exact ⟨(h1.cells hi).1, (h1.cells hi).2.1, (h1.cells hi).2.2.1, (h1.cells hi).2.2.2, (h1.cells hj).1, (h1.cells hj).2.1, (h1.cells hj).2.2.1, (h1.cells hj).2.2.2⟩
/-- What an exchange leaves. -/
theorem Srtr.exch {w W : World} {g b c : Nat} {y : Int} {L : List TI} (h : Srtr W g b c y L) (hF : Fr (· = b) w W) {i j : Nat} (hi : i < L.length) (hj : j < L.length) (X X' : World) (hX : Fr No W X)
    (hX' : X' = (X.setCells b (i * 4) (ati L j).1.cells).setCells b (j * 4) (ati L i).1.cells) : Srtr X' g b c y (swp L i j) ∧ Fr (· = b) w X' := by
  have h1 := (h.fr hX).row.put2 hi hj hX'
  exact ⟨(h.fr hX).xch hi hj h1.1 h1.2, (hF.then0 hX).trans h1.2 (fun _ _ x => x)⟩

set_option maxRecDepth 100000 in
set_option maxHeartbeats 4000000 in
theorem swr_any (g b c n p q m : Nat) (y : Int) (L : List TI) (w : World) (F : Value) (hs : Srtr w g b c y L) (hn : L.length = n) (hpq : p + m ≤ q) (hq : q + m ≤ n) (hn2 : n ≤ 1000000000000) :
    Calls Try.prog 58 #[.slice (some ⟨b, 0, none⟩) n c, .int .i64 p, .int .i64 q, .int .i64 m, F] w fun x w' => x = .returned (.tuple #[]) ∧ ∃ L', Srtr w' g b c y L' ∧ Xch p q m L L' ∧ Fr (· = b) w w' := by
  have HS := Lib.hid hs
  have HN := Lib.hid hn
  clear hs hn
  go_enter Try.func58, Try.ntmps58
  go_wp2
  go_loopw [10] (fun i wr => ∃ (k : Nat) (M : List TI), i = .int .i64 k ∧ k ≤ m ∧ Hid (Xch p q k L M) ∧ Hid (Srtr wr g b c y M) ∧ Hid (Fr (· = b) w wr)) (fun i _ => m - (intOf i).toNat)
  case atStart => exact ⟨0, L, rfl, Nat.zero_le _, Lib.hid (Xch.start p q L), HS, Lib.hid (Fr.refl _ _)⟩
  case round =>
    obtain ⟨k, M, rfl, hk, HX, HM, HF⟩ := hrel
    by_cases hlt : k < m
    · have hl2 : M.length = n := HX.out.len.trans HN.out
      have HST := Lib.hid (HX.out.step hpq hlt (by rw [HN.out]; exact hq))
      have i1 : p + k < M.length := by omega
      have i2 : q + k < M.length := by omega
      obtain ⟨s0, s1, s2, s3, t0, t1, t2, t3⟩ := HM.out.two i1 i2 wr.drew (Fr.refl _ _).drew
      obtain ⟨s0', s1', s2', s3', t0', t1', t2', t3'⟩ := HM.out.two i1 i2 wr (Fr.refl _ _)
      have HXC := Lib.hid (fun X' hX' => HM.out.exch HF.out i1 i2 wr X' (Fr.refl _ _) hX')
      have hfz := (HM.out.row).frozen
      have z0 := hfz ((p + k) * 4)
      have z1 := hfz ((p + k) * 4 + 1)
      have z2 := hfz ((p + k) * 4 + 2)
      have z3 := hfz ((p + k) * 4 + 3)
      have z4 := hfz ((q + k) * 4)
      have z5 := hfz ((q + k) * 4 + 1)
      have z6 := hfz ((q + k) * 4 + 2)
      have z7 := hfz ((q + k) * 4 + 3)
      generalize (ati M (p + k)).1 = x at *
      generalize (ati M (q + k)).1 = z at *
      obtain ⟨xi, xp, xs, xq⟩ := x
      obtain ⟨zi, zp, zs, zq⟩ := z
      dsimp only at *
      have hlt2 : (k : Int) < (m : Int) := by omega
      have w1 : IntKind.i64.wrap ((p : Int) + (k : Int)) = ((p + k : Nat) : Int) := by simp only [IntKind.wrap_i64]; omega
      have w2 : IntKind.i64.wrap ((q : Int) + (k : Int)) = ((q + k : Nat) : Int) := by simp only [IntKind.wrap_i64]; omega
      have v1 : ((p : Int) + (k : Int)) < (n : Int) := by omega
      have v2 : ((q : Int) + (k : Int)) < (n : Int) := by omega
      have v3 : 0 ≤ ((p : Int) + (k : Int)) := by omega
      have v4 : 0 ≤ ((q : Int) + (k : Int)) := by omega
      have v5 : ((p : Int) + (k : Int)).toNat = p + k := by omega
      have v6 : ((q : Int) + (k : Int)).toNat = q + k := by omega
      clear hfz i1 i2 hl2
      go_wp2
      go_region
      all_goals go_wp2
      go_roundw
      case rel => exact ⟨k + 1, _, by go_num, by omega, HST, Lib.hid ((HXC.out _ rfl).1.fr (Fr.refl _ _).drew), Lib.hid (HXC.out _ rfl).2.drew⟩
      case measure => simp [intOf]; omega
    · obtain rfl : k = m := by omega
      go_wp2
      go_end0
      exact ⟨rfl, M, HM.out, HX.out, HF.out⟩
end Go.Proofs.Ytabajcofddhelaa
