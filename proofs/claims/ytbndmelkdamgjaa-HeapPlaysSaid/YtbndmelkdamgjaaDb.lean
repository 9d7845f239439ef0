/- The document's heap: Before, first, valid, at, New, Len, Has. -/
import Derived.Test.YtbndmelkdamgjaaDa
import Derived.Deep.RegionHeld3
import Derived.BigRegion
namespace Go.Proofs.Ytbndmelkdamgjaa.It
open Go.RowKit Go.Wk

theorem before_any (a1 a2 a3 a4 b1 b2 b3 b4 : Int) (w : World) : Calls Try.prog 13 #[.agg #[.int .i64 a1, .int .i64 a2, .int .i64 a3, .int .i64 a4], .agg #[.int .i64 b1, .int .i64 b2, .int .i64 b3, .int .i64 b4]] w fun e w' => e = .returned (.bool (befI ⟨a1, a2, a3, a4⟩ ⟨b1, b2, b3, b4⟩)) ∧ Fr No w w' := by
  obtain ⟨wa, hwa⟩ : ∃ wa, wa = (w.alloc (.cells #[.int .i64 a1, .int .i64 a2, .int .i64 a3, .int .i64 a4] 27)).alloc (.cells #[.int .i64 b1, .int .i64 b2, .int .i64 b3, .int .i64 b4] 27) := ⟨_, rfl⟩
  have FA := Lib.hid (show Fr No w wa by rw [hwa]; exact ((Fr.refl No w).alloc _).alloc _)
  have BA := Lib.hid (show Blk wa w.heap.size 27 #[.int .i64 a1, .int .i64 a2, .int .i64 a3, .int .i64 a4] by rw [hwa]; exact (Blk.new _ _ _).alloc _)
  have BB := Lib.hid (show Blk wa (w.heap.size + 1) 27 #[.int .i64 b1, .int .i64 b2, .int .i64 b3, .int .i64 b4] by
    rw [hwa]
    have := Blk.new (w.alloc (.cells #[.int .i64 a1, .int .i64 a2, .int .i64 a3, .int .i64 a4] 27)) 27 #[.int .i64 b1, .int .i64 b2, .int .i64 b3, .int .i64 b4]
    rwa [World.size_alloc] at this)
  obtain ⟨p1, p2⟩ := (show wa.cell? ⟨w.heap.size, 1, none⟩ = some (.int .i64 a2) ∧ wa.cell? ⟨w.heap.size, 2, none⟩ = some (.int .i64 a3) from ⟨BA.out.cell 1, BA.out.cell 2⟩)
  obtain ⟨q1, q2⟩ := (show wa.cell? ⟨w.heap.size + 1, 1, none⟩ = some (.int .i64 b2) ∧ wa.cell? ⟨w.heap.size + 1, 2, none⟩ = some (.int .i64 b3) from ⟨BB.out.cell 1, BB.out.cell 2⟩)
  have HWA := Lib.hid hwa
  clear hwa
  unfold befI
  dsimp only
  by_cases h : a2 = b2
  · subst h
    rw [if_pos rfl]
    have hne : (a2 != a2) = false := by simp
    go_enter Try.func13, Try.ntmps13
    go_wp2_with fail
    rw [← HWA.out]
    go_wp2
    go_ret
    exact ⟨rfl, FA.out⟩
  · rw [if_neg h]
    have hne : (a2 != b2) = true := by simpa using h
    go_enter Try.func13, Try.ntmps13
    go_wp2_with fail
    rw [← HWA.out]
    go_wp2
    go_ret
    exact ⟨rfl, FA.out⟩
theorem bef_I : Bef valIV befI 13 := ⟨fun _ _ => by kernel_rfl, fun a b X => before_any _ _ _ _ _ _ _ _ X, weak_I⟩

/-- The document's heap in block r. -/
structure DV (w : World) (r : Nat) (v : Value) (L : List (En IV)) : Prop where
  blk : Blk w r 82 #[.bool true, v]
  own : w.ownsRow 0 86 5 v L.length (dcells L)
def domD (r : Nat) (v : Value) : Nat → Prop := fun k => k = r ∨ v.ownBlock = some k
theorem DV.ne {w : World} {r : Nat} {v : Value} {L : List (En IV)} (h : DV w r v L) : ∀ k, v.ownBlock = some k → k ≠ r := own_blk_ne h.own h.blk (by decide)
theorem DV.fr {S : Nat → Prop} {w w' : World} {r : Nat} {v : Value} {L : List (En IV)} (h : DV w r v L) (hf : Fr S w w') (hS : ∀ k, domD r v k → ¬ S k) : DV w' r v L :=
  ⟨h.blk.fr hf (hS r (.inl rfl)), own_fr h.own hf (fun k hk => hS k (.inr hk))⟩
theorem DV.fr0 {w w' : World} {r : Nat} {v : Value} {L : List (En IV)} (h : DV w r v L) (hf : Fr No w w') : DV w' r v L := h.fr hf (fun _ _ z => z)
theorem DV.lt {w : World} {r : Nat} {v : Value} {L : List (En IV)} (h : DV w r v L) {k : Nat} (hk : domD r v k) : k < w.heap.size := by
  rcases hk with rfl | hk
  · exact h.blk.lt
  · exact (h.own.lt k hk).2
theorem DV.cells {w : World} {r : Nat} {v : Value} {L : List (En IV)} (h : DV w r v L) : w.cell? ⟨r, 0, none⟩ = some (.bool true) ∧ w.cell? ⟨r, 1, none⟩ = some v := ⟨h.blk.cell 0, h.blk.cell 1⟩

set_option maxRecDepth 100000 in
set_option maxHeartbeats 4000000 in
theorem dfirst_any (A : Option Addr) (n c : Nat) (L : List (En IV)) (w : World) (h : Reads w w.heap.size 5 A n (dcells L)) (hu : L.Pairwise (fun a b => a.p < b.p)) (hn : n ≤ 1000000000) (h0 : 0 < n) :
    Calls Try.prog 62 #[.slice A n c] w fun e w' => (∃ k : Nat, e = .returned (.int .i64 k) ∧ Fst L k) ∧ Fr No w w' := by
  have hl : L.length = n := by have := h.1; rw [dcells_len] at this; omega
  have HR := Lib.hid h
  have HU := Lib.hid hu
  have HL := Lib.hid hl
  clear h hu hl
  go_enter Try.func62, Try.ntmps62
  go_wp2
  go_loopw [3, 4] (fun kv iv wr => ∃ (i k : Nat), kv = .int .i64 k ∧ iv = .int .i64 i ∧ i ≤ n ∧ k < n ∧ Hid (FstI L i k) ∧ Hid (Fr No w wr)) (fun _ iv _ => n - (intOf iv).toNat)
  case atStart => exact ⟨1, 0, rfl, rfl, by omega, h0, Lib.hid (FstI.one L), Lib.hid (Fr.refl _ _)⟩
  case round =>
    obtain ⟨i, k, rfl, rfl, hi, hk, HI, HF⟩ := hrel
    by_cases hlt : i < n
    · obtain ⟨b, off, rfl, hb, _, x1, x2, x3, x4⟩ := Reads.dent HR.out hlt
      obtain ⟨b', off', e1, _, _, y1, y2, y3, y4⟩ := Reads.dent HR.out hk
      obtain ⟨rfl, rfl⟩ : b' = b ∧ off' = off := by injection e1 with e1; injection e1 with e1 e2; exact ⟨e1.symm, e2.symm⟩
      clear e1
      have HST := Lib.hid (HI.out.step HU.out (by rw [HL.out]; exact hlt))
      generalize (L.getD i default).v = x at *
      generalize (L.getD k default).v = y at *
      obtain ⟨x1', x2', x3', x4'⟩ := x
      obtain ⟨y1', y2', y3', y4'⟩ := y
      dsimp only at x1 x2 x3 x4 y1 y2 y3 y4
      have hbl : b' < w.heap.size := hb
      have SK := Lib.hid (fun (X : World) (hX : Fr No w X) => (show (X.cell? ⟨b', off' + i * 5 + 1, none⟩ = some (.int .i64 x1') ∧ X.cell? ⟨b', off' + i * 5 + 2, none⟩ = some (.int .i64 x2') ∧ X.cell? ⟨b', off' + i * 5 + 3, none⟩ = some (.int .i64 x3') ∧ X.cell? ⟨b', off' + i * 5 + 4, none⟩ = some (.int .i64 x4')) ∧ (X.cell? ⟨b', off' + k * 5 + 1, none⟩ = some (.int .i64 y1') ∧ X.cell? ⟨b', off' + k * 5 + 2, none⟩ = some (.int .i64 y2') ∧ X.cell? ⟨b', off' + k * 5 + 3, none⟩ = some (.int .i64 y3') ∧ X.cell? ⟨b', off' + k * 5 + 4, none⟩ = some (.int .i64 y4')) from
        ⟨⟨(hX.cell (p := ⟨b', off' + i * 5 + 1, none⟩) hbl (fun z => z)).trans x1, (hX.cell (p := ⟨b', off' + i * 5 + 2, none⟩) hbl (fun z => z)).trans x2, (hX.cell (p := ⟨b', off' + i * 5 + 3, none⟩) hbl (fun z => z)).trans x3, (hX.cell (p := ⟨b', off' + i * 5 + 4, none⟩) hbl (fun z => z)).trans x4⟩,
          (hX.cell (p := ⟨b', off' + k * 5 + 1, none⟩) hbl (fun z => z)).trans y1, (hX.cell (p := ⟨b', off' + k * 5 + 2, none⟩) hbl (fun z => z)).trans y2, (hX.cell (p := ⟨b', off' + k * 5 + 3, none⟩) hbl (fun z => z)).trans y3, (hX.cell (p := ⟨b', off' + k * 5 + 4, none⟩) hbl (fun z => z)).trans y4⟩))
      have HC := Lib.hid (fun X => before_any x1' x2' x3' x4' y1' y2' y3' y4' X)
      generalize befI ⟨x1', x2', x3', x4'⟩ ⟨y1', y2', y3', y4'⟩ = t at *
      have hlt2 : (i : Int) < (n : Int) := by omega
      have hk2 : (k : Int) < (n : Int) := by omega
      clear x1 x2 x3 x4 y1 y2 y3 y4
      obtain ⟨⟨x1, x2, x3, x4⟩, y1, y2, y3, y4⟩ := SK.out wr HF.out
      go_wp2
      go_region_held3 (fun X => (X.cell? ⟨b', off' + i * 5 + 1, none⟩ = some (.int .i64 x1') ∧ X.cell? ⟨b', off' + i * 5 + 2, none⟩ = some (.int .i64 x2') ∧ X.cell? ⟨b', off' + i * 5 + 3, none⟩ = some (.int .i64 x3') ∧ X.cell? ⟨b', off' + i * 5 + 4, none⟩ = some (.int .i64 x4')) ∧ (X.cell? ⟨b', off' + k * 5 + 1, none⟩ = some (.int .i64 y1') ∧ X.cell? ⟨b', off' + k * 5 + 2, none⟩ = some (.int .i64 y2') ∧ X.cell? ⟨b', off' + k * 5 + 3, none⟩ = some (.int .i64 y3') ∧ X.cell? ⟨b', off' + k * 5 + 4, none⟩ = some (.int .i64 y4')))
        (first | exact ⟨⟨x1, x2, x3, x4⟩, y1, y2, y3, y4⟩ | exact SK.out _ (HF.out.then0 ((Fr.refl No wr).drew.then0 F1.out)) | go_keep)
        ((go_at_call 13; (with_reducible refine (HC.out _).mono ?_); rintro e W1 ⟨rfl, hf⟩; have F1 := Lib.hid hf; clear hf))
      all_goals
        have F2 := Lib.hid (HF.out.then0 ((Fr.refl No wr).drew.then0 F1.out))
        clear F1 x1 x2 x3 x4 y1 y2 y3 y4
        cases t
        · go_wp2
          go_roundw
          case rel => exact ⟨i + 1, k, rfl, by go_num, by omega, hk, HST, F2⟩
          case measure => simp [intOf]; omega
        · go_wp2
          go_roundw
          case rel => exact ⟨i + 1, i, rfl, by go_num, by omega, hlt, HST, F2⟩
          case measure => simp [intOf]; omega
    · obtain rfl : i = n := by omega
      go_wp2
      go_ret
      refine ⟨⟨k, rfl, ?_⟩, HF.out⟩
      have := HI.out
      rw [← HL.out] at this
      exact this.done
theorem dvalid_any (r : Nat) (w : World) (h : w.cell? ⟨r, 0, none⟩ = some (.bool true)) : Calls Try.prog 61 #[.pointer (some ⟨r, 0, none⟩)] w fun e w' => e = .returned (.bool true) ∧ w = w' := by
  go_enter Try.func61, Try.ntmps61
  go_wp2
  go_ret
  exact ⟨rfl, rfl⟩
/-- Where the document finds an id. -/
def AtR (L : List (En IV)) (x : Int) (e : Ending) : Prop := (x ∉ ids L ∧ e = .returned (.int .i64 (-1))) ∨ ∃ i : Nat, i < L.length ∧ (L.getD i default).id = x ∧ e = .returned (.int .i64 i)
set_option maxRecDepth 100000 in
set_option maxHeartbeats 4000000 in
theorem dat_any (r : Nat) (v : Value) (L : List (En IV)) (x : Int) (w : World) (h : DV w r v L) (hn : L.length ≤ 1000000000) : Calls Try.prog 64 #[.pointer (some ⟨r, 0, none⟩), .int .i64 x] w fun e w' => AtR L x e ∧ w' = w := by
  obtain ⟨c0, c1⟩ := h.cells
  obtain ⟨A, c, rfl⟩ := own_form' h.own
  have HR := Lib.hid (Reads.of_own h.own)
  obtain ⟨n, hnn⟩ : ∃ n, n = L.length := ⟨_, rfl⟩
  have HN := Lib.hid hnn
  rw [← hnn] at c1 HR hn
  clear h hnn
  go_enter Try.func64, Try.ntmps64
  go_wp2
  go_loopw [5] (fun iv wr => ∃ i : Nat, iv = .int .i64 i ∧ i ≤ n ∧ wr = w ∧ Hid (∀ j, j < i → (L.getD j default).id ≠ x)) (fun iv _ => n - (intOf iv).toNat)
  case atStart => exact ⟨0, rfl, Nat.zero_le _, rfl, Lib.hid (fun j hj => by omega)⟩
  case round =>
    obtain ⟨i, rfl, hi, rfl, HI⟩ := hrel
    by_cases hlt : i < n
    · obtain ⟨b, off, rfl, hb, x0, _⟩ := Reads.dent HR.out hlt
      have hlt2 : (i : Int) < (n : Int) := by omega
      by_cases hx : (L.getD i default).id = x
      · have HX := Lib.hid hx
        rw [hx] at x0
        have hxx : (x == x) = true := by simp
        clear hx
        go_wp2
        go_ret
        exact ⟨.inr ⟨i, by rw [← HN.out]; exact hlt, HX.out, rfl⟩, by first | rfl | trivial⟩
      · have HX := Lib.hid (show ∀ j, j < i + 1 → (L.getD j default).id ≠ x from fun j hj => by
          by_cases e : j = i
          · subst e; exact hx
          · exact HI.out j (by omega))
        generalize (L.getD i default).id = z at *
        have hxx : (z == x) = false := by simpa using hx
        clear hx
        go_wp2
        go_roundw
        case rel => exact ⟨i + 1, by go_num, by omega, by first | rfl | trivial, HX⟩
        case measure => simp [intOf]; omega
    · obtain rfl : i = n := by omega
      go_wp2
      go_ret
      refine ⟨.inl ⟨fun hc => ?_, rfl⟩, by first | rfl | trivial⟩
      obtain ⟨e, he, hid⟩ := List.mem_map.1 hc
      obtain ⟨j, hj, rfl⟩ := mem_at.1 he
      exact HI.out j (by rw [HN.out]; exact hj) hid
end Go.Proofs.Ytbndmelkdamgjaa.It
