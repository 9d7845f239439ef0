/- works. -/
import Derived.Test.YtbndmelkdamgjaaU
namespace Go.Proofs.Ytbndmelkdamgjaa
open Go.RowKit Go.Wk

theorem fits_small {x : Int} (h : -1000000 ≤ x ∧ x ≤ 1000000) : fits x := by unfold fits; omega
/-- The blocks of the call's own but K. -/
def Els (w : World) (K : Nat → Prop) : Nat → Prop := fun k => w.heap.size ≤ k ∧ ¬ K k
/-- A heap of the call's own, apart from K. -/
def OwnI (f : Nat) (bf : Int → Int → Bool) (w wr : World) (b : Nat) (K : Nat → Prop) (s : List (En Int)) (g : Int) : Prop := ∃ D, IH f bf wr b D s g ∧ (∀ k, D k → Els w K k) ∧ (∀ k, K k → k < wr.heap.size) ∧ Fr No w wr
theorem els_no {S : Nat → Prop} {w w1 w2 : World} {K : Nat → Prop} (h : Fr S w w1) (k : Fr (Els w K) w1 w2) : Fr S w w2 := h.ownS k (fun _ hb => hb.1)
/-- What the call has besides, of the blocks K. -/
theorem els_keep {w w1 w2 : World} {K : Nat → Prop} (k : Fr (Els w K) w1 w2) : Fr (fun q => ¬ K q) w1 w2 := k.mono (fun _ h => h.2)
section
variable {f : Nat} {bf : Int → Int → Bool} {w w1 w2 : World} {b : Nat} {K K' : Nat → Prop} {s : List (En Int)} {g : Int}
theorem OwnI.turn {D : Nat → Prop} {s2 : List (En Int)} {g2 : Int} (hd : ∀ k, D k → Els w K k) (hk : ∀ k, K k → k < w1.heap.size) (hf : Fr No w w1) (h2 : TurnI f bf w1 b D s2 g2 w2) : OwnI f bf w w2 b K s2 g2 ∧ Fr (Els w K) w1 w2 := by
  obtain ⟨D2, h2, hf2, hd2⟩ := h2
  refine ⟨⟨D2, h2, fun k hk2 => ?_, fun k hk2 => Nat.lt_of_lt_of_le (hk k hk2) hf2.size, hf.ownS hf2 (fun k hk2 => (hd k hk2).1)⟩, hf2.mono hd⟩
  rcases hd2 k hk2 with h1 | h1
  · exact hd k h1
  · exact ⟨Nat.le_trans hf.size h1, fun hc => by have := hk k hc; omega⟩
theorem OwnI.fr0 (h : OwnI f bf w w1 b K s g) (hf : Fr No w1 w2) : OwnI f bf w w2 b K s g := by
  obtain ⟨D, h, hd, hk, h2⟩ := h
  exact ⟨D, h.fr0 hf, hd, fun k hk2 => Nat.lt_of_lt_of_le (hk k hk2) hf.size, h2.then0 hf⟩
theorem OwnI.fr (h : OwnI f bf w w1 b K s g) : Fr No w w1 := by
  obtain ⟨D, _, _, _, h2⟩ := h
  exact h2
/-- Something new stands apart, too. -/
theorem OwnI.add (h : OwnI f bf w w1 b K s g) (hf : Fr No w1 w2) (hk : ∀ k, K' k → K k ∨ (w1.heap.size ≤ k ∧ k < w2.heap.size)) : OwnI f bf w w2 b K' s g := by
  obtain ⟨D, h, hd, hk1, h2⟩ := h
  refine ⟨D, h.fr0 hf, fun k hk2 => ⟨(hd k hk2).1, fun hc => ?_⟩, fun k hk2 => ?_, h2.then0 hf⟩
  · rcases hk k hc with h3 | h3
    · exact (hd k hk2).2 h3
    · have := h.lt hk2; omega
  · rcases hk k hk2 with h3 | h3
    · exact Nat.lt_of_lt_of_le (hk1 k h3) hf.size
    · exact h3.2
/-- What turns of the blocks K alone leaves the heap. -/
theorem OwnI.turnK (h : OwnI f bf w w1 b K s g) (hf : Fr K w1 w2) (hw : ∀ k, K k → w.heap.size ≤ k) (hk : ∀ k, K' k → K k ∨ (w1.heap.size ≤ k ∧ k < w2.heap.size)) : OwnI f bf w w2 b K' s g := by
  obtain ⟨D, h, hd, hk1, h2⟩ := h
  refine ⟨D, h.fr hf (fun k hk2 hc => (hd k hk2).2 hc), fun k hk2 => ⟨(hd k hk2).1, fun hc => ?_⟩, fun k hk2 => ?_, h2.ownS hf hw⟩
  · rcases hk k hc with h3 | h3
    · exact (hd k hk2).2 h3
    · have := h.lt hk2; omega
  · rcases hk k hk2 with h3 | h3
    · exact Nat.lt_of_lt_of_le (hk1 k h3) hf.size
    · exact h3.2
theorem oNew (w : World) : Calls Try.prog 30 #[.func (.func f) #[] #[]] w fun e w' => ∃ b, e = .returned (.pointer (some ⟨b, 0, none⟩)) ∧ OwnI f bf w w' b No [] 0 := by
  refine (New_any (bf := bf) w).mono ?_
  rintro e w' ⟨b, D, rfl, h, hd, hf⟩
  exact ⟨b, rfl, D, h, fun k hk => ⟨hd k hk, fun z => z⟩, fun k hk => hk.elim, hf⟩
theorem oPush (B : Bef (Value.int .i64) bf f) (h : OwnI f bf w w1 b K s g) (x y : Int) (hx : fits x) (hxs : x ∉ ids s) (hg : g < 1000000000) : Calls Try.prog 32 #[.pointer (some ⟨b, 0, none⟩), .int .i64 x, .int .i64 y] w1 fun e w' => e = .returned (.int .i64 0) ∧ OwnI f bf w w' b K (ins bf ⟨x, y, g⟩ s) (g + 1) ∧ Fr (Els w K) w1 w' := by
  obtain ⟨D, h, hd, hk, hf⟩ := h
  refine (iPush B h x y hx hxs hg).mono ?_
  rintro e w' ⟨rfl, ht⟩
  exact ⟨rfl, OwnI.turn hd hk hf ht⟩
theorem oPushOld (h : OwnI f bf w w1 b K s g) (x y : Int) (hx : fits x) (hxs : x ∈ ids s) : Calls Try.prog 32 #[.pointer (some ⟨b, 0, none⟩), .int .i64 x, .int .i64 y] w1 fun e w' => e = .returned (.int .i64 6) ∧ w1 = w' := by
  obtain ⟨D, h, _⟩ := h
  exact iPushOld h x y hx hxs
theorem oRemove (B : Bef (Value.int .i64) bf f) (h : OwnI f bf w w1 b K s g) (x : Int) (hx : fits x) (hxs : x ∈ ids s) : Calls Try.prog 35 #[.pointer (some ⟨b, 0, none⟩), .int .i64 x] w1 fun e w' => e = .returned (.int .i64 0) ∧ OwnI f bf w w' b K (del x s) g ∧ Fr (Els w K) w1 w' := by
  obtain ⟨D, h, hd, hk, hf⟩ := h
  refine (iRemove B h x hx hxs).mono ?_
  rintro e w' ⟨rfl, ht⟩
  exact ⟨rfl, OwnI.turn hd hk hf ht⟩
theorem oRemoveNo (h : OwnI f bf w w1 b K s g) (x : Int) (hx : fits x) (hxs : x ∉ ids s) : Calls Try.prog 35 #[.pointer (some ⟨b, 0, none⟩), .int .i64 x] w1 fun e w' => e = .returned (.int .i64 5) ∧ w1 = w' := by
  obtain ⟨D, h, _⟩ := h
  exact iRemoveNo h x hx hxs
theorem oChange (B : Bef (Value.int .i64) bf f) (h : OwnI f bf w w1 b K s g) (x y : Int) (hx : fits x) (hxs : x ∈ ids s) (hg : g < 1000000000) : Calls Try.prog 34 #[.pointer (some ⟨b, 0, none⟩), .int .i64 x, .int .i64 y] w1 fun e w' => e = .returned (.int .i64 0) ∧ OwnI f bf w w' b K (ins bf ⟨x, y, g⟩ (del x s)) (g + 1) ∧ Fr (Els w K) w1 w' := by
  obtain ⟨D, h, hd, hk, hf⟩ := h
  refine (iChange B h x y hx hxs hg).mono ?_
  rintro e w' ⟨rfl, ht⟩
  exact ⟨rfl, OwnI.turn hd hk hf ht⟩
theorem oChangeNo (h : OwnI f bf w w1 b K s g) (x y : Int) (hx : fits x) (hxs : x ∉ ids s) : Calls Try.prog 34 #[.pointer (some ⟨b, 0, none⟩), .int .i64 x, .int .i64 y] w1 fun e w' => e = .returned (.int .i64 5) ∧ w1 = w' := by
  obtain ⟨D, h, _⟩ := h
  exact iChangeNo h x y hx hxs
theorem oPop (B : Bef (Value.int .i64) bf f) (h : OwnI f bf w w1 b K s g) : Calls Try.prog 36 #[.pointer (some ⟨b, 0, none⟩)] w1 fun e w' => e = .returned (.tuple #[.int .i64 (topV s), .bool (topB s)]) ∧ OwnI f bf w w' b K s.tail g ∧ Fr (Els w K) w1 w' := by
  obtain ⟨D, h, hd, hk, hf⟩ := h
  refine (iPop B h).mono ?_
  rintro e w' ⟨rfl, ht⟩
  exact ⟨rfl, OwnI.turn hd hk hf ht⟩
theorem oTop (B : Weak bf) (h : OwnI f bf w w1 b K s g) : Calls Try.prog 37 #[.pointer (some ⟨b, 0, none⟩)] w1 fun e w' => e = .returned (.tuple #[.int .i64 (topV s), .bool (topB s)]) ∧ w1 = w' := by
  obtain ⟨D, h, _⟩ := h
  exact iTop B h
theorem oLen (h : OwnI f bf w w1 b K s g) : Calls Try.prog 38 #[.pointer (some ⟨b, 0, none⟩)] w1 fun e w' => e = .returned (.int .i64 s.length) ∧ w1 = w' := by
  obtain ⟨D, h, _⟩ := h
  exact iLen h
theorem oHas (h : OwnI f bf w w1 b K s g) (x : Int) (hx : fits x) : Calls Try.prog 48 #[.pointer (some ⟨b, 0, none⟩), .int .i64 x] w1 fun e w' => e = .returned (.bool (decide (x ∈ ids s))) ∧ w1 = w' := by
  obtain ⟨D, h, _⟩ := h
  exact iHas h x hx
theorem oIds (B : Bef (Value.int .i64) bf f) (h : OwnI f bf w w1 b K s g) : Calls Try.prog 33 #[.pointer (some ⟨b, 0, none⟩)] w1 fun e w' => IdsAt w1 (ids s) e w' := by
  obtain ⟨D, h, _⟩ := h
  exact iIds B h
end
/-- The entries behind k pushes. -/
def stW : Nat → List (En Int)
  | 0 => []
  | 1 => [⟨7, 30, 0⟩]
  | 2 => [⟨5, 10, 1⟩, ⟨7, 30, 0⟩]
  | 3 => [⟨5, 10, 1⟩, ⟨9, 10, 2⟩, ⟨7, 30, 0⟩]
  | _ => [⟨5, 10, 1⟩, ⟨9, 10, 2⟩, ⟨-1, 20, 3⟩, ⟨7, 30, 0⟩]
set_option maxRecDepth 100000 in
set_option maxHeartbeats 4000000 in
theorem works_any (w : World) : Calls Try.prog 11 #[] w fun e w' => e = .returned (.bool true) ∧ Fr No w w' := by
  go_enter Try.func11, Try.ntmps11
  go_wp2_with fail
  refine (oNew (f := 39) (bf := ltI) w).mono ?_
  rintro e w1 ⟨b, rfl, h⟩
  have HS := Lib.hid h
  clear h
  obtain ⟨w2, hw2⟩ : ∃ w2, w2 = w1.alloc (.cells #[.int .i64 7, .int .i64 30, .int .i64 5, .int .i64 10, .int .i64 9, .int .i64 10, .int .i64 (-1), .int .i64 20] 78) := ⟨_, rfl⟩
  have F2 := Lib.hid (show Fr No w1 w2 by rw [hw2]; exact (Fr.refl No w1).alloc _)
  have B2 := Lib.hid (show Blk w2 w1.heap.size 78 #[.int .i64 7, .int .i64 30, .int .i64 5, .int .i64 10, .int .i64 9, .int .i64 10, .int .i64 (-1), .int .i64 20] by rw [hw2]; exact Blk.new _ _ _)
  have HW2 := Lib.hid hw2
  generalize hG : w1.heap.size = G at *
  have HO := Lib.hid (HS.out.add (K' := (· = G)) F2.out (fun k hk => by subst hk; right; exact ⟨by omega, B2.out.lt⟩))
  clear hw2 HS
  go_wp2_with fail
  rw [← HW2.out]
  clear hG
  go_loopw [13] (fun iv wr => ∃ (k : Nat) (s : List (En Int)) (g : Int), iv = .int .i64 k ∧ k ≤ 4 ∧ Hid (OwnI 39 ltI w wr b (· = G) s g) ∧ Hid (Blk wr G 78 #[.int .i64 7, .int .i64 30, .int .i64 5, .int .i64 10, .int .i64 9, .int .i64 10, .int .i64 (-1), .int .i64 20]) ∧ Hid (g = k ∧ s = stW k)) (fun iv _ => 4 - (intOf iv).toNat)
  case atStart => exact ⟨0, [], 0, rfl, by omega, HO, B2, Lib.hid ⟨rfl, rfl⟩⟩
  case round =>
    clear HO B2 F2 HW2
    obtain ⟨k, s, g, rfl, hk, HO, HB, HG⟩ := hrel
    obtain ⟨hg, hs⟩ := HG.out
    clear HG
    have ec : k = 0 ∨ k = 1 ∨ k = 2 ∨ k = 3 ∨ k = 4 := by omega
    rcases ec with rfl | rfl | rfl | rfl | rfl
    · obtain rfl : g = 0 := hg
      obtain rfl : s = [] := hs
      have p0 := HB.out.cell 0
      have p1 := HB.out.cell 1
      simp only [List.getElem?_toArray, List.getElem?_cons_zero, List.getElem?_cons_succ] at p0 p1
      obtain ⟨wa, hwa⟩ : ∃ wa, wa = wr.alloc (.cells #[.int .i64 7, .int .i64 30] 78) := ⟨_, rfl⟩
      have FA := Lib.hid (show Fr No wr wa by rw [hwa]; exact (Fr.refl No wr).alloc _)
      have BA := Lib.hid (show Blk wa wr.heap.size 78 #[.int .i64 7, .int .i64 30] by rw [hwa]; exact Blk.new _ _ _)
      have q0 := BA.out.cell 0
      have q1 := BA.out.cell 1
      simp only [List.getElem?_toArray, List.getElem?_cons_zero, List.getElem?_cons_succ] at q0 q1
      have HA := Lib.hid (HO.out.fr0 FA.out)
      have HBA := Lib.hid (HB.out.fr FA.out (fun z => z))
      have HP := Lib.hid (oPush bef_lt HA.out 7 30 (fits_small (by omega)) (by decide) (by decide))
      rw [show ins ltI ⟨7, 30, 0⟩ [] = [⟨7, 30, 0⟩] from by rfl] at HP
      have HGS := HB.out.lt
      have HWA := Lib.hid hwa
      clear hwa HO HB
      go_wp2_with fail
      rw [← HWA.out]
      clear p0 p1
      go_wp2_with fail
      refine HP.out.mono ?_
      rintro e wb ⟨rfl, hb, hf⟩
      have HB2 := Lib.hid hb
      have HB3 := Lib.hid (HBA.out.fr (els_keep hf) (fun z => z rfl))
      clear hb hf
      go_wp2
      go_roundw
      case rel => exact ⟨1, [⟨7, 30, 0⟩], 1, rfl, by decide, HB2, HB3, Lib.hid ⟨rfl, rfl⟩⟩
      case measure => decide
    · obtain rfl : g = 1 := hg
      obtain rfl : s = [⟨7, 30, 0⟩] := hs
      have p0 := HB.out.cell 2
      have p1 := HB.out.cell 3
      simp only [List.getElem?_toArray, List.getElem?_cons_zero, List.getElem?_cons_succ] at p0 p1
      obtain ⟨wa, hwa⟩ : ∃ wa, wa = wr.alloc (.cells #[.int .i64 5, .int .i64 10] 78) := ⟨_, rfl⟩
      have FA := Lib.hid (show Fr No wr wa by rw [hwa]; exact (Fr.refl No wr).alloc _)
      have BA := Lib.hid (show Blk wa wr.heap.size 78 #[.int .i64 5, .int .i64 10] by rw [hwa]; exact Blk.new _ _ _)
      have q0 := BA.out.cell 0
      have q1 := BA.out.cell 1
      simp only [List.getElem?_toArray, List.getElem?_cons_zero, List.getElem?_cons_succ] at q0 q1
      have HA := Lib.hid (HO.out.fr0 FA.out)
      have HBA := Lib.hid (HB.out.fr FA.out (fun z => z))
      have HP := Lib.hid (oPush bef_lt HA.out 5 10 (fits_small (by omega)) (by decide) (by decide))
      rw [show ins ltI ⟨5, 10, 1⟩ [⟨7, 30, 0⟩] = [⟨5, 10, 1⟩, ⟨7, 30, 0⟩] from by rfl] at HP
      have HGS := HB.out.lt
      have HWA := Lib.hid hwa
      clear hwa HO HB
      go_wp2_with fail
      rw [← HWA.out]
      clear p0 p1
      go_wp2_with fail
      refine HP.out.mono ?_
      rintro e wb ⟨rfl, hb, hf⟩
      have HB2 := Lib.hid hb
      have HB3 := Lib.hid (HBA.out.fr (els_keep hf) (fun z => z rfl))
      clear hb hf
      go_wp2
      go_roundw
      case rel => exact ⟨2, [⟨5, 10, 1⟩, ⟨7, 30, 0⟩], 2, rfl, by decide, HB2, HB3, Lib.hid ⟨rfl, rfl⟩⟩
      case measure => decide
    · obtain rfl : g = 2 := hg
      obtain rfl : s = [⟨5, 10, 1⟩, ⟨7, 30, 0⟩] := hs
      have p0 := HB.out.cell 4
      have p1 := HB.out.cell 5
      simp only [List.getElem?_toArray, List.getElem?_cons_zero, List.getElem?_cons_succ] at p0 p1
      obtain ⟨wa, hwa⟩ : ∃ wa, wa = wr.alloc (.cells #[.int .i64 9, .int .i64 10] 78) := ⟨_, rfl⟩
      have FA := Lib.hid (show Fr No wr wa by rw [hwa]; exact (Fr.refl No wr).alloc _)
      have BA := Lib.hid (show Blk wa wr.heap.size 78 #[.int .i64 9, .int .i64 10] by rw [hwa]; exact Blk.new _ _ _)
      have q0 := BA.out.cell 0
      have q1 := BA.out.cell 1
      simp only [List.getElem?_toArray, List.getElem?_cons_zero, List.getElem?_cons_succ] at q0 q1
      have HA := Lib.hid (HO.out.fr0 FA.out)
      have HBA := Lib.hid (HB.out.fr FA.out (fun z => z))
      have HP := Lib.hid (oPush bef_lt HA.out 9 10 (fits_small (by omega)) (by decide) (by decide))
      rw [show ins ltI ⟨9, 10, 2⟩ [⟨5, 10, 1⟩, ⟨7, 30, 0⟩] = [⟨5, 10, 1⟩, ⟨9, 10, 2⟩, ⟨7, 30, 0⟩] from by rfl] at HP
      have HGS := HB.out.lt
      have HWA := Lib.hid hwa
      clear hwa HO HB
      go_wp2_with fail
      rw [← HWA.out]
      clear p0 p1
      go_wp2_with fail
      refine HP.out.mono ?_
      rintro e wb ⟨rfl, hb, hf⟩
      have HB2 := Lib.hid hb
      have HB3 := Lib.hid (HBA.out.fr (els_keep hf) (fun z => z rfl))
      clear hb hf
      go_wp2
      go_roundw
      case rel => exact ⟨3, [⟨5, 10, 1⟩, ⟨9, 10, 2⟩, ⟨7, 30, 0⟩], 3, rfl, by decide, HB2, HB3, Lib.hid ⟨rfl, rfl⟩⟩
      case measure => decide
    · obtain rfl : g = 3 := hg
      obtain rfl : s = [⟨5, 10, 1⟩, ⟨9, 10, 2⟩, ⟨7, 30, 0⟩] := hs
      have p0 := HB.out.cell 6
      have p1 := HB.out.cell 7
      simp only [List.getElem?_toArray, List.getElem?_cons_zero, List.getElem?_cons_succ] at p0 p1
      obtain ⟨wa, hwa⟩ : ∃ wa, wa = wr.alloc (.cells #[.int .i64 (-1), .int .i64 20] 78) := ⟨_, rfl⟩
      have FA := Lib.hid (show Fr No wr wa by rw [hwa]; exact (Fr.refl No wr).alloc _)
      have BA := Lib.hid (show Blk wa wr.heap.size 78 #[.int .i64 (-1), .int .i64 20] by rw [hwa]; exact Blk.new _ _ _)
      have q0 := BA.out.cell 0
      have q1 := BA.out.cell 1
      simp only [List.getElem?_toArray, List.getElem?_cons_zero, List.getElem?_cons_succ] at q0 q1
      have HA := Lib.hid (HO.out.fr0 FA.out)
      have HBA := Lib.hid (HB.out.fr FA.out (fun z => z))
      have HP := Lib.hid (oPush bef_lt HA.out (-1) 20 (fits_small (by omega)) (by decide) (by decide))
      rw [show ins ltI ⟨(-1), 20, 3⟩ [⟨5, 10, 1⟩, ⟨9, 10, 2⟩, ⟨7, 30, 0⟩] = [⟨5, 10, 1⟩, ⟨9, 10, 2⟩, ⟨-1, 20, 3⟩, ⟨7, 30, 0⟩] from by rfl] at HP
      have HGS := HB.out.lt
      have HWA := Lib.hid hwa
      clear hwa HO HB
      go_wp2_with fail
      rw [← HWA.out]
      clear p0 p1
      go_wp2_with fail
      refine HP.out.mono ?_
      rintro e wb ⟨rfl, hb, hf⟩
      have HB2 := Lib.hid hb
      have HB3 := Lib.hid (HBA.out.fr (els_keep hf) (fun z => z rfl))
      clear hb hf
      go_wp2
      go_roundw
      case rel => exact ⟨4, [⟨5, 10, 1⟩, ⟨9, 10, 2⟩, ⟨-1, 20, 3⟩, ⟨7, 30, 0⟩], 4, rfl, by decide, HB2, HB3, Lib.hid ⟨rfl, rfl⟩⟩
      case measure => decide
    · obtain rfl : g = 4 := hg
      obtain rfl : s = [⟨5, 10, 1⟩, ⟨9, 10, 2⟩, ⟨-1, 20, 3⟩, ⟨7, 30, 0⟩] := hs
      clear HB
      go_wp2_with fail
      refine (oIds bef_lt HO.out).mono ?_
      rintro e w3 ⟨A, n, c, rfl, hn, ho, hf⟩
      obtain rfl : n = 4 := hn
      obtain ⟨w4, hw4⟩ : ∃ w4, w4 = w3.alloc (.cells #[.int .i64 5, .int .i64 9, .int .i64 (-1), .int .i64 7] 3) := ⟨_, rfl⟩
      have F4 := Lib.hid (show Fr No w3 w4 by rw [hw4]; exact (Fr.refl No w3).alloc _)
      have EQ := Lib.hid (equal_ids ho F4.out (some ⟨w3.heap.size, 0, none⟩) 4 _ (by decide) (by rw [hw4]; exact reads_blk w3 3 [.int .i64 5, .int .i64 9, .int .i64 (-1), .int .i64 7] 4 1 rfl))
      have HW4 := Lib.hid hw4
      have H4 := Lib.hid ((HO.out.fr0 hf).fr0 F4.out)
      clear hw4 ho hf HO
      go_wp2_with fail
      rw [← HW4.out]
      refine EQ.out.mono ?_
      rintro e w5 ⟨rfl, hf⟩
      have H5 := Lib.hid (H4.out.fr0 hf)
      clear hf EQ F4 H4
      go_wp2_with fail
      refine (oChange bef_lt H5.out 5 10 (fits_small (by omega)) (by decide) (by decide)).mono ?_
      rintro e w6 ⟨rfl, h, _⟩
      rw [show ins ltI ⟨5, 10, 4⟩ (del 5 [⟨5, 10, 1⟩, ⟨9, 10, 2⟩, ⟨-1, 20, 3⟩, ⟨7, 30, 0⟩]) = [⟨9, 10, 2⟩, ⟨5, 10, 4⟩, ⟨-1, 20, 3⟩, ⟨7, 30, 0⟩] from by rfl] at h
      have H6 := Lib.hid h
      clear h H5
      go_wp2_with fail
      refine (oIds bef_lt H6.out).mono ?_
      rintro e w7 ⟨A1, n, c1, rfl, hn, ho, hf⟩
      obtain rfl : n = 4 := hn
      obtain ⟨w8, hw8⟩ : ∃ w8, w8 = w7.alloc (.cells #[.int .i64 9, .int .i64 5, .int .i64 (-1), .int .i64 7] 3) := ⟨_, rfl⟩
      have F8 := Lib.hid (show Fr No w7 w8 by rw [hw8]; exact (Fr.refl No w7).alloc _)
      have EQ := Lib.hid (equal_ids ho F8.out (some ⟨w7.heap.size, 0, none⟩) 4 _ (by decide) (by rw [hw8]; exact reads_blk w7 3 [.int .i64 9, .int .i64 5, .int .i64 (-1), .int .i64 7] 4 1 rfl))
      have HW8 := Lib.hid hw8
      have H8 := Lib.hid ((H6.out.fr0 hf).fr0 F8.out)
      clear hw8 ho hf H6
      go_wp2_with fail
      rw [← HW8.out]
      refine EQ.out.mono ?_
      rintro e w9 ⟨rfl, hf⟩
      have H9 := Lib.hid (H8.out.fr0 hf)
      clear hf EQ F8 H8
      go_wp2_with fail
      refine (oChange bef_lt H9.out 7 0 (fits_small (by omega)) (by decide) (by decide)).mono ?_
      rintro e w10 ⟨rfl, h, _⟩
      rw [show ins ltI ⟨7, 0, 4 + 1⟩ (del 7 [⟨9, 10, 2⟩, ⟨5, 10, 4⟩, ⟨-1, 20, 3⟩, ⟨7, 30, 0⟩]) = [⟨7, 0, 5⟩, ⟨9, 10, 2⟩, ⟨5, 10, 4⟩, ⟨-1, 20, 3⟩] from by rfl] at h
      have H10 := Lib.hid h
      clear h H9
      go_wp2_with fail
      refine (oPop bef_lt H10.out).mono ?_
      rintro e w11 ⟨rfl, h, _⟩
      rw [show ([⟨7, 0, 5⟩, ⟨9, 10, 2⟩, ⟨5, 10, 4⟩, ⟨-1, 20, 3⟩] : List (En Int)).tail = [⟨9, 10, 2⟩, ⟨5, 10, 4⟩, ⟨-1, 20, 3⟩] from rfl] at h
      have H11 := Lib.hid h
      have HT := Lib.hid (show topV ([⟨7, 0, 5⟩, ⟨9, 10, 2⟩, ⟨5, 10, 4⟩, ⟨-1, 20, 3⟩] : List (En Int)) = 7 ∧ topB ([⟨7, 0, 5⟩, ⟨9, 10, 2⟩, ⟨5, 10, 4⟩, ⟨-1, 20, 3⟩] : List (En Int)) = true from ⟨rfl, rfl⟩)
      clear h H10
      rw [HT.out.1, HT.out.2]
      go_wp2_with fail
      refine (oLen H11.out).mono ?_
      rintro e w12 ⟨rfl, rfl⟩
      go_wp2_with fail
      refine (oPushOld H11.out 9 1 (fits_small (by omega)) (by decide)).mono ?_
      rintro e w12 ⟨rfl, rfl⟩
      go_wp2_with fail
      refine (oRemoveNo H11.out 8 (fits_small (by omega)) (by decide)).mono ?_
      rintro e w12 ⟨rfl, rfl⟩
      go_wp2
      go_ret
      exact ⟨rfl, H11.out.fr⟩
end Go.Proofs.Ytbndmelkdamgjaa
