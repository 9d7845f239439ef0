/- HeapEnds: the walk. -/
import Derived.Test.YtbndmelkdamgjaaW
namespace Go.Proofs.Ytbndmelkdamgjaa
open Go.RowKit Go.Wk

def stE : Nat → List (En Int)
  | 0 => []
  | 1 => [⟨9223372036854775807, 9223372036854775807, 0⟩]
  | 2 => [⟨9223372036854775807, 9223372036854775807, 0⟩, ⟨(-9223372036854775808), (-9223372036854775808), 1⟩]
  | 3 => [⟨9223372036854775807, 9223372036854775807, 0⟩, ⟨(-9223372036854775808), (-9223372036854775808), 1⟩, ⟨0, 0, 2⟩]
  | 4 => [⟨9223372036854775807, 9223372036854775807, 0⟩, ⟨(-9223372036854775808), (-9223372036854775808), 1⟩, ⟨0, 0, 2⟩, ⟨(-1), (-1), 3⟩]
  | _ => [⟨9223372036854775807, 9223372036854775807, 0⟩, ⟨(-9223372036854775808), (-9223372036854775808), 1⟩, ⟨0, 0, 2⟩, ⟨(-1), (-1), 3⟩, ⟨1, 1, 4⟩]
def stF : Nat → List (En Int)
  | 0 => [⟨(-9223372036854775808), (-9223372036854775808), 1⟩, ⟨1, 1, 4⟩, ⟨9223372036854775807, 0, 5⟩, ⟨0, 0, 6⟩, ⟨(-1), 7, 7⟩]
  | 1 => [⟨1, 1, 4⟩, ⟨9223372036854775807, 0, 5⟩, ⟨0, 0, 6⟩, ⟨(-1), 7, 7⟩]
  | 2 => [⟨9223372036854775807, 0, 5⟩, ⟨0, 0, 6⟩, ⟨(-1), 7, 7⟩]
  | 3 => [⟨0, 0, 6⟩, ⟨(-1), 7, 7⟩]
  | 4 => [⟨(-1), 7, 7⟩]
  | _ => []
set_option maxRecDepth 100000 in
set_option maxHeartbeats 4000000 in
theorem heapEnds_walk (w : World) : Calls Try.prog 5 #[] w fun e w' => e = .returned (.bool true) ∧ Fr No w w' := by
  go_enter Try.func5, Try.ntmps5
  go_wp2_with fail
  refine (oNew (f := 31) (bf := noI) w).mono ?_
  rintro e w1 ⟨b, rfl, h⟩
  have HS := Lib.hid h
  clear h
  obtain ⟨w2, hw2⟩ : ∃ w2, w2 = w1.alloc (.cells #[.int .i64 9223372036854775807, .int .i64 (-9223372036854775808), .int .i64 0, .int .i64 (-1), .int .i64 1] 3) := ⟨_, rfl⟩
  have F2 := Lib.hid (show Fr No w1 w2 by rw [hw2]; exact (Fr.refl No w1).alloc _)
  have B2 := Lib.hid (show Blk w2 w1.heap.size 3 #[.int .i64 9223372036854775807, .int .i64 (-9223372036854775808), .int .i64 0, .int .i64 (-1), .int .i64 1] by rw [hw2]; exact Blk.new _ _ _)
  have HW2 := Lib.hid hw2
  generalize hG : w1.heap.size = G at *
  have HO := Lib.hid (HS.out.add (K' := (· = G)) F2.out (fun k hk => by subst hk; right; exact ⟨by omega, B2.out.lt⟩))
  clear hw2 HS
  go_wp2_with fail
  rw [← HW2.out]
  clear hG
  go_loopw [16] (fun iv wr => ∃ (k : Nat) (s : List (En Int)) (g : Int), iv = .int .i64 k ∧ k ≤ 5 ∧ Hid (OwnI 31 noI w wr b (· = G) s g) ∧ Hid (Blk wr G 3 #[.int .i64 9223372036854775807, .int .i64 (-9223372036854775808), .int .i64 0, .int .i64 (-1), .int .i64 1]) ∧ Hid (g = k ∧ s = stE k)) (fun iv _ => 5 - (intOf iv).toNat)
  case atStart => exact ⟨0, [], 0, rfl, by omega, HO, B2, Lib.hid ⟨rfl, rfl⟩⟩
  case round =>
    clear HO B2 F2 HW2
    obtain ⟨k, s, g, rfl, hk, HO, HB, HG⟩ := hrel
    obtain ⟨hg, hs⟩ := HG.out
    clear HG
    have ec : k = 0 ∨ k = 1 ∨ k = 2 ∨ k = 3 ∨ k = 4 ∨ k = 5 := by omega
    rcases ec with rfl | rfl | rfl | rfl | rfl | rfl
    · obtain rfl : g = 0 := hg
      obtain rfl : s = [] := hs
      have p0 := HB.out.cell 0
      simp only [List.getElem?_toArray, List.getElem?_cons_zero] at p0
      have HP := Lib.hid (oPush bef_no HO.out 9223372036854775807 9223372036854775807 (by unfold fits; omega) (by decide) (by decide))
      rw [show ins noI ⟨9223372036854775807, 9223372036854775807, 0⟩ [] = [⟨9223372036854775807, 9223372036854775807, 0⟩] from by rfl] at HP
      clear HO
      go_wp2_with fail
      refine HP.out.mono ?_
      rintro e wb ⟨rfl, hb, hf⟩
      have HB2 := Lib.hid hb
      have HB3 := Lib.hid (HB.out.fr (els_keep hf) (fun z => z rfl))
      clear hb hf p0
      go_wp2
      go_roundw
      case rel => exact ⟨1, [⟨9223372036854775807, 9223372036854775807, 0⟩], 1, rfl, by decide, HB2, HB3, Lib.hid ⟨rfl, rfl⟩⟩
      case measure => decide
    · obtain rfl : g = 1 := hg
      obtain rfl : s = [⟨9223372036854775807, 9223372036854775807, 0⟩] := hs
      have p0 := HB.out.cell 1
      simp only [List.getElem?_toArray, List.getElem?_cons_zero, List.getElem?_cons_succ] at p0
      have HP := Lib.hid (oPush bef_no HO.out (-9223372036854775808) (-9223372036854775808) (by unfold fits; omega) (by decide) (by decide))
      rw [show ins noI ⟨(-9223372036854775808), (-9223372036854775808), 1⟩ [⟨9223372036854775807, 9223372036854775807, 0⟩] = [⟨9223372036854775807, 9223372036854775807, 0⟩, ⟨(-9223372036854775808), (-9223372036854775808), 1⟩] from by rfl] at HP
      clear HO
      go_wp2_with fail
      refine HP.out.mono ?_
      rintro e wb ⟨rfl, hb, hf⟩
      have HB2 := Lib.hid hb
      have HB3 := Lib.hid (HB.out.fr (els_keep hf) (fun z => z rfl))
      clear hb hf p0
      go_wp2
      go_roundw
      case rel => exact ⟨2, [⟨9223372036854775807, 9223372036854775807, 0⟩, ⟨(-9223372036854775808), (-9223372036854775808), 1⟩], 2, rfl, by decide, HB2, HB3, Lib.hid ⟨rfl, rfl⟩⟩
      case measure => decide
    · obtain rfl : g = 2 := hg
      obtain rfl : s = [⟨9223372036854775807, 9223372036854775807, 0⟩, ⟨(-9223372036854775808), (-9223372036854775808), 1⟩] := hs
      have p0 := HB.out.cell 2
      simp only [List.getElem?_toArray, List.getElem?_cons_zero, List.getElem?_cons_succ] at p0
      have HP := Lib.hid (oPush bef_no HO.out 0 0 (by unfold fits; omega) (by decide) (by decide))
      rw [show ins noI ⟨0, 0, 2⟩ [⟨9223372036854775807, 9223372036854775807, 0⟩, ⟨(-9223372036854775808), (-9223372036854775808), 1⟩] = [⟨9223372036854775807, 9223372036854775807, 0⟩, ⟨(-9223372036854775808), (-9223372036854775808), 1⟩, ⟨0, 0, 2⟩] from by rfl] at HP
      clear HO
      go_wp2_with fail
      refine HP.out.mono ?_
      rintro e wb ⟨rfl, hb, hf⟩
      have HB2 := Lib.hid hb
      have HB3 := Lib.hid (HB.out.fr (els_keep hf) (fun z => z rfl))
      clear hb hf p0
      go_wp2
      go_roundw
      case rel => exact ⟨3, [⟨9223372036854775807, 9223372036854775807, 0⟩, ⟨(-9223372036854775808), (-9223372036854775808), 1⟩, ⟨0, 0, 2⟩], 3, rfl, by decide, HB2, HB3, Lib.hid ⟨rfl, rfl⟩⟩
      case measure => decide
    · obtain rfl : g = 3 := hg
      obtain rfl : s = [⟨9223372036854775807, 9223372036854775807, 0⟩, ⟨(-9223372036854775808), (-9223372036854775808), 1⟩, ⟨0, 0, 2⟩] := hs
      have p0 := HB.out.cell 3
      simp only [List.getElem?_toArray, List.getElem?_cons_zero, List.getElem?_cons_succ] at p0
      have HP := Lib.hid (oPush bef_no HO.out (-1) (-1) (by unfold fits; omega) (by decide) (by decide))
      rw [show ins noI ⟨(-1), (-1), 3⟩ [⟨9223372036854775807, 9223372036854775807, 0⟩, ⟨(-9223372036854775808), (-9223372036854775808), 1⟩, ⟨0, 0, 2⟩] = [⟨9223372036854775807, 9223372036854775807, 0⟩, ⟨(-9223372036854775808), (-9223372036854775808), 1⟩, ⟨0, 0, 2⟩, ⟨(-1), (-1), 3⟩] from by rfl] at HP
      clear HO
      go_wp2_with fail
      refine HP.out.mono ?_
      rintro e wb ⟨rfl, hb, hf⟩
      have HB2 := Lib.hid hb
      have HB3 := Lib.hid (HB.out.fr (els_keep hf) (fun z => z rfl))
      clear hb hf p0
      go_wp2
      go_roundw
      case rel => exact ⟨4, [⟨9223372036854775807, 9223372036854775807, 0⟩, ⟨(-9223372036854775808), (-9223372036854775808), 1⟩, ⟨0, 0, 2⟩, ⟨(-1), (-1), 3⟩], 4, rfl, by decide, HB2, HB3, Lib.hid ⟨rfl, rfl⟩⟩
      case measure => decide
    · obtain rfl : g = 4 := hg
      obtain rfl : s = [⟨9223372036854775807, 9223372036854775807, 0⟩, ⟨(-9223372036854775808), (-9223372036854775808), 1⟩, ⟨0, 0, 2⟩, ⟨(-1), (-1), 3⟩] := hs
      have p0 := HB.out.cell 4
      simp only [List.getElem?_toArray, List.getElem?_cons_zero, List.getElem?_cons_succ] at p0
      have HP := Lib.hid (oPush bef_no HO.out 1 1 (by unfold fits; omega) (by decide) (by decide))
      rw [show ins noI ⟨1, 1, 4⟩ [⟨9223372036854775807, 9223372036854775807, 0⟩, ⟨(-9223372036854775808), (-9223372036854775808), 1⟩, ⟨0, 0, 2⟩, ⟨(-1), (-1), 3⟩] = [⟨9223372036854775807, 9223372036854775807, 0⟩, ⟨(-9223372036854775808), (-9223372036854775808), 1⟩, ⟨0, 0, 2⟩, ⟨(-1), (-1), 3⟩, ⟨1, 1, 4⟩] from by rfl] at HP
      clear HO
      go_wp2_with fail
      refine HP.out.mono ?_
      rintro e wb ⟨rfl, hb, hf⟩
      have HB2 := Lib.hid hb
      have HB3 := Lib.hid (HB.out.fr (els_keep hf) (fun z => z rfl))
      clear hb hf p0
      go_wp2
      go_roundw
      case rel => exact ⟨5, [⟨9223372036854775807, 9223372036854775807, 0⟩, ⟨(-9223372036854775808), (-9223372036854775808), 1⟩, ⟨0, 0, 2⟩, ⟨(-1), (-1), 3⟩, ⟨1, 1, 4⟩], 5, rfl, by decide, HB2, HB3, Lib.hid ⟨rfl, rfl⟩⟩
      case measure => decide
    · obtain rfl : g = 5 := hg
      obtain rfl : s = [⟨9223372036854775807, 9223372036854775807, 0⟩, ⟨(-9223372036854775808), (-9223372036854775808), 1⟩, ⟨0, 0, 2⟩, ⟨(-1), (-1), 3⟩, ⟨1, 1, 4⟩] := hs
      go_wp2_with fail
      refine (oIds bef_no HO.out).mono ?_
      rintro e w3 ⟨A, n, c, rfl, hn, ho, hf⟩
      obtain rfl : n = 5 := hn
      have EQ := Lib.hid (equal_ids ho (Fr.refl No w3) (some ⟨G, 0, none⟩) 5 _ (by decide) ((HB.out.fr hf (fun z => z)).reads (xs := [.int .i64 9223372036854775807, .int .i64 (-9223372036854775808), .int .i64 0, .int .i64 (-1), .int .i64 1]) (n := 5) (by decide)))
      have H4 := Lib.hid (HO.out.fr0 hf)
      clear ho hf HO HB
      go_wp2_with fail
      refine EQ.out.mono ?_
      rintro e w5 ⟨rfl, hf⟩
      have H5 := Lib.hid ((H4.out.fr0 hf).add (K' := No) (Fr.refl No w5) (fun k hk => hk.elim))
      clear hf EQ H4
      go_wp2_with fail
      refine (oChange bef_no H5.out 9223372036854775807 0 (by unfold fits; omega) (by decide) (by decide)).mono ?_
      rintro e w6 ⟨rfl, h, _⟩
      rw [show ins noI ⟨9223372036854775807, 0, 5⟩ (del 9223372036854775807 [⟨9223372036854775807, 9223372036854775807, 0⟩, ⟨(-9223372036854775808), (-9223372036854775808), 1⟩, ⟨0, 0, 2⟩, ⟨(-1), (-1), 3⟩, ⟨1, 1, 4⟩]) = [⟨(-9223372036854775808), (-9223372036854775808), 1⟩, ⟨0, 0, 2⟩, ⟨(-1), (-1), 3⟩, ⟨1, 1, 4⟩, ⟨9223372036854775807, 0, 5⟩] from by rfl] at h
      have H6 := Lib.hid h
      clear h H5
      go_wp2_with fail
      refine (oRemove bef_no H6.out 0 (by unfold fits; omega) (by decide)).mono ?_
      rintro e w7 ⟨rfl, h, _⟩
      rw [show del 0 [⟨(-9223372036854775808), (-9223372036854775808), 1⟩, ⟨0, 0, 2⟩, ⟨(-1), (-1), 3⟩, ⟨1, 1, 4⟩, ⟨9223372036854775807, 0, 5⟩] = ([⟨(-9223372036854775808), (-9223372036854775808), 1⟩, ⟨(-1), (-1), 3⟩, ⟨1, 1, 4⟩, ⟨9223372036854775807, 0, 5⟩] : List (En Int)) from by rfl] at h
      have H7 := Lib.hid h
      clear h H6
      go_wp2_with fail
      refine (oPush bef_no H7.out 0 0 (by unfold fits; omega) (by decide) (by decide)).mono ?_
      rintro e w8 ⟨rfl, h, _⟩
      rw [show ins noI ⟨0, 0, 5 + 1⟩ [⟨(-9223372036854775808), (-9223372036854775808), 1⟩, ⟨(-1), (-1), 3⟩, ⟨1, 1, 4⟩, ⟨9223372036854775807, 0, 5⟩] = [⟨(-9223372036854775808), (-9223372036854775808), 1⟩, ⟨(-1), (-1), 3⟩, ⟨1, 1, 4⟩, ⟨9223372036854775807, 0, 5⟩, ⟨0, 0, 6⟩] from by rfl] at h
      have H8 := Lib.hid h
      clear h H7
      go_wp2_with fail
      refine (oChange bef_no H8.out (-1) 7 (by unfold fits; omega) (by decide) (by decide)).mono ?_
      rintro e w9 ⟨rfl, h, _⟩
      rw [show ins noI ⟨(-1), 7, 5 + 1 + 1⟩ (del (-1) [⟨(-9223372036854775808), (-9223372036854775808), 1⟩, ⟨(-1), (-1), 3⟩, ⟨1, 1, 4⟩, ⟨9223372036854775807, 0, 5⟩, ⟨0, 0, 6⟩]) = [⟨(-9223372036854775808), (-9223372036854775808), 1⟩, ⟨1, 1, 4⟩, ⟨9223372036854775807, 0, 5⟩, ⟨0, 0, 6⟩, ⟨(-1), 7, 7⟩] from by rfl] at h
      have H9 := Lib.hid h
      clear h H8
      obtain ⟨wa, hwa⟩ : ∃ wa, wa = w9.alloc (.cells #[.int .i64 (-9223372036854775808), .int .i64 1, .int .i64 9223372036854775807, .int .i64 0, .int .i64 (-1)] 3) := ⟨_, rfl⟩
      have FA := Lib.hid (show Fr No w9 wa by rw [hwa]; exact (Fr.refl No w9).alloc _)
      have BA := Lib.hid (show Blk wa w9.heap.size 3 #[.int .i64 (-9223372036854775808), .int .i64 1, .int .i64 9223372036854775807, .int .i64 0, .int .i64 (-1)] by rw [hwa]; exact Blk.new _ _ _)
      have HWA := Lib.hid hwa
      generalize hG2 : w9.heap.size = G2 at *
      have HO := Lib.hid (H9.out.add (K' := (· = G2)) FA.out (fun k hk => by subst hk; right; exact ⟨by omega, BA.out.lt⟩))
      clear hwa H9
      go_wp2_with fail
      rw [← HWA.out]
      clear hG2
      refine (oIds bef_no HO.out).mono ?_
      rintro e wb ⟨A, n, c, rfl, hn, ho, hf⟩
      obtain rfl : n = 5 := hn
      have BB := Lib.hid (BA.out.fr hf (fun z => z))
      have EQ := Lib.hid (equal_ids ho (Fr.refl No wb) (some ⟨G2, 0, none⟩) 5 _ (by decide) (BB.out.reads (xs := [.int .i64 (-9223372036854775808), .int .i64 1, .int .i64 9223372036854775807, .int .i64 0, .int .i64 (-1)]) (n := 5) (by decide)))
      have HB4 := Lib.hid (HO.out.fr0 hf)
      clear ho hf HO BA FA HWA
      go_wp2_with fail
      refine EQ.out.mono ?_
      rintro e wc ⟨rfl, hf⟩
      have HC := Lib.hid (HB4.out.fr0 hf)
      have BC := Lib.hid (BB.out.fr hf (fun z => z))
      clear hf EQ HB4 BB
      go_wp2_with fail
      go_loopw [59] (fun iv wr => ∃ (k : Nat) (s : List (En Int)), iv = .int .i64 k ∧ k ≤ 5 ∧ Hid (OwnI 31 noI w wr b (· = G2) s 8) ∧ Hid (Blk wr G2 3 #[.int .i64 (-9223372036854775808), .int .i64 1, .int .i64 9223372036854775807, .int .i64 0, .int .i64 (-1)]) ∧ Hid (s = stF k)) (fun iv _ => 5 - (intOf iv).toNat)
      case atStart => exact ⟨0, _, rfl, by omega, HC, BC, Lib.hid rfl⟩
      case round =>
        clear HC BC
        obtain ⟨k, s, rfl, hk, HO, HB, HG⟩ := hrel
        have hs := HG.out
        clear HG
        have ec : k = 0 ∨ k = 1 ∨ k = 2 ∨ k = 3 ∨ k = 4 ∨ k = 5 := by omega
        rcases ec with rfl | rfl | rfl | rfl | rfl | rfl
        · obtain rfl : s = [⟨(-9223372036854775808), (-9223372036854775808), 1⟩, ⟨1, 1, 4⟩, ⟨9223372036854775807, 0, 5⟩, ⟨0, 0, 6⟩, ⟨(-1), 7, 7⟩] := hs
          have p0 := HB.out.cell 0
          simp only [List.getElem?_toArray, List.getElem?_cons_zero] at p0
          have HP := Lib.hid (oPop bef_no HO.out)
          rw [show topV ([⟨(-9223372036854775808), (-9223372036854775808), 1⟩, ⟨1, 1, 4⟩, ⟨9223372036854775807, 0, 5⟩, ⟨0, 0, 6⟩, ⟨(-1), 7, 7⟩] : List (En Int)) = (-9223372036854775808) from rfl, show topB ([⟨(-9223372036854775808), (-9223372036854775808), 1⟩, ⟨1, 1, 4⟩, ⟨9223372036854775807, 0, 5⟩, ⟨0, 0, 6⟩, ⟨(-1), 7, 7⟩] : List (En Int)) = true from rfl, show ([⟨(-9223372036854775808), (-9223372036854775808), 1⟩, ⟨1, 1, 4⟩, ⟨9223372036854775807, 0, 5⟩, ⟨0, 0, 6⟩, ⟨(-1), 7, 7⟩] : List (En Int)).tail = [⟨1, 1, 4⟩, ⟨9223372036854775807, 0, 5⟩, ⟨0, 0, 6⟩, ⟨(-1), 7, 7⟩] from rfl] at HP
          clear HO
          go_wp2_with fail
          refine HP.out.mono ?_
          rintro e wd ⟨rfl, hb, hf⟩
          have HB2 := Lib.hid hb
          have HB3 := Lib.hid (HB.out.fr (els_keep hf) (fun z => z rfl))
          clear hb hf p0
          go_wp2
          go_roundw
          case rel => exact ⟨1, [⟨1, 1, 4⟩, ⟨9223372036854775807, 0, 5⟩, ⟨0, 0, 6⟩, ⟨(-1), 7, 7⟩], rfl, by decide, HB2, HB3, Lib.hid rfl⟩
          case measure => decide
        · obtain rfl : s = [⟨1, 1, 4⟩, ⟨9223372036854775807, 0, 5⟩, ⟨0, 0, 6⟩, ⟨(-1), 7, 7⟩] := hs
          have p0 := HB.out.cell 1
          simp only [List.getElem?_toArray, List.getElem?_cons_zero, List.getElem?_cons_succ] at p0
          have HP := Lib.hid (oPop bef_no HO.out)
          rw [show topV ([⟨1, 1, 4⟩, ⟨9223372036854775807, 0, 5⟩, ⟨0, 0, 6⟩, ⟨(-1), 7, 7⟩] : List (En Int)) = 1 from rfl, show topB ([⟨1, 1, 4⟩, ⟨9223372036854775807, 0, 5⟩, ⟨0, 0, 6⟩, ⟨(-1), 7, 7⟩] : List (En Int)) = true from rfl, show ([⟨1, 1, 4⟩, ⟨9223372036854775807, 0, 5⟩, ⟨0, 0, 6⟩, ⟨(-1), 7, 7⟩] : List (En Int)).tail = [⟨9223372036854775807, 0, 5⟩, ⟨0, 0, 6⟩, ⟨(-1), 7, 7⟩] from rfl] at HP
          clear HO
          go_wp2_with fail
          refine HP.out.mono ?_
          rintro e wd ⟨rfl, hb, hf⟩
          have HB2 := Lib.hid hb
          have HB3 := Lib.hid (HB.out.fr (els_keep hf) (fun z => z rfl))
          clear hb hf p0
          go_wp2
          go_roundw
          case rel => exact ⟨2, [⟨9223372036854775807, 0, 5⟩, ⟨0, 0, 6⟩, ⟨(-1), 7, 7⟩], rfl, by decide, HB2, HB3, Lib.hid rfl⟩
          case measure => decide
        · obtain rfl : s = [⟨9223372036854775807, 0, 5⟩, ⟨0, 0, 6⟩, ⟨(-1), 7, 7⟩] := hs
          have p0 := HB.out.cell 2
          simp only [List.getElem?_toArray, List.getElem?_cons_zero, List.getElem?_cons_succ] at p0
          have HP := Lib.hid (oPop bef_no HO.out)
          rw [show topV ([⟨9223372036854775807, 0, 5⟩, ⟨0, 0, 6⟩, ⟨(-1), 7, 7⟩] : List (En Int)) = 9223372036854775807 from rfl, show topB ([⟨9223372036854775807, 0, 5⟩, ⟨0, 0, 6⟩, ⟨(-1), 7, 7⟩] : List (En Int)) = true from rfl, show ([⟨9223372036854775807, 0, 5⟩, ⟨0, 0, 6⟩, ⟨(-1), 7, 7⟩] : List (En Int)).tail = [⟨0, 0, 6⟩, ⟨(-1), 7, 7⟩] from rfl] at HP
          clear HO
          go_wp2_with fail
          refine HP.out.mono ?_
          rintro e wd ⟨rfl, hb, hf⟩
          have HB2 := Lib.hid hb
          have HB3 := Lib.hid (HB.out.fr (els_keep hf) (fun z => z rfl))
          clear hb hf p0
          go_wp2
          go_roundw
          case rel => exact ⟨3, [⟨0, 0, 6⟩, ⟨(-1), 7, 7⟩], rfl, by decide, HB2, HB3, Lib.hid rfl⟩
          case measure => decide
        · obtain rfl : s = [⟨0, 0, 6⟩, ⟨(-1), 7, 7⟩] := hs
          have p0 := HB.out.cell 3
          simp only [List.getElem?_toArray, List.getElem?_cons_zero, List.getElem?_cons_succ] at p0
          have HP := Lib.hid (oPop bef_no HO.out)
          rw [show topV ([⟨0, 0, 6⟩, ⟨(-1), 7, 7⟩] : List (En Int)) = 0 from rfl, show topB ([⟨0, 0, 6⟩, ⟨(-1), 7, 7⟩] : List (En Int)) = true from rfl, show ([⟨0, 0, 6⟩, ⟨(-1), 7, 7⟩] : List (En Int)).tail = [⟨(-1), 7, 7⟩] from rfl] at HP
          clear HO
          go_wp2_with fail
          refine HP.out.mono ?_
          rintro e wd ⟨rfl, hb, hf⟩
          have HB2 := Lib.hid hb
          have HB3 := Lib.hid (HB.out.fr (els_keep hf) (fun z => z rfl))
          clear hb hf p0
          go_wp2
          go_roundw
          case rel => exact ⟨4, [⟨(-1), 7, 7⟩], rfl, by decide, HB2, HB3, Lib.hid rfl⟩
          case measure => decide
        · obtain rfl : s = [⟨(-1), 7, 7⟩] := hs
          have p0 := HB.out.cell 4
          simp only [List.getElem?_toArray, List.getElem?_cons_zero, List.getElem?_cons_succ] at p0
          have HP := Lib.hid (oPop bef_no HO.out)
          rw [show topV ([⟨(-1), 7, 7⟩] : List (En Int)) = (-1) from rfl, show topB ([⟨(-1), 7, 7⟩] : List (En Int)) = true from rfl, show ([⟨(-1), 7, 7⟩] : List (En Int)).tail = [] from rfl] at HP
          clear HO
          go_wp2_with fail
          refine HP.out.mono ?_
          rintro e wd ⟨rfl, hb, hf⟩
          have HB2 := Lib.hid hb
          have HB3 := Lib.hid (HB.out.fr (els_keep hf) (fun z => z rfl))
          clear hb hf p0
          go_wp2
          go_roundw
          case rel => exact ⟨5, [], rfl, by decide, HB2, HB3, Lib.hid rfl⟩
          case measure => decide
        · obtain rfl : s = [] := hs
          have HT := Lib.hid (oTop weak_no HO.out)
          rw [show topV ([] : List (En Int)) = 0 from rfl, show topB ([] : List (En Int)) = false from rfl] at HT
          have HL := Lib.hid (oLen HO.out)
          rw [show ([] : List (En Int)).length = 0 from rfl] at HL
          clear HB
          go_wp2_with fail
          refine HT.out.mono ?_
          rintro e we ⟨rfl, rfl⟩
          go_wp2_with fail
          refine HL.out.mono ?_
          rintro e we ⟨rfl, rfl⟩
          go_wp2_with fail
          refine (works_any _).mono ?_
          rintro e wf ⟨rfl, hf⟩
          go_wp2
          go_ret
          exact ⟨rfl, HO.out.fr.then0 hf⟩
end Go.Proofs.Ytbndmelkdamgjaa
