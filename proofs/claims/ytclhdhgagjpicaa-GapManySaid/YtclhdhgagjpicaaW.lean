/- The laws' works: the examples of the chapter. -/
import Derived.Test.YtclhdhgagjpicaaG
namespace Go.Wk
open Go.RowKit
theorem Reads.fr0 {W Y : World} {n : Nat} {A : Option Addr} {xs : List Value} (h : Reads W W.heap.size 1 A n xs) (hf : Fr No W Y) : Reads Y Y.heap.size 1 A n xs := (h.fr hf (Nat.le_refl _) (fun _ _ x => x)).more hf.size
theorem reads_new (w : World) (t : TypeId) (l : List Int) (_h : 0 < l.length) : Reads (w.alloc (.cells (l.map (Value.int .i64)).toArray t)) (w.alloc (.cells (l.map (Value.int .i64)).toArray t)).heap.size 1 (some ⟨w.heap.size, 0, none⟩) l.length (l.map (Value.int .i64)) := by
  have hb := Blk.new w t (l.map (Value.int .i64)).toArray
  refine ⟨by simp, fun _ => ⟨_, rfl, by simp, fun j u hu => ?_⟩⟩
  rw [add_plain, Nat.zero_add, hb.cell]
  simpa using hu
end Go.Wk
namespace Go.Proofs.Ytclhdhgagjpicaa
open Go.RowKit Go.Wk

def exL : List Int := [10, 12, 15, 30]
theorem ex_chk : chk [exL] = 0 := by decide +kernel
theorem ex_gap : gapL exL = [2, 3, 15] := by decide +kernel
theorem ex_least : leastV exL = 2 := by decide +kernel
theorem ex_leastB : leastB exL = true := by decide +kernel
theorem ex_mostN : mostN exL 5 = 2 := by decide +kernel
theorem ex_mostT : mostT exL 5 = 10 := by decide +kernel
theorem ex_wnd : wnd exL 5 = 0 := by decide +kernel
theorem ex_cov : covN exL 5 = 3 := by decide +kernel
theorem ex_chk2 : chk [exL, [12, 13]] = 0 := by decide +kernel
theorem ex_merge : mergeL exL [12, 13] = [10, 12, 13, 15, 30] := by
  unfold mergeL
  rw [if_pos ex_chk2]
  simp [exL, bothL]
theorem ex_near : nearE exL 13 = 0 := by decide +kernel
theorem ex_nearest : Nearest exL 13 1 := by
  refine ⟨by decide, fun k hk => ?_, fun k hk => ?_⟩
  · have : k = 0 ∨ k = 1 ∨ k = 2 ∨ k = 3 := by simp [exL] at hk; omega
    rcases this with rfl | rfl | rfl | rfl <;> decide +kernel
  · obtain rfl : k = 0 := by omega
    decide +kernel
theorem ex_33 : chk [[3, 3]] = 8 := by decide +kernel
theorem ex_33g : gapL [3, 3] = [] := by decide +kernel

set_option maxRecDepth 100000 in
set_option maxHeartbeats 4000000 in
theorem works_any (w : World) : Calls Try.prog 16 #[] w fun e w' => e = .returned (.bool true) ∧ Fr No w w' := by
  have HL := Lib.hid (reads_new w 2 exL (by decide))
  have HF := Lib.hid ((Fr.refl No w).alloc (.cells (exL.map (Value.int .i64)).toArray 2))
  obtain ⟨w1, hw1⟩ : ∃ w1, w1 = w.alloc (.cells #[.int .i64 10, .int .i64 12, .int .i64 15, .int .i64 30] 2) := ⟨_, rfl⟩
  have HW1 := Lib.hid hw1
  have e1 : w.alloc (.cells (exL.map (Value.int .i64)).toArray 2) = w1 := by rw [hw1]; rfl
  rw [e1] at HL HF
  clear hw1 e1
  have hlen : exL.length = 4 := rfl
  rw [hlen] at HL
  clear hlen
  go_enter Try.func16, Try.ntmps16
  go_wp2_with fail
  rw [← HW1.out]
  refine (gaps_any _ 4 4 _ exL w1 HL.out (Nat.le_refl _)).mono ?_
  rintro e w2 ⟨Ag, cg, rfl, hg, hf⟩
  rw [ex_gap, ex_chk]
  rw [ex_gap] at hg
  have HG := Lib.hid (Reads.of_own hg)
  replace HL := Lib.hid (HL.out.fr0 hf)
  replace HF := Lib.hid (HF.out.then0 hf)
  clear hg hf
  go_wp2_with fail
  refine (least_any _ 4 4 _ exL w2 HL.out (Nat.le_refl _)).mono ?_
  rintro e w3 ⟨rfl, hf⟩
  rw [ex_least, ex_leastB, ex_chk]
  replace HL := Lib.hid (HL.out.fr0 hf)
  replace HG := Lib.hid (HG.out.fr0 hf)
  replace HF := Lib.hid (HF.out.then0 hf)
  clear hf
  go_wp2_with fail
  refine (most_any _ 4 4 _ exL 5 w3 HL.out (Nat.le_refl _)).mono ?_
  rintro e w4 ⟨rfl, hf⟩
  rw [ex_mostN, ex_mostT, ex_wnd]
  replace HL := Lib.hid (HL.out.fr0 hf)
  replace HG := Lib.hid (HG.out.fr0 hf)
  replace HF := Lib.hid (HF.out.then0 hf)
  clear hf
  go_wp2_with fail
  refine (cover_any _ 4 4 _ exL 5 w4 HL.out (Nat.le_refl _)).mono ?_
  rintro e w5 ⟨rfl, hf⟩
  rw [ex_cov, ex_wnd]
  replace HL := Lib.hid (HL.out.fr0 hf)
  replace HG := Lib.hid (HG.out.fr0 hf)
  replace HF := Lib.hid (HF.out.then0 hf)
  clear hf
  have H2 := Lib.hid (reads_new w5 2 [12, 13] (by decide))
  have F2 := (Fr.refl No w5).alloc (.cells #[.int .i64 12, .int .i64 13] 2)
  have e2 : (([12, 13] : List Int).map (Value.int .i64)).toArray = #[.int .i64 12, .int .i64 13] := rfl
  rw [e2] at H2
  replace HL := Lib.hid (HL.out.fr0 F2)
  replace HG := Lib.hid (HG.out.fr0 F2)
  replace HF := Lib.hid (HF.out.then0 F2)
  clear F2 e2
  go_wp2_with fail
  refine (merge_any _ _ 4 4 2 2 exL [12, 13] _ HL.out H2.out (by omega) (by omega)).mono ?_
  rintro e w6 ⟨Am, cm, rfl, hm, hf⟩
  rw [ex_merge, ex_chk2]
  rw [ex_merge] at hm
  have HM := Lib.hid (Reads.of_own hm)
  replace HL := Lib.hid (HL.out.fr0 hf)
  replace HG := Lib.hid (HG.out.fr0 hf)
  replace HF := Lib.hid (HF.out.then0 hf)
  clear hm hf H2
  go_wp2_with fail
  refine (near_any _ 4 4 _ exL 13 w6 HL.out (Nat.le_refl _) (by omega) (by omega)).mono ?_
  rintro e w7 ⟨i, rfl, _, hi, hf⟩
  obtain ⟨k, rfl, hk⟩ := hi ex_near
  obtain rfl := hk.same ex_nearest
  rw [ex_near]
  replace HG := Lib.hid (HG.out.fr0 hf)
  replace HM := Lib.hid (HM.out.fr0 hf)
  replace HF := Lib.hid (HF.out.then0 hf)
  clear hf hi hk HL
  have H3 := Lib.hid (reads_new w7 2 [3, 3] (by decide))
  have F2 := (Fr.refl No w7).alloc (.cells #[.int .i64 3, .int .i64 3] 2)
  have e2 : (([3, 3] : List Int).map (Value.int .i64)).toArray = #[.int .i64 3, .int .i64 3] := rfl
  rw [e2] at H3
  replace HG := Lib.hid (HG.out.fr0 F2)
  replace HM := Lib.hid (HM.out.fr0 F2)
  replace HF := Lib.hid (HF.out.then0 F2)
  clear F2 e2
  go_wp2_with fail
  refine (gaps_any _ 2 2 _ [3, 3] _ H3.out (Nat.le_refl _)).mono ?_
  rintro e w8 ⟨Ah, ch, rfl, hh, hf⟩
  rw [ex_33, ex_33g]
  replace HG := Lib.hid (HG.out.fr0 hf)
  replace HM := Lib.hid (HM.out.fr0 hf)
  replace HF := Lib.hid (HF.out.then0 hf)
  clear hh hf H3
  have H4 := Lib.hid (reads_new w8 2 [2, 3, 15] (by decide))
  have F2 := (Fr.refl No w8).alloc (.cells #[.int .i64 2, .int .i64 3, .int .i64 15] 2)
  have e2 : (([2, 3, 15] : List Int).map (Value.int .i64)).toArray = #[.int .i64 2, .int .i64 3, .int .i64 15] := rfl
  rw [e2] at H4
  replace HG := Lib.hid (HG.out.fr0 F2)
  replace HM := Lib.hid (HM.out.fr0 F2)
  replace HF := Lib.hid (HF.out.then0 F2)
  clear F2 e2
  go_wp2_with fail
  refine (equal_yes _ _ 3 _ 3 _ _ [2, 3, 15] _ (by omega) HG.out H4.out).mono ?_
  rintro e w9 ⟨rfl, hf⟩
  replace HM := Lib.hid (HM.out.fr0 hf)
  replace HF := Lib.hid (HF.out.then0 hf)
  clear hf HG H4
  have H4 := Lib.hid (reads_new w9 2 [10, 12, 13, 15, 30] (by decide))
  have F2 := (Fr.refl No w9).alloc (.cells #[.int .i64 10, .int .i64 12, .int .i64 13, .int .i64 15, .int .i64 30] 2)
  have e2 : (([10, 12, 13, 15, 30] : List Int).map (Value.int .i64)).toArray = #[.int .i64 10, .int .i64 12, .int .i64 13, .int .i64 15, .int .i64 30] := rfl
  rw [e2] at H4
  replace HM := Lib.hid (HM.out.fr0 F2)
  replace HF := Lib.hid (HF.out.then0 F2)
  clear F2 e2
  go_wp2_with fail
  refine (equal_yes _ _ 5 _ 5 _ _ [10, 12, 13, 15, 30] _ (by omega) HM.out H4.out).mono ?_
  rintro e w10 ⟨rfl, hf⟩
  replace HF := Lib.hid (HF.out.then0 hf)
  clear hf HM H4
  go_wp2
  go_ret
  exact ⟨rfl, HF.out⟩
end Go.Proofs.Ytclhdhgagjpicaa
