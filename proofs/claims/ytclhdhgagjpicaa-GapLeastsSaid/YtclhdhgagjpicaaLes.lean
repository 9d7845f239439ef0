/- GapLeasts: the walk. -/
import Derived.Test.YtclhdhgagjpicaaRG
import Derived.Test.YtclhdhgagjpicaaW
import Derived.Test.YtclhdhgagjpicaaFew
namespace Go.Proofs.Ytclhdhgagjpicaa
open Go.RowKit Go.Wk

set_option maxRecDepth 100000 in
set_option maxHeartbeats 4000000 in
theorem gapLeasts_walk (A : Option Addr) (n c : Nat) (l : List Int) (w : World) (h : Reads w w.heap.size 1 A n (l.map (Value.int .i64))) :
    Calls Try.prog 13 #[.slice A n c] w fun e w' => e = .returned (.bool true) ∧ Fr No w w' := by
  have HFW := Lib.hid (few1_any A n c w)
  have F1 := (Fr.refl No w).alloc (.cells #[.slice A n c] 25)
  have HR := Lib.hid (h.fr0 F1)
  have HF := Lib.hid F1
  clear h F1
  by_cases hb : 700 < n
  · have hd : decide (700 < n) = true := by simpa using hb
    rw [hd] at HFW
    go_enter Try.func13, Try.ntmps13
    go_wp2_with (go_at_call 20; refine HFW.out.mono ?_; rintro e w1 ⟨rfl, rfl⟩)
    refine (works_any _).mono ?_
    rintro e w2 ⟨rfl, hf⟩
    go_wp2
    go_ret
    exact ⟨rfl, HF.out.then0 hf⟩
  · have hd : decide (700 < n) = false := by simpa using hb
    rw [hd] at HFW
    have hn : n ≤ 1000000 := by omega
    generalize hwa : w.alloc (.cells #[.slice A n c] 25) = wa at *
    go_enter Try.func13, Try.ntmps13
    go_wp2_with fail
    refine HFW.out.mono ?_
    rintro e w1 ⟨rfl, rfl⟩
    go_wp2_with fail
    refine (clone_any A n c l _ HR.out hn).mono ?_
    rintro e w2 ⟨Ag, cg, rfl, ho, hnc, hf⟩
    have HG := Lib.hid (show Reads w2 w2.heap.size 1 Ag n (l.map (Value.int .i64)) from Reads.of_own ho)
    replace HR := Lib.hid (HR.out.fr0 hf)
    replace HF := Lib.hid (HF.out.then0 hf)
    clear ho hf hnc
    go_wp2_with fail
    refine (gaps_any Ag n cg _ l _ HG.out (Nat.le_refl _)).mono ?_
    rintro e w3 ⟨Aa, ca, rfl, ho, hf⟩
    have HA := Lib.hid (Reads.of_own ho)
    replace HR := Lib.hid (HR.out.fr0 hf)
    replace HG := Lib.hid (HG.out.fr0 hf)
    replace HF := Lib.hid (HF.out.then0 hf)
    clear ho hf
    go_wp2_with fail
    refine (rgaps_any A n c _ l _ HR.out (Nat.le_refl _)).mono ?_
    rintro e w4 ⟨Ab, cb, rfl, ho, hf⟩
    have HB := Lib.hid (Reads.of_own ho)
    replace HR := Lib.hid (HR.out.fr0 hf)
    replace HG := Lib.hid (HG.out.fr0 hf)
    replace HA := Lib.hid (HA.out.fr0 hf)
    replace HF := Lib.hid (HF.out.then0 hf)
    clear ho hf
    go_wp2_with fail
    refine (least_any Ag n cg _ l _ HG.out (Nat.le_refl _)).mono ?_
    rintro e w5 ⟨rfl, hf⟩
    replace HR := Lib.hid (HR.out.fr0 hf)
    replace HG := Lib.hid (HG.out.fr0 hf)
    replace HA := Lib.hid (HA.out.fr0 hf)
    replace HB := Lib.hid (HB.out.fr0 hf)
    replace HF := Lib.hid (HF.out.then0 hf)
    clear hf
    go_wp2_with fail
    refine (rleast_any A n c _ l _ HR.out (Nat.le_refl _)).mono ?_
    rintro e w6 ⟨rfl, hf⟩
    replace HR := Lib.hid (HR.out.fr0 hf)
    replace HG := Lib.hid (HG.out.fr0 hf)
    replace HA := Lib.hid (HA.out.fr0 hf)
    replace HB := Lib.hid (HB.out.fr0 hf)
    replace HF := Lib.hid (HF.out.then0 hf)
    clear hf
    go_wp2_with fail
    refine (even_any Ag n cg _ l _ HG.out (Nat.le_refl _)).mono ?_
    rintro e w7 ⟨rfl, hf⟩
    replace HR := Lib.hid (HR.out.fr0 hf)
    replace HG := Lib.hid (HG.out.fr0 hf)
    replace HA := Lib.hid (HA.out.fr0 hf)
    replace HB := Lib.hid (HB.out.fr0 hf)
    replace HF := Lib.hid (HF.out.then0 hf)
    clear hf
    go_wp2_with fail
    refine (reven_any A n c _ l _ HR.out (Nat.le_refl _)).mono ?_
    rintro e w8 ⟨rfl, hf⟩
    replace HR := Lib.hid (HR.out.fr0 hf)
    replace HG := Lib.hid (HG.out.fr0 hf)
    replace HA := Lib.hid (HA.out.fr0 hf)
    replace HB := Lib.hid (HB.out.fr0 hf)
    replace HF := Lib.hid (HF.out.then0 hf)
    clear hf
    have hgl : (gapL l).length ≤ 9223372036854775807 := by have := gapL_len l; omega
    have h1 : (leastV l == leastV l) = true := by simp
    have h2 : (leastB l == leastB l) = true := by simp
    have h3 : (evenV l == evenV l) = true := by simp
    have h4 : (evenB l == evenB l) = true := by simp
    have h5 : (chk [l] == chk [l]) = true := by simp
    generalize gapL l = g at *
    go_wp2_with fail
    refine (equal_yes _ _ g.length _ _ _ _ g _ hgl HA.out HB.out).mono ?_
    rintro e w9 ⟨rfl, hf⟩
    replace HR := Lib.hid (HR.out.fr0 hf)
    replace HG := Lib.hid (HG.out.fr0 hf)
    replace HF := Lib.hid (HF.out.then0 hf)
    clear hf
    go_wp2_with fail
    refine (equal_yes _ _ n _ _ _ _ l _ (by omega) HG.out HR.out).mono ?_
    rintro e w10 ⟨rfl, hf⟩
    replace HF := Lib.hid (HF.out.then0 hf)
    clear hf
    go_wp2_with fail
    refine (works_any _).mono ?_
    rintro e w11 ⟨rfl, hf⟩
    go_wp2
    go_ret
    exact ⟨rfl, HF.out.then0 hf⟩
end Go.Proofs.Ytclhdhgagjpicaa
