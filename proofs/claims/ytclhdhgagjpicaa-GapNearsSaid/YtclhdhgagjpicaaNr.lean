/- GapNears: the walk. -/
import Derived.Test.YtclhdhgagjpicaaRN
import Derived.Test.YtclhdhgagjpicaaW
import Derived.Test.YtclhdhgagjpicaaFew
namespace Go.Proofs.Ytclhdhgagjpicaa
open Go.RowKit Go.Wk

theorem gapNears_walk (A : Option Addr) (n c : Nat) (l : List Int) (v : Int) (w : World) (h : Reads w w.heap.size 1 A n (l.map (Value.int .i64))) (v0 : -9223372036854775808 ≤ v) (v1 : v ≤ 9223372036854775807) :
    Calls Try.prog 8 #[.slice A n c, .int .i64 v] w fun e w' => e = .returned (.bool true) ∧ Fr No w w' := by
  have HFW := Lib.hid (few1_any A n c w)
  have F1 := (Fr.refl No w).alloc (.cells #[.slice A n c] 25)
  have HR := Lib.hid (h.fr0 F1)
  have HF := Lib.hid F1
  clear h F1
  by_cases hb : 700 < n
  · have hd : decide (700 < n) = true := by simpa using hb
    rw [hd] at HFW
    go_enter Try.func8, Try.ntmps8
    go_wp2_with (go_at_call 20; refine HFW.out.mono ?_; rintro e w1 ⟨rfl, rfl⟩)
    refine (works_any _).mono ?_
    rintro e w2 ⟨rfl, hf⟩
    go_wp2
    go_ret
    exact ⟨rfl, HF.out.then0 hf⟩
  · have hd : decide (700 < n) = false := by simpa using hb
    rw [hd] at HFW
    generalize hwa : w.alloc (.cells #[.slice A n c] 25) = wa at *
    go_enter Try.func8, Try.ntmps8
    go_wp2_with fail
    refine HFW.out.mono ?_
    rintro e w1 ⟨rfl, rfl⟩
    go_wp2_with fail
    refine (near_any A n c _ l v _ HR.out (Nat.le_refl _) v0 v1).mono ?_
    rintro e w2 ⟨i, rfl, hi0, hi1, hf⟩
    replace HR := Lib.hid (HR.out.fr0 hf)
    replace HF := Lib.hid (HF.out.then0 hf)
    clear hf
    have HI := Lib.hid (And.intro hi0 hi1)
    clear hi0 hi1
    go_wp2_with fail
    refine (rnear_any A n c _ l v _ HR.out (Nat.le_refl _) v0 v1).mono ?_
    rintro e w3 ⟨j, rfl, hj0, hj1, hf⟩
    replace HF := Lib.hid (HF.out.then0 hf)
    clear hf
    have hij : i = j := by
      by_cases h0 : nearE l v = 0
      · obtain ⟨a, rfl, ha⟩ := HI.out.2 h0
        obtain ⟨b, rfl, hb⟩ := hj1 h0
        rw [ha.same hb]
      · rw [HI.out.1 h0, hj0 h0]
    clear hj0 hj1 HI
    obtain rfl := hij
    have h1 : (i == i) = true := by simp
    have h2 : (nearE l v == nearE l v) = true := by simp
    go_wp2_with fail
    refine (works_any _).mono ?_
    rintro e w4 ⟨rfl, hf⟩
    go_wp2
    go_ret
    exact ⟨rfl, HF.out.then0 hf⟩
end Go.Proofs.Ytclhdhgagjpicaa
