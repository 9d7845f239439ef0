/- GapCovers, GapMosts: the walks. -/
import Derived.Test.YtclhdhgagjpicaaRB
import Derived.Test.YtclhdhgagjpicaaW
import Derived.Test.YtclhdhgagjpicaaFew
namespace Go.Proofs.Ytclhdhgagjpicaa
open Go.RowKit Go.Wk

theorem gapCovers_walk (A : Option Addr) (n c : Nat) (l : List Int) (v : Int) (w : World) (h : Reads w w.heap.size 1 A n (l.map (Value.int .i64))) :
    Calls Try.prog 7 #[.slice A n c, .int .i64 v] w fun e w' => e = .returned (.bool true) ∧ Fr No w w' := by
  have HFW := Lib.hid (few1_any A n c w)
  have F1 := (Fr.refl No w).alloc (.cells #[.slice A n c] 25)
  have HR := Lib.hid (h.fr0 F1)
  have HF := Lib.hid F1
  clear h F1
  by_cases hb : 700 < n
  · have hd : decide (700 < n) = true := by simpa using hb
    rw [hd] at HFW
    go_enter Try.func7, Try.ntmps7
    go_wp2_with (go_at_call 20; refine HFW.out.mono ?_; rintro e w1 ⟨rfl, rfl⟩)
    refine (works_any _).mono ?_
    rintro e w2 ⟨rfl, hf⟩
    go_wp2
    go_ret
    exact ⟨rfl, HF.out.then0 hf⟩
  · have hd : decide (700 < n) = false := by simpa using hb
    rw [hd] at HFW
    generalize hwa : w.alloc (.cells #[.slice A n c] 25) = wa at *
    go_enter Try.func7, Try.ntmps7
    go_wp2_with fail
    refine HFW.out.mono ?_
    rintro e w1 ⟨rfl, rfl⟩
    go_wp2_with fail
    refine (cover_any A n c _ l v _ HR.out (Nat.le_refl _)).mono ?_
    rintro e w2 ⟨rfl, hf⟩
    replace HR := Lib.hid (HR.out.fr0 hf)
    replace HF := Lib.hid (HF.out.then0 hf)
    clear hf
    go_wp2_with fail
    refine (rcover_any A n c _ l v _ HR.out (Nat.le_refl _)).mono ?_
    rintro e w3 ⟨rfl, hf⟩
    replace HF := Lib.hid (HF.out.then0 hf)
    clear hf
    have h1 : (covN l v == covN l v) = true := by simp
    have h2 : (wnd l v == wnd l v) = true := by simp
    go_wp2_with fail
    refine (works_any _).mono ?_
    rintro e w4 ⟨rfl, hf⟩
    go_wp2
    go_ret
    exact ⟨rfl, HF.out.then0 hf⟩

theorem gapMosts_walk (A : Option Addr) (n c : Nat) (l : List Int) (v : Int) (w : World) (h : Reads w w.heap.size 1 A n (l.map (Value.int .i64))) :
    Calls Try.prog 6 #[.slice A n c, .int .i64 v] w fun e w' => e = .returned (.bool true) ∧ Fr No w w' := by
  have HFW := Lib.hid (few1_any A n c w)
  have F1 := (Fr.refl No w).alloc (.cells #[.slice A n c] 25)
  have HR := Lib.hid (h.fr0 F1)
  have HF := Lib.hid F1
  clear h F1
  by_cases hb : 700 < n
  · have hd : decide (700 < n) = true := by simpa using hb
    rw [hd] at HFW
    go_enter Try.func6, Try.ntmps6
    go_wp2_with (go_at_call 20; refine HFW.out.mono ?_; rintro e w1 ⟨rfl, rfl⟩)
    refine (works_any _).mono ?_
    rintro e w2 ⟨rfl, hf⟩
    go_wp2
    go_ret
    exact ⟨rfl, HF.out.then0 hf⟩
  · have hd : decide (700 < n) = false := by simpa using hb
    rw [hd] at HFW
    generalize hwa : w.alloc (.cells #[.slice A n c] 25) = wa at *
    go_enter Try.func6, Try.ntmps6
    go_wp2_with fail
    refine HFW.out.mono ?_
    rintro e w1 ⟨rfl, rfl⟩
    go_wp2_with fail
    refine (most_any A n c _ l v _ HR.out (Nat.le_refl _)).mono ?_
    rintro e w2 ⟨rfl, hf⟩
    replace HR := Lib.hid (HR.out.fr0 hf)
    replace HF := Lib.hid (HF.out.then0 hf)
    clear hf
    go_wp2_with fail
    refine (rmost_any A n c _ l v _ HR.out (Nat.le_refl _)).mono ?_
    rintro e w3 ⟨rfl, hf⟩
    replace HF := Lib.hid (HF.out.then0 hf)
    clear hf
    have h1 : (mostN l v == mostN l v) = true := by simp
    have h2 : (mostT l v == mostT l v) = true := by simp
    have h3 : (wnd l v == wnd l v) = true := by simp
    go_wp2_with fail
    refine (works_any _).mono ?_
    rintro e w4 ⟨rfl, hf⟩
    go_wp2
    go_ret
    exact ⟨rfl, HF.out.then0 hf⟩
end Go.Proofs.Ytclhdhgagjpicaa
