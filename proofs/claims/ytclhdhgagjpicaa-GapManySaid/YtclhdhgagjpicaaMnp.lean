/- Plain laws on the times 0, 3, 6 and so on, and closed facts on small lists. No program stands here. -/
import Derived.Test.YtclhdhgagjpicaaWnp
import Derived.Test.YtclhdhgagjpicaaRM
namespace Go.Proofs.Ytclhdhgagjpicaa
open Go.RowKit Go.Wk

def three (n : Nat) : List Int := (List.range n).map (fun i : Nat => 3 * (i : Int))
theorem three_len (n : Nat) : (three n).length = n := by simp [three]
theorem three_get {n i : Nat} (h : i < n) : (three n).getD i 0 = 3 * (i : Int) := by simp [three, h]
theorem three_good {n : Nat} (h : n ≤ 100000) : Good (three n) := by
  refine ⟨by rw [three_len]; exact h, fun i hi => ?_, fun i hi => ?_⟩
  · rw [three_len] at hi
    rw [three_get hi]
    omega
  · rw [three_len] at hi
    rw [three_get (by omega), three_get hi]
    omega
theorem three_win {n i : Nat} (h : i < n) : win (three n) 7 i = min (i + 3) n - i := by
  refine win_eq (by omega) (by rw [three_len]; omega) (fun j h1 h2 => ?_) ?_
  · rw [three_get (by omega), three_get h]
    omega
  · by_cases h3 : i + 3 < n
    · right
      rw [show min (i + 3) n = i + 3 by omega, three_get h3, three_get h]
      omega
    · left
      rw [three_len]
      omega
theorem three_most {n : Nat} (h0 : 3 ≤ n) (h : n ≤ 100000) : mostN (three n) 7 = 3 ∧ mostT (three n) 7 = 0 := by
  obtain ⟨N, i, hm, h1, h2⟩ := most_of (three_good h) (v := 7) (by rw [three_len]; omega) (by omega) (by omega)
  have hil := hm.lt
  rw [three_len] at hil
  have e0 := hm.le 0 (by rw [three_len]; omega)
  rw [three_win (by omega)] at e0
  have e1 := hm.eq
  rw [three_win hil] at e1
  have hi0 : i = 0 := by
    rcases Nat.eq_zero_or_pos i with h3 | h3
    · exact h3
    · have := hm.first 0 h3
      rw [three_win (by omega)] at this
      omega
  subst hi0
  rw [h1, h2, three_get (by omega)]
  constructor <;> omega
theorem three_frec : ∀ (n s : Nat) (e : Int), e ≤ 3 * (s : Int) → frec 3 ((List.range' s n).map (fun i : Nat => 3 * (i : Int))) e = n
  | 0, _, _, _ => rfl
  | n + 1, s, e, h => by
    rw [List.range'_succ, List.map_cons, frec, if_pos h, three_frec n (s + 1) _ (by push_cast; omega)]
theorem three_cov {n : Nat} (h : n ≤ 100000) : covN (three n) 3 = n := by
  rw [covN_frec (three_good h) (by omega) (by omega)]
  unfold three
  rw [List.range_eq_range', three_frec n 0 (-1) (by omega)]
theorem many_chk {l : List Int} (h : 100000 < l.length) : chk [l] = 12 := by
  have hm : many l = true := by simpa [many] using h
  unfold chk
  rw [if_pos (by simp [hm])]
theorem many_chk2 {a l : List Int} (h : 100000 < l.length) : chk [a, l] = 12 := by
  have hm : many l = true := by simpa [many] using h
  unfold chk
  rw [if_pos (by simp [hm])]
theorem many_wnd {l : List Int} (v : Int) (h : 100000 < l.length) : wnd l v = 12 := by
  unfold wnd
  rw [many_chk h]
  simp
theorem many_near {l : List Int} (v : Int) (h : 100000 < l.length) : nearE l v = 12 := by
  unfold nearE
  rw [many_chk h]
  simp
theorem many_most {l : List Int} (v : Int) (h : 100000 < l.length) : mostN l v = 0 ∧ mostT l v = 0 ∧ covN l v = 0 := by
  unfold mostN mostT covN
  rw [many_wnd v h]
  simp
theorem k_55 : wnd [5, 5] 0 = 8 := by decide +kernel
theorem k_55x : wnd [5, 5, 253402300800] 0 = 14 := by decide +kernel
theorem k_56 : wnd [5, 6] 68719476737 = 2 := by decide +kernel
theorem k_65 : chk [[6, 5], [-1]] = 14 := by decide +kernel
theorem k_n55 : nearE [5, 5] (-1) = 14 := by decide +kernel
theorem k_0w : wnd [0, 253402300799] 68719476736 = 0 := by decide +kernel
theorem k_0c : covN [0, 253402300799] 68719476736 = 2 := by decide +kernel
end Go.Proofs.Ytclhdhgagjpicaa
