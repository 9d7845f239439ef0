/- Plain laws on windows: what Most and Cover say of them. No program stands here. -/
import Derived.Test.YtclhdhgagjpicaaCt
import Derived.Test.YtclhdhgagjpicaaCvp
namespace Go.Proofs.Ytclhdhgagjpicaa
open Go.RowKit Go.Wk

theorem filter_lt_take {b : Int} : ∀ (D : List Int), Inc D → (D.filter (fun t => decide (t < b))).length = (D.takeWhile (fun t => decide (t < b))).length
  | [], _ => rfl
  | a :: D, h => by
    have h1 := List.pairwise_cons.1 h
    by_cases hab : a < b
    · rw [List.filter_cons_of_pos (by simpa using hab), List.takeWhile_cons_of_pos (by simpa using hab), List.length_cons, List.length_cons, filter_lt_take D h1.2]
    · rw [List.filter_cons_of_neg (by simpa using hab), List.takeWhile_cons_of_neg (by simpa using hab), List.filter_eq_nil_iff.2 (fun x hx => by have := h1.1 x hx; simp; omega)]
theorem insN_win {l : List Int} (h : Inc l) (v : Int) {i : Nat} (hi : i < l.length) : insN l (l.getD i 0) v = win l v i := by
  unfold insN win
  have hd : Inc (l.drop i) := h.sublist (List.drop_sublist i l)
  rw [← filter_lt_take (l.drop i) hd]
  conv => lhs; rw [← List.take_append_drop i l]
  rw [List.filter_append, List.length_append]
  have e1 : (l.take i).filter (fun t => decide (l.getD i 0 ≤ t ∧ t < l.getD i 0 + v)) = [] := List.filter_eq_nil_iff.2 (fun x hx => by
    obtain ⟨j, hj, hjl, rfl⟩ := mem_take_getD hx
    have := h.lt hj hi
    intro hc
    have := of_decide_eq_true hc
    omega)
  have key : ∀ x ∈ l.drop i, l.getD i 0 ≤ x := fun x hx => by
    obtain ⟨j, hj, rfl⟩ := List.mem_iff_getElem.1 hx
    rw [List.length_drop] at hj
    rcases Nat.eq_zero_or_pos j with h0 | h0
    · subst h0; simp [hi]
    · have := h.lt (show i < i + j by omega) (by omega)
      rw [show l.getD (i + j) 0 = l[i + j]'(by omega) by simp [show i + j < l.length by omega]] at this
      simp only [List.getElem_drop]
      omega
  have e2 : (l.drop i).filter (fun t => decide (l.getD i 0 ≤ t ∧ t < l.getD i 0 + v)) = (l.drop i).filter (fun t => decide (t < l.getD i 0 + v)) := List.filter_congr (fun x hx => by
    exact decide_eq_decide.2 ⟨fun h => h.2, fun h => ⟨key x hx, h⟩⟩)
  rw [show (fun t => decide ((List.take i l ++ List.drop i l).getD i 0 ≤ t ∧ t < (List.take i l ++ List.drop i l).getD i 0 + v)) = (fun t => decide (l.getD i 0 ≤ t ∧ t < l.getD i 0 + v)) by rw [List.take_append_drop]]
  rw [e1, e2]
  simp
/-- The window at any time has no more than the one at the first time of the list behind it. -/
theorem insN_any {l : List Int} (h : Inc l) {v : Int} (N : Nat) (hN : ∀ i, i < l.length → win l v i ≤ N) (x : Int) : insN l x v ≤ N := by
  rcases Nat.eq_zero_or_pos (insN l x v) with h0 | h0
  · omega
  · unfold insN at h0
    obtain ⟨y, hy⟩ : ∃ y, y ∈ l.filter (fun t => decide (x ≤ t ∧ t < x + v)) := List.exists_mem_of_length_pos h0
    -- the first one
    have key : ∀ (m : Nat), m < l.length → x ≤ l.getD m 0 → ∃ i, i < l.length ∧ x ≤ l.getD i 0 ∧ ∀ j, j < i → l.getD j 0 < x := fun m => by
      induction m with
      | zero => intro h1 h2; exact ⟨0, h1, h2, fun j hj => absurd hj (by omega)⟩
      | succ m ih =>
        intro h1 h2
        by_cases h3 : x ≤ l.getD m 0
        · exact ih (by omega) h3
        · refine ⟨m + 1, h1, h2, fun j hj => ?_⟩
          rcases (show j = m ∨ j < m by omega) with rfl | hj
          · omega
          · have := h.lt hj (show m < l.length by omega); omega
    have hy2 := List.mem_filter.1 hy
    obtain ⟨m, hm, hme⟩ := mem_getD hy2.1
    have hxy := of_decide_eq_true hy2.2
    obtain ⟨i, hi, hxi, hj⟩ := key m hm (by rw [hme]; exact hxy.1)
    refine Nat.le_trans ?_ (hN i hi)
    rw [← insN_win h v hi]
    unfold insN
    rw [← List.countP_eq_length_filter, ← List.countP_eq_length_filter]
    refine List.countP_mono_left ?_
    intro t ht hc
    have hc := of_decide_eq_true hc
    refine decide_eq_true ⟨?_, by omega⟩
    obtain ⟨q, hq, rfl⟩ := mem_getD ht
    rcases Nat.lt_or_ge q i with h5 | h5
    · have := hj q h5; omega
    · rcases Nat.lt_or_ge i q with h6 | h6
      · have := h.lt h6 hq; omega
      · rw [show q = i by omega]; exact Int.le_refl _
theorem split_len (b : Int) : ∀ l : List Int, l.length = (l.filter (fun t => decide (t < b))).length + (l.filter (fun t => decide (b ≤ t))).length
  | [] => rfl
  | a :: l => by
    have ih := split_len b l
    by_cases h : a < b
    · rw [List.filter_cons_of_pos (by simpa using h), List.filter_cons_of_neg (by simp; omega), List.length_cons, List.length_cons]; omega
    · rw [List.filter_cons_of_neg (by simpa using h), List.filter_cons_of_pos (by simp; omega), List.length_cons, List.length_cons]; omega
/-- No more times than windows times the most in one. -/
theorem frec_mul {v : Int} (hv : 1 ≤ v) (N : Nat) : ∀ (l : List Int) (e : Int), Inc l → (∀ x ∈ l, insN l x v ≤ N) → (l.filter (fun t => decide (e ≤ t))).length ≤ N * frec v l e
  | [], _, _, _ => by simp
  | a :: l, e, hi, hN => by
    have hi1 := List.pairwise_cons.1 hi
    have hN1 : ∀ x ∈ l, insN l x v ≤ N := fun x hx => by
      refine Nat.le_trans ?_ (hN x (by simp [hx]))
      unfold insN
      exact ((List.sublist_cons_self a l).filter _).length_le
    rw [frec]
    by_cases hea : e ≤ a
    · rw [if_pos hea]
      have ih := frec_mul hv N l (a + v) hi1.2 hN1
      have e1 : (a :: l).filter (fun t => decide (e ≤ t)) = a :: l := List.filter_eq_self.2 (fun x hx => by
        rcases List.mem_cons.1 hx with rfl | hx
        · exact decide_eq_true hea
        · have := hi1.1 x hx; exact decide_eq_true (by omega))
      rw [e1]
      have e2 := split_len (a + v) l
      have e3 := hN a (by simp)
      unfold insN at e3
      rw [List.filter_cons_of_pos (by simp; omega), List.length_cons] at e3
      have e4 : (l.filter (fun t => decide (a ≤ t ∧ t < a + v))) = l.filter (fun t => decide (t < a + v)) := List.filter_congr (fun x hx => by
        have := hi1.1 x hx
        exact decide_eq_decide.2 ⟨fun h => h.2, fun h => ⟨by omega, h⟩⟩)
      rw [e4] at e3
      rw [Nat.mul_add, Nat.mul_one, List.length_cons]
      omega
    · rw [if_neg hea, List.filter_cons_of_neg (by simpa using hea)]
      exact frec_mul hv N l e hi1.2 hN1
theorem frec_le (v : Int) : ∀ (l : List Int) (e : Int), frec v l e ≤ l.length
  | [], _ => by simp [frec]
  | a :: l, e => by
    rw [frec]
    split
    · have := frec_le v l (a + v); simp; omega
    · have := frec_le v l e; simp; omega

/-- What Most finds. -/
structure MostOf (l : List Int) (v : Int) (N : Nat) (i : Nat) : Prop where
  lt : i < l.length
  eq : win l v i = N
  le : ∀ j, j < l.length → win l v j ≤ N
  first : ∀ j, j < i → win l v j < N
theorem win_pos {l : List Int} {v : Int} (hv : 1 ≤ v) {i : Nat} (hi : i < l.length) : 1 ≤ win l v i := by
  unfold win
  rw [List.drop_eq_getElem_cons hi, List.takeWhile_cons_of_pos (by simp [hi]; omega)]
  simp
theorem mostAt_of {l : List Int} {v : Int} (hv : 1 ≤ v) : ∀ k, 0 < k → k ≤ l.length → ∃ i, i < k ∧ mostAt l v k = ((win l v i : Int), l.getD i 0) ∧ (∀ j, j < k → win l v j ≤ win l v i) ∧ ∀ j, j < i → win l v j < win l v i
  | 0, h, _ => absurd h (by omega)
  | 1, _, hl => by
    refine ⟨0, by omega, ?_, fun j hj => by rw [show j = 0 by omega]; exact Nat.le_refl _, fun j hj => absurd hj (by omega)⟩
    have := win_pos (l := l) (v := v) hv (show 0 < l.length by omega)
    show mostStep l v (0, 0) 0 = _
    unfold mostStep
    rw [if_pos (by simp only; omega)]
  | k + 2, _, hl => by
    obtain ⟨i, h1, h2, h3, h4⟩ := mostAt_of (l := l) hv (k + 1) (by omega) (by omega)
    show ∃ i, _ ∧ mostStep l v (mostAt l v (k + 1)) (k + 1) = _ ∧ _
    rw [h2]
    unfold mostStep
    by_cases hc : win l v i < win l v (k + 1)
    · rw [if_pos (by simp only; omega)]
      refine ⟨k + 1, by omega, rfl, fun j hj => ?_, fun j hj => ?_⟩
      · rcases (show j < k + 1 ∨ j = k + 1 by omega) with h | rfl
        · have := h3 j h; omega
        · exact Nat.le_refl _
      · have := h3 j hj; omega
    · rw [if_neg (by simp only; omega)]
      refine ⟨i, by omega, rfl, fun j hj => ?_, h4⟩
      rcases (show j < k + 1 ∨ j = k + 1 by omega) with h | rfl
      · exact h3 j h
      · omega
theorem most_of {l : List Int} {v : Int} (h : Good l) (h0 : 0 < l.length) (h1 : 1 ≤ v) (h2 : v ≤ 68719476736) : ∃ (N : Nat) (i : Nat), MostOf l v N i ∧ mostN l v = N ∧ mostT l v = l.getD i 0 := by
  obtain ⟨i, a1, a2, a3, a4⟩ := mostAt_of (l := l) h1 l.length h0 (Nat.le_refl _)
  refine ⟨win l v i, i, ⟨a1, rfl, a3, a4⟩, ?_, ?_⟩
  · unfold mostN; rw [if_pos (wnd_good h h1 h2), a2]
  · unfold mostT; rw [if_pos (wnd_good h h1 h2), a2]
theorem cover_mul {l : List Int} {v : Int} (h : Good l) (h1 : 1 ≤ v) {N i : Nat} (hm : MostOf l v N i) : l.length ≤ N * frec v l (-1) := by
  have := frec_mul h1 N l (-1) h.inc_ (fun x _ => insN_any h.inc_ N hm.le x)
  rwa [List.filter_eq_self.2 (fun x hx => decide_eq_true (h.ge x hx))] at this
theorem frec_pos {l : List Int} {v : Int} (h : Good l) (h0 : 0 < l.length) : 1 ≤ frec v l (-1) := by
  match l, h, h0 with
  | a :: t, h, _ =>
    rw [frec, if_pos (h.ge a (by simp))]
    omega
end Go.Proofs.Ytclhdhgagjpicaa
