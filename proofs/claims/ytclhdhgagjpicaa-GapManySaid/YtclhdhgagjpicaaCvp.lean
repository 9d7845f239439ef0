/- Plain laws on greedy windows: counted from either end, they are as many. No program stands here. -/
import Derived.Test.YtclhdhgagjpicaaPl
import Derived.Test.YtclhdhgagjpicaaMd
namespace Go.Proofs.Ytclhdhgagjpicaa
open Go.RowKit Go.Wk

def frec (v : Int) : List Int → Int → Nat
  | [], _ => 0
  | t :: l, e => if e ≤ t then frec v l (t + v) + 1 else frec v l e
theorem fold_frec (v : Int) : ∀ (l : List Int) (n : Int) (e : Int), (l.foldl (covStep v) (n, e)).1 = n + frec v l e
  | [], n, e => by simp [frec]
  | t :: l, n, e => by
    rw [List.foldl_cons, frec]
    by_cases h : e ≤ t
    · rw [show covStep v (n, e) t = (n + 1, t + v) by unfold covStep; rw [if_pos h], if_pos h, fold_frec v l]
      omega
    · rw [show covStep v (n, e) t = (n, e) by unfold covStep; rw [if_neg h], if_neg h, fold_frec v l]
def Sep (v : Int) (S : List Int) : Prop := S.Pairwise (fun a b => a + v ≤ b)
theorem frec_ge {v : Int} (_hv : 1 ≤ v) : ∀ (l S : List Int) (e : Int), S.Sublist l → Inc l → Sep v S → (∀ s ∈ S, e ≤ s) → S.length ≤ frec v l e
  | [], S, e, hs, _, _, _ => by cases hs; simp
  | a :: l, S, e, hs, hi, hp, he => by
    have hi1 := List.pairwise_cons.1 hi
    rw [frec]
    cases hs with
    | cons _ h =>
      by_cases hea : e ≤ a
      · rw [if_pos hea]
        match S, h, hp with
        | [], _, _ => simp
        | s :: S, h, hp =>
          have hp1 := List.pairwise_cons.1 hp
          have hsa := hi1.1 s (h.subset (by simp))
          have := frec_ge _hv l S (a + v) ((List.sublist_cons_self s S).trans h) hi1.2 hp1.2 (fun x hx => by have := hp1.1 x hx; omega)
          simp only [List.length_cons]
          omega
      · rw [if_neg hea]
        exact frec_ge _hv l S e h hi1.2 hp he
    | cons_cons _ h =>
      rename_i S
      have hp1 := List.pairwise_cons.1 hp
      have hea := he a (by simp)
      rw [if_pos hea]
      have := frec_ge _hv l S (a + v) h hi1.2 hp1.2 hp1.1
      simp only [List.length_cons]
      omega
theorem frec_pick {v : Int} : ∀ (l : List Int) (e : Int), Inc l → ∃ S : List Int, S.Sublist l ∧ Sep v S ∧ (∀ s ∈ S, e ≤ s) ∧ S.length = frec v l e
  | [], e, _ => ⟨[], List.Sublist.slnil, List.Pairwise.nil, by simp, by simp [frec]⟩
  | a :: l, e, hi => by
    have hi1 := List.pairwise_cons.1 hi
    rw [frec]
    by_cases hea : e ≤ a
    · rw [if_pos hea]
      obtain ⟨S, h1, h2, h3, h4⟩ := frec_pick (v := v) l (a + v) hi1.2
      refine ⟨a :: S, h1.cons_cons a, List.pairwise_cons.2 ⟨h3, h2⟩, fun s hs => ?_, by simp [h4]⟩
      rcases List.mem_cons.1 hs with rfl | hs
      · exact hea
      · have := hi1.1 s (h1.subset hs); omega
    · rw [if_neg hea]
      obtain ⟨S, h1, h2, h3, h4⟩ := frec_pick (v := v) l e hi1.2
      exact ⟨S, h1.cons a, h2, h3, h4⟩
/-- Turned round. -/
def rn (l : List Int) : List Int := (l.map (fun x => -x)).reverse
theorem rn_rn (l : List Int) : rn (rn l) = l := by
  have h : ((fun x : Int => -x) ∘ fun x => -x) = id := by funext x; simp
  simp [rn, List.map_reverse, h]
theorem rn_len (l : List Int) : (rn l).length = l.length := by simp [rn]
theorem rn_mem (l : List Int) (x : Int) : x ∈ rn l ↔ -x ∈ l := by
  simp only [rn, List.mem_reverse, List.mem_map]
  constructor
  · rintro ⟨y, hy, rfl⟩; simpa using hy
  · intro h; exact ⟨-x, h, by omega⟩
theorem rn_inc {l : List Int} (h : Inc l) : Inc (rn l) := by
  unfold Inc rn
  rw [List.pairwise_reverse, List.pairwise_map]
  exact h.imp (fun hab => by omega)
theorem rn_sep {v : Int} {S : List Int} (h : Sep v S) : Sep v (rn S) := by
  unfold Sep rn
  rw [List.pairwise_reverse, List.pairwise_map]
  exact h.imp (fun hab => by omega)
theorem rn_sub {S l : List Int} (h : S.Sublist l) : (rn S).Sublist (rn l) := (h.map _).reverse
theorem rn_get {l : List Int} {k : Nat} (h : k < l.length) : (rn l).getD k 0 = - l.getD (l.length - 1 - k) 0 := by
  rw [show (rn l).getD k 0 = (rn l)[k]'(by rw [rn_len]; exact h) by simp [rn_len, h]]
  simp [rn, show l.length - 1 - k < l.length by omega]
theorem frec_rn {v : Int} (hv : 1 ≤ v) {l : List Int} (hi : Inc l) {e e' : Int} (he : ∀ x ∈ l, e ≤ x) (he' : ∀ x ∈ rn l, e' ≤ x) : frec v (rn l) e' = frec v l e := by
  apply Nat.le_antisymm
  · obtain ⟨S, h1, h2, h3, h4⟩ := frec_pick (v := v) (rn l) e' (rn_inc hi)
    rw [← h4, ← rn_len S]
    refine frec_ge hv l (rn S) e ?_ hi (rn_sep h2) (fun s hs => ?_)
    · have := rn_sub h1; rwa [rn_rn] at this
    · have h5 := h1.subset ((rn_mem S s).1 hs)
      exact he s (by have := (rn_mem l (-s)).1 h5; simpa using this)
  · obtain ⟨S, h1, h2, h3, h4⟩ := frec_pick (v := v) l e hi
    rw [← h4, ← rn_len S]
    exact frec_ge hv (rn l) (rn S) e' (rn_sub h1) (rn_inc hi) (rn_sep h2) (fun s hs => he' s ((rn_sub h1).subset hs))
theorem frec_none (v : Int) : ∀ (l : List Int) (e : Int), (∀ x ∈ l, x < e) → frec v l e = 0
  | [], _, _ => rfl
  | a :: l, e, h => by
    rw [frec, if_neg (by have := h a (by simp); omega)]
    exact frec_none v l e (fun x hx => h x (by simp [hx]))
theorem frec_all : ∀ (l : List Int) (e : Int), Inc l → (∀ x ∈ l, e ≤ x) → frec 1 l e = l.length
  | [], _, _, _ => rfl
  | a :: l, e, hi, h => by
    have hi1 := List.pairwise_cons.1 hi
    rw [frec, if_pos (h a (by simp)), frec_all l (a + 1) hi1.2 (fun x hx => by have := hi1.1 x hx; omega)]
    rfl
theorem wnd_good {l : List Int} (h : Good l) {v : Int} (h1 : 1 ≤ v) (h2 : v ≤ 68719476736) : wnd l v = 0 := by
  unfold wnd
  rw [if_neg (by rw [ok_of_good h]; simp), if_neg (by omega)]
theorem covN_frec {l : List Int} (h : Good l) {v : Int} (h1 : 1 ≤ v) (h2 : v ≤ 68719476736) : covN l v = frec v l (-1) := by
  unfold covN cov
  rw [if_pos (wnd_good h h1 h2), fold_frec]
  omega
theorem Good.ge {l : List Int} (h : Good l) : ∀ x ∈ l, (-1 : Int) ≤ x := fun x hx => by have := (h.mem x hx).1; omega
/-- From the end on. -/
def backF (l : List Int) (v : Int) (k : Nat) : Int × Int := ((rn l).take k).foldl (covStep v) (0, v - 4611686018427387904)
theorem backF_succ {l : List Int} (v : Int) {k : Nat} (h : k < l.length) : backF l v (k + 1) = covStep v (backF l v k) (- l.getD (l.length - 1 - k) 0) := by
  unfold backF
  rw [take_snoc (rn l) k (by rw [rn_len]; exact h), List.foldl_append, rn_get h]
  rfl
theorem backF_end {l : List Int} (h : Good l) {v : Int} (h1 : 1 ≤ v) (h2 : v ≤ 68719476736) : (backF l v l.length).1 = covN l v := by
  unfold backF
  rw [List.take_of_length_le (by rw [rn_len]; exact Nat.le_refl _), fold_frec, covN_frec h h1 h2, frec_rn h1 h.inc_ h.ge (fun x hx => by
    have := h.mem _ ((rn_mem l x).1 hx); omega)]
  omega
theorem cov_one {l : List Int} (h : Good l) (h0 : 0 < l.length) (h2 : l.getD (l.length - 1) 0 - l.getD 0 0 + 1 ≤ 68719476736) : covN l (l.getD (l.length - 1) 0 - l.getD 0 0 + 1) = 1 := by
  have hle := h.le (show 0 ≤ l.length - 1 by omega) (by omega)
  rw [covN_frec h (by omega) h2]
  match l, h, h0 with
  | a :: t, h, _ =>
    have hi1 := List.pairwise_cons.1 h.inc_
    have ha := h.mem a (by simp)
    rw [frec, if_pos (by omega), frec_none]
    · rfl
    · intro x hx
      obtain ⟨i, hi, he⟩ := mem_getD (show x ∈ a :: t by simp [hx])
      have := h.le (show i ≤ (a :: t).length - 1 by omega) (by omega)
      rw [he] at this
      have e0 : (a :: t).getD 0 0 = a := rfl
      rw [e0]
      omega
theorem cov_each {l : List Int} (h : Good l) : covN l 1 = l.length := by
  rw [covN_frec h (by omega) (by omega), frec_all l (-1) h.inc_ h.ge]
end Go.Proofs.Ytclhdhgagjpicaa
