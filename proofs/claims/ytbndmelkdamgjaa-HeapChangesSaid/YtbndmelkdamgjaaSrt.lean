/- What push and take leave of the order; the list in order that an array stands for. No program stands here. -/
import Derived.Test.YtbndmelkdamgjaaPlc
namespace Go.Proofs.Ytbndmelkdamgjaa
open Go.RowKit Go.Wk
section
variable {V : Type} {bf : V → V → Bool}
section
variable [Inhabited V] {l : List (En V)} {i : Nat}
theorem push_get (l : List (En V)) (e : En V) (j : Nat) (hj : j < l.length) : (l ++ [e]).getD j default = l.getD j default := by
  simp [List.getElem?_append_left hj]
theorem HP.push (h : HP bf l) (e : En V) : UpI bf (l ++ [e]) l.length := by
  refine ⟨fun j h0 h1 hj => ?_, fun hi j h0 h1 hj => ?_⟩
  · rw [List.length_append, List.length_singleton] at h1
    have := par_lt h0
    rw [push_get l e j (by omega), push_get l e (par j) (by omega)]
    exact h j h0 (by omega)
  · rw [List.length_append, List.length_singleton] at h1
    have := par_lt h0
    omega
theorem HP.cut (hw : Weak bf) (h : HP bf l) (hi : i < l.length - 1) : DnI bf (Proofs.Ytbndmelkdamgjaa.cut l i) i := by
  refine ⟨fun j h0 h1 hj hp => ?_, fun h00 j h0 h1 hj => ?_⟩
  · rw [cut_len] at h1
    have := par_lt h0
    rw [cut_get (by omega) h1, cut_get (by omega) (by omega), if_neg hj, if_neg hp]
    exact h j h0 (by omega)
  · rw [cut_len] at h1
    have hp := par_lt h0
    have hp2 := par_lt h00
    rw [cut_get (by omega) h1, cut_get (by omega) (by omega), if_neg (by omega), if_neg (by omega)]
    have a := h j h0 (by omega)
    rw [hj] at a
    exact fst_neg hw a (h i h00 (by omega))
theorem HP.cut_last (h : HP bf l) (hl : 0 < l.length) : HP bf (Proofs.Ytbndmelkdamgjaa.cut l (l.length - 1)) := by
  intro j h0 h1
  rw [cut_len] at h1
  have hp := par_lt h0
  rw [cut_get (by omega) h1, cut_get (by omega) (by omega), if_neg (by omega), if_neg (by omega)]
  exact h j h0 (by omega)
/-- Nothing comes before the first. -/
theorem HP.top (hw : Weak bf) (h : HP bf l) : ∀ j, j < l.length → fst bf (l.getD j default) (l.getD 0 default) = false := by
  intro j
  induction j using Nat.strongRecOn with
  | ind j ih =>
    intro hj
    rcases Nat.eq_zero_or_pos j with rfl | h0
    · exact fst_irr hw _
    · have hp := par_lt h0
      exact fst_neg hw (h j h0 hj) (ih (par j) hp (by omega))
end
/-- In order. -/
def Sorted (bf : V → V → Bool) (s : List (En V)) : Prop := s.Pairwise (fun a b => fst bf a b = true)
theorem sorted_unique (hw : Weak bf) : ∀ {s t : List (En V)}, Sorted bf s → Sorted bf t → (∀ e, e ∈ s ↔ e ∈ t) → s = t
  | [], [], _, _, _ => rfl
  | [], b :: t, _, _, h => by have := (h b).2 (List.mem_cons_self ..); cases this
  | a :: s, [], _, _, h => by have := (h a).1 (List.mem_cons_self ..); cases this
  | a :: s, b :: t, h1, h2, h => by
    obtain ⟨ha, hs⟩ := List.pairwise_cons.1 h1
    obtain ⟨hb, ht⟩ := List.pairwise_cons.1 h2
    have hab : a = b := by
      rcases List.mem_cons.1 ((h a).1 (List.mem_cons_self ..)) with e | e
      · exact e
      · rcases List.mem_cons.1 ((h b).2 (List.mem_cons_self ..)) with e2 | e2
        · exact e2.symm
        · have := fst_asym hw (hb a e)
          rw [ha b e2] at this; cases this
    subst hab
    have na : a ∉ s := fun e => by have := ha a e; rw [fst_irr hw] at this; cases this
    have nb : a ∉ t := fun e => by have := hb a e; rw [fst_irr hw] at this; cases this
    rw [sorted_unique hw hs ht (fun e => ?_)]
    constructor
    · intro he
      rcases List.mem_cons.1 ((h e).1 (List.mem_cons_of_mem _ he)) with e1 | e1
      · subst e1; exact absurd he na
      · exact e1
    · intro he
      rcases List.mem_cons.1 ((h e).2 (List.mem_cons_of_mem _ he)) with e1 | e1
      · subst e1; exact absurd he nb
      · exact e1
/-- One entry put where it belongs. -/
def ins (bf : V → V → Bool) (e : En V) : List (En V) → List (En V)
  | [] => [e]
  | a :: s => if fst bf a e then a :: ins bf e s else e :: a :: s
theorem mem_ins (e x : En V) : ∀ s : List (En V), x ∈ ins bf e s ↔ x = e ∨ x ∈ s
  | [] => by simp [ins]
  | a :: s => by
    unfold ins
    split
    · rw [List.mem_cons, mem_ins e x s, List.mem_cons]
      constructor
      · rintro (h | h | h) <;> simp [h]
      · rintro (h | h | h) <;> simp [h]
    · simp
theorem ins_len (e : En V) : ∀ s : List (En V), (ins bf e s).length = s.length + 1
  | [] => rfl
  | a :: s => by
    unfold ins
    split
    · rw [List.length_cons, ins_len e s, List.length_cons]
    · rfl
theorem ins_sorted (hw : Weak bf) (e : En V) : ∀ s : List (En V), Sorted bf s → (∀ a ∈ s, a.p ≠ e.p) → Sorted bf (ins bf e s)
  | [], _, _ => by simp [ins, Sorted]
  | a :: s, h, hp => by
    obtain ⟨ha, hs⟩ := List.pairwise_cons.1 h
    unfold ins
    by_cases hf : fst bf a e = true
    · rw [if_pos hf]
      refine List.pairwise_cons.2 ⟨fun b hb => ?_, ins_sorted hw e s hs (fun b hb => hp b (List.mem_cons_of_mem _ hb))⟩
      rcases (mem_ins e b s).1 hb with rfl | hb
      · exact hf
      · exact ha b hb
    · rw [if_neg hf]
      rw [Bool.not_eq_true] at hf
      have hea := fst_total (hp a (List.mem_cons_self ..)) hf
      refine List.pairwise_cons.2 ⟨fun b hb => ?_, h⟩
      rcases List.mem_cons.1 hb with rfl | hb
      · exact hea
      · exact fst_tr hw hea (ha b hb)
/-- The entries but the one with an id. -/
def del (x : Int) (s : List (En V)) : List (En V) := s.filter (fun a => a.id != x)
theorem mem_del (x : Int) (s : List (En V)) (e : En V) : e ∈ del x s ↔ e ∈ s ∧ e.id ≠ x := by simp [del]
theorem del_sorted (x : Int) {s : List (En V)} (h : Sorted bf s) : Sorted bf (del x s) := List.Pairwise.filter _ h
def ids (s : List (En V)) : List Int := s.map (·.id)
theorem del_none {x : Int} {s : List (En V)} (h : x ∉ ids s) : del x s = s := by
  unfold del
  rw [List.filter_eq_self]
  intro a ha
  have : a.id ≠ x := fun e => h (by rw [← e]; exact List.mem_map.2 ⟨a, ha, rfl⟩)
  simpa using this
theorem del_head {a : En V} {s : List (En V)} (h : (ids (a :: s)).Nodup) : del a.id (a :: s) = s := by
  have h1 : a.id ∉ ids s := (List.nodup_cons.1 h).1
  have := del_none h1
  unfold del at this ⊢
  rw [List.filter_cons_of_neg (by simp)]
  exact this
theorem ids_del (x : Int) (s : List (En V)) : ids (del x s) = (ids s).filter (fun a => a != x) := by
  unfold ids del
  rw [List.filter_map]
  rfl
theorem del_len {x : Int} : ∀ {s : List (En V)}, (ids s).Nodup → x ∈ ids s → (del x s).length = s.length - 1
  | [], _, h => by simp [ids] at h
  | a :: s, hn, h => by
    by_cases e : a.id = x
    · subst e
      rw [del_head hn]
      rfl
    · have h1 : x ∈ ids s := by
        rcases List.mem_cons.1 h with e2 | e2
        · exact absurd e2.symm e
        · exact e2
      have hn2 : (ids s).Nodup := (List.nodup_cons.1 hn).2
      have ih := del_len hn2 h1
      have hp : 0 < s.length := by
        rcases s with _ | ⟨b, s⟩
        · simp [ids] at h1
        · simp
      unfold del at ih ⊢
      rw [List.filter_cons_of_pos (by simpa using e), List.length_cons, ih, List.length_cons]
      omega
end
end Go.Proofs.Ytbndmelkdamgjaa
