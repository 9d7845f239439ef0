/- The counts of all jobs add up: plain. A view of a table and of its runs. -/
import Derived.Test.YtopcjakgfaobcaaO
namespace Go.Proofs.Ytopcjakgfaobcaa
open Go.RowKit Go.Wk

def notIn (l : List RV) (j : Int) (q : Nat) : Bool := (l.take q).all (fun x => x.job != j)
def cover (l : List RV) (i : Nat) : Nat := l.countP (fun x => (l.take i).any (fun y => y.job == x.job))
theorem take_run {l : List RV} {i : Nat} (h : i < l.length) : l.take (i + 1) = l.take i ++ [l.getD i RV.zero] := by
  rw [List.take_succ_eq_append_getElem h]; simp [h]
theorem notIn_succ {l : List RV} {j : Int} {q : Nat} (h : q < l.length) : notIn l j (q + 1) = (notIn l j q && ((l.getD q RV.zero).job != j)) := by
  unfold notIn
  rw [take_run h, List.all_append]
  simp
theorem countP_or {p q : RV → Bool} : ∀ (l : List RV), (∀ x ∈ l, ¬ (p x = true ∧ q x = true)) → l.countP (fun x => p x || q x) = l.countP p + l.countP q
  | [], _ => rfl
  | a :: l, h => by
    have ih := countP_or l (fun x hx => h x (by simp [hx]))
    have ha := h a (by simp)
    simp only [List.countP_cons, ih]
    cases hp : p a <;> cases hq : q a <;> simp_all <;> omega
theorem cover_succ {l : List RV} {i : Nat} (h : i < l.length) : ((cover l (i + 1) : Nat) : Int) = (cover l i : Nat) + (if notIn l (l.getD i RV.zero).job i = true then cntJ (l.getD i RV.zero).job l else 0) := by
  unfold cover
  have e : (fun x : RV => (l.take (i + 1)).any (fun y => y.job == x.job)) = fun x => ((l.take i).any (fun y => y.job == x.job)) || ((l.getD i RV.zero).job == x.job) := by
    funext x
    rw [take_run h, List.any_append]
    simp
  rw [e]
  by_cases hn : notIn l (l.getD i RV.zero).job i = true
  · rw [if_pos hn, countP_or]
    · unfold cntJ
      rw [show (fun x : RV => (l.getD i RV.zero).job == x.job) = fun x => x.job == (l.getD i RV.zero).job from funext fun x => Bool.beq_comm]
      omega
    · rintro x _ ⟨h1, h2⟩
      obtain ⟨y, hy, he⟩ := List.any_eq_true.1 h1
      have := List.all_eq_true.1 hn y hy
      simp at this he h2
      exact this (by simpa using he.trans h2.symm)
  · rw [if_neg hn, Int.add_zero]
    congr 1
    apply List.countP_congr
    intro x _
    simp only [Bool.or_eq_true]
    refine ⟨fun h => h.elim id (fun h2 => ?_), .inl⟩
    have hn' : notIn l (l.getD i RV.zero).job i = false := by simpa using hn
    unfold notIn at hn'
    rw [List.all_eq_false] at hn'
    obtain ⟨y, hy, he⟩ := hn'
    refine List.any_eq_true.2 ⟨y, hy, ?_⟩
    have e2 : y.job = (l.getD i RV.zero).job := by simpa using he
    rw [e2]
    exact h2
theorem cover_le (l : List RV) (i : Nat) : ((cover l i : Nat) : Int) ≤ l.length := by
  have := List.countP_le_length (p := fun x : RV => (l.take i).any (fun y => y.job == x.job)) (l := l)
  unfold cover
  omega
theorem cover_all (l : List RV) : ((cover l l.length : Nat) : Int) = l.length := by
  unfold cover
  rw [List.take_length, List.countP_eq_length.2]
  intro x hx
  exact List.any_eq_true.2 ⟨x, hx, by simp⟩
theorem cover_zero (l : List RV) : ((cover l 0 : Nat) : Int) = 0 := by
  unfold cover
  simp
theorem cntJ_succ {job : Int} {l : List RV} {i : Nat} (h : i < l.length) : cntJ job (l.take (i + 1)) = cntJ job (l.take i) + (if (l.getD i RV.zero).job = job then 1 else 0) := by
  rw [take_run h, cntJ_snoc]
theorem cntJ_take_le (job : Int) (l : List RV) (i : Nat) : 0 ≤ cntJ job (l.take i) ∧ cntJ job (l.take i) ≤ (l.length : Int) := by
  have h1 := cntJ_le job (l.take i)
  have h2 := List.length_take_le' i l
  omega

/-- A table of the call's own, and a slice with its runs. -/
theorem vi {k : IntKind} {a b : Int} (h : a = b) : Value.int k a = .int k b := by rw [h]

structure View (w wr : World) (b : Nat) (D : Nat → Prop) (s : TS) (A : Option Addr) (n : Nat) (l : List RV) : Prop where
  own : Own w wr b D s
  rd : Reads wr wr.heap.size 5 A n (rcells l)
theorem View.fr0 {w w1 w2 : World} {b : Nat} {D : Nat → Prop} {s : TS} {A : Option Addr} {n : Nat} {l : List RV} (h : View w w1 b D s A n l) (hf : Fr No w1 w2) : View w w2 b D s A n l :=
  ⟨h.own.fr0 hf, (h.rd.fr hf (Nat.le_refl _) (fun _ _ x => x)).more hf.size⟩
theorem View.of {w w1 w2 : World} {b : Nat} {D : Nat → Prop} {s : TS} {A : Option Addr} {c n : Nat} (h : Own w w1 b D s) (ho : w2.ownsRow w1.heap.size 31 5 (.slice A n c) n (rcells s.live)) (hf : Fr No w1 w2) : View w w2 b D s A n s.live :=
  ⟨h.fr0 hf, Reads.of_own ho⟩
end Go.Proofs.Ytopcjakgfaobcaa
