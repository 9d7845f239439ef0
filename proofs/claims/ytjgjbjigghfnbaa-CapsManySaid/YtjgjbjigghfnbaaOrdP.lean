/- CapsOrder: plain lemmas on counts. -/
import Derived.Test.YtjgjbjigghfnbaaMade
namespace Go.Proofs.Ytjgjbjigghfnbaa
open Go.RowKit Go.Wk

/-- How many numbers of l are j modulo n. -/
def cnt (n j : Nat) (l : List Int) : Nat := l.countP (fun x => decide (x % (n : Int) = j))
theorem cnt_nil (n j : Nat) : cnt n j [] = 0 := rfl
theorem cnt_snoc (n j : Nat) (l : List Int) (x : Int) : cnt n j (l ++ [x]) = cnt n j l + if x % (n : Int) = j then 1 else 0 := by
  unfold cnt
  rw [List.countP_append]
  by_cases h : x % (n : Int) = j <;> simp [h]
theorem cnt_take (n j : Nat) (l : List Int) (k : Nat) (h : k < l.length) : cnt n j (l.take (k + 1)) = cnt n j (l.take k) + if (l.getD k 0) % (n : Int) = j then 1 else 0 := by
  rw [take_snoc l k h, cnt_snoc]
theorem cnt_le (n j : Nat) (l : List Int) (k : Nat) : cnt n j (l.take k) ≤ cnt n j l := by
  have := List.take_append_drop k l
  conv => rhs; rw [← this]
  unfold cnt
  rw [List.countP_append]
  omega
theorem cnt_rev (n j : Nat) (l : List Int) : cnt n j l.reverse = cnt n j l := by unfold cnt; simp
theorem cnt_len (n j : Nat) (l : List Int) : cnt n j l ≤ l.length := List.countP_le_length
theorem cnt_lt (n j : Nat) (l : List Int) (k : Nat) (h : k < l.length) (hj : (l.getD k 0) % (n : Int) = j) : cnt n j (l.take k) < cnt n j l := by
  have h1 := cnt_take n j l k h
  have h2 := cnt_le n j l (k + 1)
  rw [if_pos hj] at h1
  omega

/-- The counts of all jobs, as a list. -/
def cl (n : Nat) (l : List Int) : List Int := (List.range n).map fun j => (cnt n j l : Int)
theorem cl_len (n : Nat) (l : List Int) : (cl n l).length = n := by simp [cl]
theorem cl_get (n : Nat) (l : List Int) (j : Nat) (h : j < n) : (cl n l).getD j 0 = (cnt n j l : Int) := by simp [cl, h]
theorem cl_nil (n : Nat) : cl n [] = List.replicate n 0 := by
  apply List.ext_getElem
  · simp [cl]
  · intro i h1 h2; simp [cl, cnt]
theorem cl_step (n : Nat) (l : List Int) (k q : Nat) (h : k < l.length) (hq : (l.getD k 0) % (n : Int) = q) :
    (cl n (l.take k)).set q ((cnt n q (l.take k) : Int) + 1) = cl n (l.take (k + 1)) := by
  apply List.ext_getElem
  · simp [cl]
  · intro i h1 h2
    simp only [cl, List.getElem_set, List.getElem_map, List.getElem_range, cnt_take n _ l k h, hq]
    by_cases e : q = i
    · subst e; simp
    · have e' : ¬ ((q : Int) = (i : Int)) := by omega
      simp [e, e']
theorem cl_any (n : Nat) (l : List Int) (h : l.length ≤ 200) : (cl n l).any beyondB = false := by
  rw [List.any_eq_false]
  intro x hx
  simp only [cl, List.mem_map, List.mem_range] at hx
  obtain ⟨j, _, rfl⟩ := hx
  have := cnt_len n j l
  unfold beyondB
  simp; omega

/-- Caps made of the counts, i numbers of p having been taken. -/
structure OrdS (wr : World) (g n N : Nat) (tot p : List Int) (s : CS) : Prop where
  cap : CapsAt wr g s
  jobs : s.jobs = n
  hall : s.all = N
  most : ∀ j, j < n → s.m j = (cnt n j tot : Int)
  runs : ∀ j, j < n → s.r j = (cnt n j p : Int)
  tot_ : s.total = p.length

theorem OrdS.fr {S : Nat → Prop} {w w' : World} {g n N : Nat} {tot p : List Int} {s : CS} (h : OrdS w g n N tot p s) (hf : Fr S w w') (hS : ¬ S g) : OrdS w' g n N tot p s := ⟨h.cap.fr hf hS, h.jobs, h.hall, h.most, h.runs, h.tot_⟩

theorem OrdS.new {w : World} {g n N : Nat} {l : List Int} (h : CapsAt w g (.fresh N (cl n l))) : OrdS w g n N l [] (.fresh N (cl n l)) :=
  ⟨h, cl_len n l, rfl, fun j hj => by rw [CS.fresh_m, cl_get n l j hj], fun j _ => by rw [CS.fresh_r]; rfl, rfl⟩

/-- What one more Take of a number of the list gives. -/
theorem OrdS.take {wr : World} {g n N q : Nat} {tot p : List Int} {s : CS} (h : OrdS wr g n N tot p s) {x : Int} (hq : x % (n : Int) = q) (hqn : q < n) (hlt : cnt n q p < cnt n q tot) (hN : p.length < N) :
    s.takeE (q : Int) = 0 ∧ s.takeS (q : Int) = s.add q 1 ∧ ∀ w', CapsAt w' g (s.add q 1) → OrdS w' g n N tot (p ++ [x]) (s.add q 1) := by
  have hh : s.has (q : Int) = true := CS.has_of (by omega) (by rw [h.jobs]; omega)
  have hl : 0 < s.left q := by
    unfold CS.left; rw [h.most q hqn, h.runs q hqn, h.hall, h.tot_]; omega
  obtain ⟨_, _, _, f, _⟩ := CS.facts hh
  obtain ⟨_, f2, f3⟩ := f hl
  refine ⟨f2, f3, fun w' hc => ⟨hc, h.jobs, h.hall, h.most, fun j hj => ?_, ?_⟩⟩
  · have := h.cap.ok.jobs
    have := h.jobs
    rw [s.add_r _ _ _ h.cap.ok.lr (by omega), cnt_snoc, hq]
    by_cases e : j = q
    · subst e; simp [h.runs j hj]
    · have e' : ¬ ((q : Int) = (j : Int)) := by omega
      simp [e, e', h.runs j hj]
  · show s.total + 1 = _
    rw [h.tot_]; simp

/-- And one Give. -/
theorem OrdS.give {wr : World} {g n N q : Nat} {tot p : List Int} {s : CS} {x : Int} (h : OrdS wr g n N tot (x :: p) s) (hq : x % (n : Int) = q) (hqn : q < n) :
    s.giveE (q : Int) = 0 ∧ s.giveS (q : Int) = s.add q (-1) ∧ ∀ w', CapsAt w' g (s.add q (-1)) → OrdS w' g n N tot p (s.add q (-1)) := by
  have hh : s.has (q : Int) = true := CS.has_of (by omega) (by rw [h.jobs]; omega)
  have hr : ∀ j, cnt n j (x :: p) = cnt n j p + if (q : Int) = (j : Int) then 1 else 0 := by
    intro j
    unfold cnt
    rw [List.countP_cons, hq]
    by_cases e : (q : Int) = (j : Int) <;> simp [e]
  have h0 : s.r q ≠ 0 := by rw [h.runs q hqn, hr]; simp; omega
  refine ⟨by simp [CS.giveE, hh, h0], by simp [CS.giveS, hh, h0], fun w' hc => ⟨hc, h.jobs, h.hall, h.most, fun j hj => ?_, ?_⟩⟩
  · have := h.cap.ok.jobs
    have := h.jobs
    rw [s.add_r _ _ _ h.cap.ok.lr (by omega)]
    have hj' := h.runs j hj
    rw [hr] at hj'
    by_cases e : j = q
    · subst e; simp at hj' ⊢; omega
    · have e' : ¬ ((q : Int) = (j : Int)) := by omega
      simp [e, e'] at hj' ⊢; exact hj'
  · show s.total + -1 = _
    have := h.tot_
    simp at this
    omega
theorem reads_take {w : World} {B n m : Nat} {A : Option Addr} {xs : List Value} (h : Reads w B 1 A n xs) (hm : m ≤ n) : Reads w B 1 A m (xs.take m) := by
  refine ⟨by rw [List.length_take, h.1]; omega, fun h0 => ?_⟩
  obtain ⟨ad, e, hb, hc⟩ := h.2 (by omega)
  refine ⟨ad, e, hb, fun j u hu => hc j u ?_⟩
  rw [List.getElem?_take] at hu
  split at hu
  · exact hu
  · cases hu
theorem rev_getD (l : List Int) (k : Nat) (h : k < l.length) : l.reverse.getD k 0 = l.getD (l.length - 1 - k) 0 := by
  simp [h, show l.length - 1 - k < l.length by omega]
end Go.Proofs.Ytjgjbjigghfnbaa
