/- The walk of RunsRoom. -/
import Derived.Test.YtopcjakgfaobcaaK
namespace Go.Proofs.Ytopcjakgfaobcaa
open Go.RowKit Go.Wk

theorem has_any (s : TS) (r : Int) : s.has r = s.live.any (fun x => x.id == r) := by
  unfold TS.has TS.pos
  rw [List.findIdx?_isSome]

/-- A table with k runs of n, which have the numbers 1 to k. -/
structure RoomI (w0 w : World) (b : Nat) (n k : Nat) (s : TS) (D : Nat → Prop) : Prop where
  tab : TabAt w b D s
  base : ∀ j, D j → w0.heap.size ≤ j
  fr : Fr No w0 w
  size : s.size = n
  len : s.live.length = k
  last : s.last = k
  ids : ∀ r : Int, 1 ≤ r → r ≤ k → s.has r = true

theorem okT55 : okT 5 5 = true := by decide
theorem okA1 (j : Int) (h : 0 ≤ j) : okA j 1 = true := by simp [okA, h]
theorem room_val (s : TS) (n k : Nat) (h1 : s.size = n) (h2 : s.live.length = k) : s.room = decide (k < n) := by
  unfold TS.room; rw [h1, h2]; simp

theorem RoomI.step {w0 w w' : World} {b n k : Nat} {s : TS} {D D' : Nat → Prop} (h : RoomI w0 w b n k s D) (j : Int) (hj : 0 ≤ j) (hk : k < n) (hc : TabAt w' b D' (s.startS j 5 1 5)) (hf : Fr D w w') (hd : ∀ q, D' q → D q ∨ w.heap.size ≤ q) :
    RoomI w0 w' b n (k + 1) (s.startS j 5 1 5) D' := by
  have e : s.startS j 5 1 5 = s.push j 5 1 5 := by
    unfold TS.startS TS.starts
    rw [okA1 j hj, okT55, room_val s n k h.size h.len, decide_eq_true hk]; rfl
  refine ⟨hc, fun q hq => (hd q hq).elim (h.base q) (fun h' => Nat.le_trans h.fr.size h'), fr_dom h.fr hf h.base, ?_, ?_, ?_, fun r h1 h2 => ?_⟩
  · rw [e]; exact h.size
  · rw [e]; simp [TS.push, h.len]
  · rw [e]; show s.last + 1 = _; rw [h.last]; simp
  · rw [e, has_any]
    show (s.live ++ [_]).any _ = true
    rw [List.any_append]
    rcases Int.lt_or_le r ((k : Int) + 1) with hr | hr
    · rw [← has_any, h.ids r h1 (by omega), Bool.true_or]
    · have : r = s.last + 1 := by rw [h.last]; simp at h2; omega
      simp [this]

theorem RoomI.vals {w0 w : World} {b n k : Nat} {s : TS} {D : Nat → Prop} (h : RoomI w0 w b n k s D) (j : Int) (hj : 0 ≤ j) : s.startV j 5 1 5 = (if k < n then (k : Int) + 1 else 0) ∧ s.startE j 5 1 5 = (if k < n then 0 else 4) := by
  unfold TS.startV TS.startE TS.starts
  rw [okA1 j hj, okT55, room_val s n k h.size h.len, h.last]
  by_cases hk : k < n <;> simp [hk]
theorem RoomI.full {w0 w : World} {b n k : Nat} {s : TS} {D : Nat → Prop} (h : RoomI w0 w b n k s D) (j : Int) (hj : 0 ≤ j) (hk : ¬ k < n) : s.startS j 5 1 5 = s := by
  unfold TS.startS TS.starts
  rw [okA1 j hj, okT55, room_val s n k h.size h.len, decide_eq_false hk]; rfl

/-- A table with k runs of n, whose last number is l. -/
structure RoomJ (w0 w : World) (b : Nat) (n k : Nat) (l : Int) (s : TS) (D : Nat → Prop) : Prop where
  tab : TabAt w b D s
  base : ∀ j, D j → w0.heap.size ≤ j
  fr : Fr No w0 w
  size : s.size = n
  len : s.live.length = k
  last : s.last = l
theorem RoomJ.step {w0 w w' : World} {b n k : Nat} {l : Int} {s : TS} {D D' : Nat → Prop} (h : RoomJ w0 w b n k l s D) (j : Int) (hj : 0 ≤ j) (hk : k < n) (hc : TabAt w' b D' (s.startS j 5 1 5)) (hf : Fr D w w') (hd : ∀ q, D' q → D q ∨ w.heap.size ≤ q) :
    RoomJ w0 w' b n (k + 1) (l + 1) (s.startS j 5 1 5) D' := by
  have e : s.startS j 5 1 5 = s.push j 5 1 5 := by
    unfold TS.startS TS.starts
    rw [okA1 j hj, okT55, room_val s n k h.size h.len, decide_eq_true hk]; rfl
  refine ⟨hc, fun q hq => (hd q hq).elim (h.base q) (fun h' => Nat.le_trans h.fr.size h'), fr_dom h.fr hf h.base, ?_, ?_, ?_⟩
  · rw [e]; exact h.size
  · rw [e]; simp [TS.push, h.len]
  · rw [e]; show s.last + 1 = _; rw [h.last]
theorem RoomJ.refused {w0 w w' : World} {b n k : Nat} {l : Int} {s : TS} {D D' : Nat → Prop} (h : RoomJ w0 w b n k l s D) (j : Int) (hj : 0 ≤ j) (hk : ¬ k < n) (hc : TabAt w' b D' (s.startS j 5 1 5)) (hf : Fr D w w') (hd : ∀ q, D' q → D q ∨ w.heap.size ≤ q) :
    RoomJ w0 w' b n k l s D' := by
  have e : s.startS j 5 1 5 = s := by
    unfold TS.startS TS.starts
    rw [okA1 j hj, okT55, room_val s n k h.size h.len, decide_eq_false hk]; rfl
  rw [e] at hc
  exact ⟨hc, fun q hq => (hd q hq).elim (h.base q) (fun h' => Nat.le_trans h.fr.size h'), fr_dom h.fr hf h.base, h.size, h.len, h.last⟩
theorem RoomJ.vals {w0 w : World} {b n k : Nat} {l : Int} {s : TS} {D : Nat → Prop} (h : RoomJ w0 w b n k l s D) (j : Int) (hj : 0 ≤ j) : s.startV j 5 1 5 = (if k < n then l + 1 else 0) ∧ s.startE j 5 1 5 = (if k < n then 0 else 4) := by
  unfold TS.startV TS.startE TS.starts
  rw [okA1 j hj, okT55, room_val s n k h.size h.len, h.last]
  by_cases hk : k < n <;> simp [hk]
theorem RoomJ.fin {w0 w w' : World} {b n k : Nat} {l r : Int} {s : TS} {D : Nat → Prop} (h : RoomJ w0 w b n k l s D) (hr : s.has r = true) (hc : TabAt w' b D (s.finS r)) (hf : Fr D w w') : RoomJ w0 w' b n (k - 1) l (s.finS r) D := by
  unfold TS.has at hr
  obtain ⟨q, hq⟩ := Option.isSome_iff_exists.1 hr
  have e : s.finS r = s.del q := by unfold TS.finS; rw [hq]
  have hql : q < s.live.length := by
    unfold TS.pos at hq
    exact (List.findIdx?_eq_some_iff_getElem.1 hq).1
  refine ⟨hc, h.base, fr_dom h.fr hf h.base, by rw [e]; exact h.size, ?_, by rw [e]; exact h.last⟩
  rw [e]
  show (s.live.eraseIdx q).length = _
  rw [List.length_eraseIdx_of_lt hql, h.len]
theorem RoomJ.keep {w0 w w' : World} {b n k : Nat} {l : Int} {s : TS} {D : Nat → Prop} (h : RoomJ w0 w b n k l s D) (hf : Fr No w w') : RoomJ w0 w' b n k l s D :=
  ⟨h.tab.fr0 hf, h.base, h.fr.then0 hf, h.size, h.len, h.last⟩
end Go.Proofs.Ytopcjakgfaobcaa
