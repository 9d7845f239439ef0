/- Rows of the call's own known whole. No program stands here. -/
import Derived.Test.YtbndmelkdamgjaaMem
namespace Go.Wk
open Go.RowKit
theorem Blk.of_full {w : World} {base g n : Nat} {e : TypeId} {xs : List Value} (h : w.ownsRow base e 1 (.slice (some ⟨g, 0, none⟩) n n) n xs) : Blk w g e xs.toArray := by
  rcases h.2 with ⟨h, _⟩ | ⟨g', cap, cur, hv, _, hh, _, _, hs, ht⟩
  · cases h
  · injection hv with ha _ hc
    injection ha with ha
    injection ha with ha
    subst ha
    subst hc
    have : cur = xs.toArray := by
      rw [← ht, List.take_of_length_le (by rw [Array.length_toList, hs]; exact Nat.le_refl _)]
    unfold Blk
    rw [← this]
    exact hh
theorem Blk.own {w : World} {base g : Nat} {e : TypeId} {xs : List Value} (h : Blk w g e xs.toArray) (hb : base ≤ g) (hl : xs.length ≤ maxLen) : w.ownsRow base e 1 (.slice (some ⟨g, 0, none⟩) xs.length xs.length) xs.length xs :=
  ⟨by simp, .inr ⟨g, xs.length, xs.toArray, rfl, hb, h, Nat.le_refl _, hl, by simp, by simp⟩⟩
theorem Blk.reads {w : World} {g : Nat} {e : TypeId} {xs : List Value} (h : Blk w g e xs.toArray) {n : Nat} (hn : n ≤ xs.length) : Reads w w.heap.size 1 (some ⟨g, 0, none⟩) n (xs.take n) := by
  refine ⟨by simp; omega, fun _ => ⟨_, rfl, h.lt, fun j u hu => ?_⟩⟩
  rw [add_plain, Nat.zero_add, h.cell]
  rw [List.getElem?_take] at hu
  split at hu
  · simpa using hu
  · cases hu
/-- A cell of a block of numbers; behind a store. -/
theorem Blk.num {w : World} {g : Nat} {e : TypeId} {k : IntKind} {l : List Int} (h : Blk w g e (cells k l).toArray) {j : Nat} (hj : j < l.length) : w.cell? ⟨g, j, none⟩ = some (.int k (l.getD j 0)) := by
  rw [h.cell]; simp [cells, hj]
theorem Blk.num_set {w : World} {g : Nat} {e : TypeId} {k : IntKind} {l : List Int} (h : Blk w g e (cells k l).toArray) (j : Nat) (x : Int) : Blk (w.setCell ⟨g, j, none⟩ (.int k x)) g e (cells k (l.set j x)).toArray := by
  have := h.set_ j (.int k x)
  simpa [cells, List.map_set] using this
theorem madeCells_int (k : IntKind) (n : Nat) : (madeCells (Value.int k 0).cells (n * 1)).toList = cells k (List.replicate n 0) := by
  apply List.ext_getElem
  · simp [madeCells, cells, Value.cells]
  · intro i h1 h2
    simp [madeCells, cells, Value.cells, Nat.mod_one]
/-- The same, with the reach: what a slice takes is at most 2^47 - 4096 bytes. -/
theorem reads_of_rowS {k : IntKind} {bytes : Nat} {w : World} {a : Option Addr} {len cap : Nat} {zs : List Int} (hby : 0 < bytes)
    (h : (a = none ∧ len = 0 ∧ cap = 0 ∧ zs = []) ∨ ∃ x, a = some x ∧ len ≤ cap ∧ cap * bytes ≤ 140737488351232 ∧ zs.length = cap ∧ (∀ i, i < zs.length → w.cell? (x.add i) = some (.int k (zs.getD i 0))) ∧ ∀ n ∈ zs, (Lit.int k n).wf = true) :
    len ≤ cap ∧ cap * bytes ≤ 140737488351232 ∧ cap ≤ 140737488351232 ∧ Reads w w.heap.size 1 a len ((zs.take len).map (Value.int k)) ∧ ∀ x ∈ zs.take len, (Lit.int k x).wf = true := by
  have key : cap * bytes ≤ 140737488351232 ∧ cap ≤ 140737488351232 := by
    rcases h with ⟨_, _, rfl, _⟩ | ⟨_, _, _, hm, _⟩
    · simp
    · exact ⟨hm, Nat.le_trans (Nat.le_mul_of_pos_right cap hby) hm⟩
  have := reads_of_row (k := k) (w := w) (a := a) (len := len) (cap := cap) (zs := zs) (by
    rcases h with h | ⟨x, h1, h2, h3, h4, h5, h6⟩
    · exact .inl h
    · exact .inr ⟨x, h1, h2, by unfold maxLen; omega, h4, h5, h6⟩)
  exact ⟨this.1, key.1, key.2, this.2.2⟩
theorem fr_setCells {S : Nat → Prop} {w : World} {g : Nat} (hS : S g) : ∀ (vs : List Value) (o : Nat) {w' : World}, Fr S w w' → Fr S w (w'.setCells g o vs)
  | [], _, _, h => h
  | v :: vs, o, _, h => fr_setCells hS vs (o + 1) (h.setCell (.inr hS) v)
theorem own_nil (w : World) (base size : Nat) (e : TypeId) : w.ownsRow base e size (.slice none 0 0) 0 [] := ⟨by simp, .inl ⟨rfl, rfl⟩⟩
end Go.Wk
