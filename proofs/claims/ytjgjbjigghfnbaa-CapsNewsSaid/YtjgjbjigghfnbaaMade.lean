/- What made leaves, in one structure; a row of the call's own known whole. -/
import Derived.Test.YtjgjbjigghfnbaaCopy
namespace Go.Wk
open Go.RowKit
theorem Blk.of_full {w : World} {base g n : Nat} {e : TypeId} {xs : List Value} (h : w.ownsRow base e 1 (.slice (some ⟨g, 0, none⟩) n n) n xs) : Blk w g e xs.toArray := by
  rcases h.2 with ⟨h, _⟩ | ⟨g', cap, cur, hv, _, hh, _, _, hs, ht⟩
  · cases h
  · injection hv with ha _ hc
    injection ha with ha
    injection ha with ha
    subst ha
    subst hc
    have : cur = xs.toArray := by
      rw [← ht, List.take_of_length_le (by rw [Array.length_toList, hs]; exact Nat.le_refl _)]
    unfold Blk
    rw [← this]
    exact hh
theorem Blk.own {w : World} {base g : Nat} {e : TypeId} {xs : List Value} (h : Blk w g e xs.toArray) (hb : base ≤ g) (hl : xs.length ≤ maxLen) : w.ownsRow base e 1 (.slice (some ⟨g, 0, none⟩) xs.length xs.length) xs.length xs :=
  ⟨by simp, .inr ⟨g, xs.length, xs.toArray, rfl, hb, h, Nat.le_refl _, hl, by simp, by simp⟩⟩
theorem Blk.reads {w : World} {g : Nat} {e : TypeId} {xs : List Value} (h : Blk w g e xs.toArray) {n : Nat} (hn : n ≤ xs.length) : Reads w w.heap.size 1 (some ⟨g, 0, none⟩) n (xs.take n) := by
  refine ⟨by simp; omega, fun _ => ⟨_, rfl, h.lt, fun j u hu => ?_⟩⟩
  rw [add_plain, Nat.zero_add, h.cell]
  rw [List.getElem?_take] at hu
  split at hu
  · simpa using hu
  · cases hu
/-- A cell of a block of numbers; behind a store. -/
theorem Blk.num {w : World} {g : Nat} {e : TypeId} {k : IntKind} {l : List Int} (h : Blk w g e (cells k l).toArray) {j : Nat} (hj : j < l.length) : w.cell? ⟨g, j, none⟩ = some (.int k (l.getD j 0)) := by
  rw [h.cell]; simp [cells, hj]
theorem Blk.num_set {w : World} {g : Nat} {e : TypeId} {k : IntKind} {l : List Int} (h : Blk w g e (cells k l).toArray) (j : Nat) (x : Int) : Blk (w.setCell ⟨g, j, none⟩ (.int k x)) g e (cells k (l.set j x)).toArray := by
  have := h.set_ j (.int k x)
  simpa [cells, List.map_set] using this
theorem madeCells_int (k : IntKind) (n : Nat) : (madeCells (Value.int k 0).cells (n * 1)).toList = cells k (List.replicate n 0) := by
  apply List.ext_getElem
  · simp [madeCells, cells, Value.cells]
  · intro i h1 h2
    simp [madeCells, cells, Value.cells, Nat.mod_one]
end Go.Wk
namespace Go.Proofs.Ytjgjbjigghfnbaa
open Go.RowKit Go.Wk

/-- What made leaves: caps at g in state s, made of the numbers xs; the slice (A, m, c) holds xs. -/
structure Made (w w1 : World) (all : Int) (xs : List Int) (g m c : Nat) (A : Option Addr) (s : CS) : Prop where
  hg : w.heap.size ≤ g
  cap : CapsAt w1 g s
  own : w1.ownsRow w.heap.size 3 1 (.slice A m c) m (cells .i64 xs)
  len : xs.length = m
  m64 : m ≤ 64
  mc : m ≤ c
  cmax : c ≤ 9223372036854775807
  nums : ∀ x ∈ xs, 0 ≤ x ∧ x ≤ 255
  jobs : s.jobs = m
  hall : s.all = all
  most : ∀ j, s.m j = xs.getD j 0
  runs : ∀ j, s.r j = 0
  tot : s.total = 0
  runs64 : s.runs = List.replicate 64 0
  apart : ∀ b, (Value.slice A m c).ownBlock = some b → b ≠ g
  fr : Fr No w w1

theorem made_k (all : Int) (A : Option Addr) (n c : Nat) (es : List Int) (w : World) (h : Reads w w.heap.size 1 A n (es.map (Value.int .u8))) (hn : n ≤ c) (hc : c ≤ 9223372036854775807)
    (ha : 0 ≤ all ∧ all ≤ 255) (he : ∀ x ∈ es, 0 ≤ x ∧ x ≤ 255) :
    Calls Try.prog 10 #[.int .u8 all, .slice A n c] w fun e w1 => ∃ g A' m c' s, e = .returned (.tuple #[.pointer (some ⟨g, 0, none⟩), .slice A' m c']) ∧ Made w w1 all (es.take 64) g m c' A' s := by
  refine (made_any all A n c es w h hn hc ha he).mono ?_
  rintro e w1 ⟨g, v, rfl, hg, hcap, hown, hF⟩
  obtain ⟨A', c', rfl, hnc, hcm, hrd⟩ := Reads.of_cells hown (Nat.le_refl _)
  refine ⟨g, A', _, c', _, rfl, hg, hcap, hown, rfl, by rw [List.length_take]; omega, hnc, by simpa [maxLen] using hcm, fun x hx => he x (List.mem_of_mem_take hx), rfl, rfl, CS.fresh_m _ _, CS.fresh_r _ _, rfl, rfl, own_blk_ne hown hcap.blk (by decide), hF⟩

/-- A number of the slice that made handed back, in a later world. -/
theorem Made.cell {w w1 w2 : World} {all : Int} {xs : List Int} {g m c : Nat} {A : Option Addr} {s : CS} (h : Made w w1 all xs g m c A s) (hf : Fr (· = g) w1 w2) {j : Nat} (hj : j < m) :
    ∃ b off, A = some ⟨b, off, none⟩ ∧ w2.cell? ⟨b, off + j, none⟩ = some (.int .i64 (xs.getD j 0)) := by
  have ho := own_fr h.own hf (fun b hb e => h.apart b hb e)
  obtain ⟨b, off, hA, _, hc⟩ := (show Reads _ _ 1 A m (xs.map (Value.int .i64)) from Reads.of_own ho).int_at hj
  exact ⟨b, off, hA, hc⟩
end Go.Proofs.Ytjgjbjigghfnbaa
namespace Go.Wk
open Go.RowKit
/-- The same, with the reach: what a slice takes is at most 2^47 - 4096 bytes. -/
theorem reads_of_rowS {k : IntKind} {bytes : Nat} {w : World} {a : Option Addr} {len cap : Nat} {zs : List Int} (hby : 0 < bytes)
    (h : (a = none ∧ len = 0 ∧ cap = 0 ∧ zs = []) ∨ ∃ x, a = some x ∧ len ≤ cap ∧ cap * bytes ≤ 140737488351232 ∧ zs.length = cap ∧ (∀ i, i < zs.length → w.cell? (x.add i) = some (.int k (zs.getD i 0))) ∧ ∀ n ∈ zs, (Lit.int k n).wf = true) :
    len ≤ cap ∧ cap * bytes ≤ 140737488351232 ∧ cap ≤ 140737488351232 ∧ Reads w w.heap.size 1 a len ((zs.take len).map (Value.int k)) ∧ ∀ x ∈ zs.take len, (Lit.int k x).wf = true := by
  have key : cap * bytes ≤ 140737488351232 ∧ cap ≤ 140737488351232 := by
    rcases h with ⟨_, _, rfl, _⟩ | ⟨_, _, _, hm, _⟩
    · simp
    · exact ⟨hm, Nat.le_trans (Nat.le_mul_of_pos_right cap hby) hm⟩
  have := reads_of_row (k := k) (w := w) (a := a) (len := len) (cap := cap) (zs := zs) (by
    rcases h with h | ⟨x, h1, h2, h3, h4, h5, h6⟩
    · exact .inl h
    · exact .inr ⟨x, h1, h2, by unfold maxLen; omega, h4, h5, h6⟩)
  exact ⟨this.1, key.1, key.2, this.2.2⟩
end Go.Wk
