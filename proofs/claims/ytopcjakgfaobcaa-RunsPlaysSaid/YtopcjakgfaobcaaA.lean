/- The contracts of package runs: a block that reads as a table. -/
import Derived.Test.YtopcjakgfaobcaaRow
import Derived.Test.YtopcjakgfaobcaaChecked
namespace Go.Proofs.Ytopcjakgfaobcaa
open Go.RowKit Go.Wk

/-- A run. -/
structure RV where
  id : Int
  job : Int
  due : Int
  att : Int
  start : Int
def RV.cells (x : RV) : List Value := [.int .i64 x.id, .int .i64 x.job, .int .i64 x.due, .int .i64 x.att, .int .i64 x.start]
def rcells (l : List RV) : List Value := l.flatMap RV.cells
def RV.zero : RV := ⟨0, 0, 0, 0, 0⟩
instance : Inhabited RV := ⟨RV.zero⟩

theorem rcells_len (l : List RV) : (rcells l).length = l.length * 5 := by
  induction l with
  | nil => rfl
  | cons a l ih => simp only [rcells, List.flatMap_cons, List.length_append, List.length_cons] at ih ⊢; rw [ih]; simp [RV.cells]; omega
theorem rcells_app (l m : List RV) : rcells (l ++ m) = rcells l ++ rcells m := by simp [rcells]
theorem rcells_one (l : List RV) : ∀ u ∈ rcells l, u.oneCell' = true := by
  intro u hu
  simp only [rcells, List.mem_flatMap] at hu
  obtain ⟨x, _, hx⟩ := hu
  simp only [RV.cells, List.mem_cons, List.not_mem_nil, or_false] at hx
  rcases hx with rfl | rfl | rfl | rfl | rfl <;> rfl
theorem rcells_get (l : List RV) : ∀ (i j : Nat), i < l.length → j < 5 → (rcells l)[i * 5 + j]? = (l.getD i RV.zero).cells[j]? := by
  induction l with
  | nil => intro i j hi; simp at hi
  | cons a l ih =>
    intro i j hi hj
    have ha : a.cells.length = 5 := rfl
    cases i with
    | zero =>
      simp only [rcells, List.flatMap_cons, List.getD_cons_zero, Nat.zero_mul, Nat.zero_add]
      rw [List.getElem?_append_left (by omega)]
    | succ i =>
      simp only [rcells, List.flatMap_cons, List.getD_cons_succ]
      rw [List.getElem?_append_right (by omega), ha, ← ih i j (by simpa using hi) hj]
      congr 1
      omega

/-- What a table holds. -/
structure TS where
  size : Int
  live : List RV
  last : Int

structure TS.ok (s : TS) : Prop where
  s0 : 0 ≤ s.size
  s1 : s.size ≤ 1000
  len : (s.live.length : Int) ≤ s.size
  inc : s.live.Pairwise (fun x y => x.id < y.id)
  ids : ∀ x ∈ s.live, 1 ≤ x.id ∧ x.id ≤ s.last
  times : ∀ x ∈ s.live, 0 ≤ x.start ∧ x.start ≤ 253402300799
  l0 : 0 ≤ s.last
  l1 : s.last ≤ 1000000

/-- The block b is a table in state s; its slice is v. -/
structure TabV (w : World) (b : Nat) (v : Value) (s : TS) : Prop where
  blk : Blk w b 61 #[.int .i64 s.size, v, .int .i64 s.last, .bool true]
  own : w.ownsRow 0 31 5 v s.live.length (rcells s.live)
  ok : s.ok

/-- The blocks that are the table's own. -/
def dom (b : Nat) (v : Value) : Nat → Prop := fun k => k = b ∨ v.ownBlock = some k

def TabAt (w : World) (b : Nat) (D : Nat → Prop) (s : TS) : Prop := ∃ v, TabV w b v s ∧ D = dom b v

theorem TabV.fr {S : Nat → Prop} {w w' : World} {b : Nat} {v : Value} {s : TS} (h : TabV w b v s) (hf : Fr S w w') (hS : ∀ k, dom b v k → ¬ S k) : TabV w' b v s :=
  ⟨h.blk.fr hf (hS b (.inl rfl)), own_fr h.own hf (fun k hk => hS k (.inr hk)), h.ok⟩
theorem TabAt.fr {S : Nat → Prop} {w w' : World} {b : Nat} {D : Nat → Prop} {s : TS} (h : TabAt w b D s) (hf : Fr S w w') (hS : ∀ k, D k → ¬ S k) : TabAt w' b D s := by
  obtain ⟨v, h, rfl⟩ := h
  exact ⟨v, h.fr hf hS, rfl⟩
theorem TabAt.fr0 {w w' : World} {b : Nat} {D : Nat → Prop} {s : TS} (h : TabAt w b D s) (hf : Fr No w w') : TabAt w' b D s := h.fr hf (fun _ _ x => x)
theorem TabAt.ok {w : World} {b : Nat} {D : Nat → Prop} {s : TS} (h : TabAt w b D s) : s.ok := by obtain ⟨v, h, _⟩ := h; exact h.ok
theorem TabV.lt {w : World} {b : Nat} {v : Value} {s : TS} (h : TabV w b v s) {k : Nat} (hk : dom b v k) : k < w.heap.size := by
  rcases hk with rfl | hk
  · exact h.blk.lt
  · exact (h.own.lt k hk).2
theorem TabAt.lt {w : World} {b : Nat} {D : Nat → Prop} {s : TS} (h : TabAt w b D s) {k : Nat} (hk : D k) : k < w.heap.size := by
  obtain ⟨v, h, rfl⟩ := h
  exact h.lt hk
theorem TabAt.self {w : World} {b : Nat} {D : Nat → Prop} {s : TS} (h : TabAt w b D s) : D b := by obtain ⟨v, _, rfl⟩ := h; exact .inl rfl

/-- The slice written out. -/
theorem TabV.form {w : World} {b : Nat} {v : Value} {s : TS} (h : TabV w b v s) : ∃ A c, v = .slice A s.live.length c ∧ s.live.length ≤ c ∧ c ≤ maxLen ∧ Reads w w.heap.size 5 A s.live.length (rcells s.live) := by
  rcases h.own.2 with ⟨h1, h0⟩ | ⟨g, cap, cur, h1, _, hh, hnc, hcm, _⟩
  · refine ⟨none, 0, by rw [h1, h0], by omega, Nat.zero_le _, ⟨by simp [rcells_len], fun hn => by omega⟩⟩
  · exact ⟨_, cap, h1, hnc, hcm, by have := h.own; rw [h1] at this; exact Reads.of_own this⟩

/-- A run of the table, in memory. -/
theorem TabV.at_ {w : World} {b : Nat} {v : Value} {s : TS} (h : TabV w b v s) {i : Nat} (hi : i < s.live.length) : ∃ g c, v = .slice (some ⟨g, 0, none⟩) s.live.length c ∧ g < w.heap.size ∧
    ∀ j u, (s.live.getD i RV.zero).cells[j]? = some u → w.cell? ⟨g, i * 5 + j, none⟩ = some u := by
  rcases h.own.2 with ⟨h1, h0⟩ | ⟨g, cap, cur, h1, _, hh, hnc, hcm, hsz, ht⟩
  · omega
  · refine ⟨g, cap, h1, (Array.getElem?_eq_some_iff.1 hh).1, fun j u hu => ?_⟩
    have hj : j < 5 := by
      have := (List.getElem?_eq_some_iff.1 hu).1
      simpa [RV.cells] using this
    have hb : Blk w g 31 cur := hh
    rw [hb.cell, ← hu, ← rcells_get s.live i j hi hj, ← ht, List.getElem?_take, if_pos (by omega)]
    simp

theorem new_bad (n : Int) (w : World) (h : n < 0 ∨ 1000 < n) : Calls Try.prog 11 #[.int .i64 n] w fun e w' => e = .returned (.tuple #[.pointer none, .int .i64 2]) ∧ w = w' := by
  rcases h with h | h
  · go_enter Try.func11, Try.ntmps11
    go_wp2
    go_ret2
    exact ⟨rfl, rfl⟩
  · have h0 : ¬ n < 0 := by omega
    go_enter Try.func11, Try.ntmps11
    go_wp2
    go_ret2
    exact ⟨rfl, rfl⟩
def TS.new (n : Int) : TS := ⟨n, [], 0⟩
theorem new_good (n : Int) (w : World) (h0 : ¬ n < 0) (h1 : ¬ 1000 < n) : Calls Try.prog 11 #[.int .i64 n] w fun e w' => e = .returned (.tuple #[.pointer (some ⟨w.heap.size, 0, none⟩), .int .i64 0]) ∧ TabAt w' w.heap.size (· = w.heap.size) (.new n) ∧ Fr No w w' := by
  go_enter Try.func11, Try.ntmps11
  go_wp2
  go_ret2
  refine ⟨rfl, ⟨.slice none 0 0, ⟨Blk.new _ _ _, own_nil _ _ _ _, ⟨by show 0 ≤ n; omega, by show n ≤ 1000; omega, by show ((0 : Nat) : Int) ≤ n; omega, List.Pairwise.nil, fun x hx => by simp [TS.new] at hx, fun x hx => by simp [TS.new] at hx, Int.le_refl _, by show (0 : Int) ≤ 1000000; omega⟩⟩, ?_⟩, (Fr.refl _ _).alloc _⟩
  funext k
  simp [dom, Value.ownBlock]

theorem valid_any (b : Nat) (D : Nat → Prop) (s : TS) (w : World) (h : TabAt w b D s) : Calls Try.prog 35 #[.pointer (some ⟨b, 0, none⟩)] w fun e w' => e = .returned (.bool true) ∧ w = w' := by
  obtain ⟨v, h, _⟩ := h
  have c3 := h.blk.cell 3
  simp at c3
  clear h
  go_enter Try.func35, Try.ntmps35
  go_wp2
  go_ret
  exact ⟨rfl, rfl⟩
theorem len_any (b : Nat) (D : Nat → Prop) (s : TS) (w : World) (h : TabAt w b D s) : Calls Try.prog 14 #[.pointer (some ⟨b, 0, none⟩)] w fun e w' => e = .returned (.int .i64 s.live.length) ∧ w = w' := by
  have HV := Lib.hid (valid_any b D s w h)
  obtain ⟨v, h, _⟩ := h
  obtain ⟨A, c, rfl, _⟩ := h.form
  have c1 := h.blk.cell 1
  simp at c1
  clear h
  generalize s.live.length = n at *
  go_enter Try.func14, Try.ntmps14
  go_wp2_with (go_at_call 35; refine HV.out.mono ?_; rintro e w1 ⟨rfl, rfl⟩)
  go_ret
  exact ⟨rfl, rfl⟩
theorem last_any (b : Nat) (D : Nat → Prop) (s : TS) (w : World) (h : TabAt w b D s) : Calls Try.prog 21 #[.pointer (some ⟨b, 0, none⟩)] w fun e w' => e = .returned (.int .i64 s.last) ∧ w = w' := by
  have HV := Lib.hid (valid_any b D s w h)
  obtain ⟨v, h, _⟩ := h
  have c1 := h.blk.cell 2
  simp at c1
  clear h
  generalize s.last = n at *
  go_enter Try.func21, Try.ntmps21
  go_wp2_with (go_at_call 35; refine HV.out.mono ?_; rintro e w1 ⟨rfl, rfl⟩)
  go_ret
  exact ⟨rfl, rfl⟩

theorem cmp_any (x y : Int) (w : World) : Calls Try.prog 45 #[.int .i64 x, .int .i64 y] w fun e w' => e = .returned (.int .i64 (if x < y then -1 else if y < x then 1 else 0)) ∧ w = w' := by
  rcases (show x < y ∨ (¬ x < y ∧ y < x) ∨ (¬ x < y ∧ ¬ y < x) by omega) with h | ⟨h, h2⟩ | ⟨h, h2⟩
  all_goals
    simp only [h, if_true, if_false]
    try simp only [h2, if_true, if_false]
    go_enter Try.func45, Try.ntmps45
    go_wp2
    go_ret
    exact ⟨rfl, rfl⟩
end Go.Proofs.Ytopcjakgfaobcaa
