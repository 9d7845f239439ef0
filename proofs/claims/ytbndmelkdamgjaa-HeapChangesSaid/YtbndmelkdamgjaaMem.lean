/- More words for memory: lists of integers as cells; one element appended to a row of the call's own. No program stands here. -/
import Derived.Test.YtbndmelkdamgjaaLib
namespace Go.Wk
open Go.RowKit

/-- Numbers as cells (a definition, so that the walk leaves it alone). -/
def cells (k : IntKind) (l : List Int) : List Value := l.map (Value.int k)
theorem cells_nil (k : IntKind) : cells k [] = [] := rfl
theorem cells_snoc (k : IntKind) (l : List Int) (x : Int) : cells k (l ++ [x]) = cells k l ++ [.int k x] := by simp [cells]
theorem cells_length (k : IntKind) (l : List Int) : (cells k l).length = l.length := by simp [cells]
theorem take_snoc (l : List Int) (k : Nat) (h : k < l.length) : l.take (k + 1) = l.take k ++ [l.getD k 0] := by
  rw [List.take_succ_eq_append_getElem h]; simp [h]
theorem cells_take_succ (kd : IntKind) (l : List Int) (k : Nat) (h : k < l.length) : cells kd (l.take (k + 1)) = cells kd (l.take k) ++ [.int kd (l.getD k 0)] := by
  rw [take_snoc l k h, cells_snoc]

/-- append(out, x): out the call's own; x has just been laid in a block of its own. -/
theorem wpList_push {P : Program} {wr : World} {ops : Array Oper} {rest : List Oper} {o : Oper} {a : Act} {Q : Exit → Act → World → Prop} (hgd : o.guard = none) (s x : Operand) (t : TypeId)
    (ho : o.op = .call { callee := .builtin .append, args := #[s, x], argTypes := #[t, t] })
    (base : Nat) (e : TypeId) (i : TypeInfo) (z : Value) (bytes : Nat) (ht : P.underlying t = some (.slice e)) (hi : P.info? e = some i) (hz : i.zero = some z)
    (hsize : i.size = 1) (hby : i.bytes = bytes) (hzs : z.cells.size = 1) (hbytes : bytes ≤ 64)
    (u : Value) (et : TypeId) (hu : u.oneCell' = true) (v : Value) (n : Nat) (xs : List Value) (hs : a.eval s = v) (hx : a.eval x = .slice (some ⟨wr.heap.size, 0, none⟩) 1 1)
    (hown : wr.ownsRow base e 1 v n xs) (hn : n ≤ 1000000000000) (hbase : base ≤ wr.heap.size)
    (h : ∀ v' w', w'.ownsRow base e 1 v' (n + 1) (xs ++ [u]) → Fr (fun g => base ≤ g) wr w' → v' ≠ .slice none 0 0 → wpList P ops Q rest (a.put o.dst v') w') : wpList P ops Q (o :: rest) a (wr.alloc (.cells #[u] et)) := by
  refine wpList_append_own _ hgd s x t ho base e i z 1 bytes ht hi hz hsize hby hzs (by omega) v n xs hs (hown.alloc _) ⟨wr.heap.size, 0, none⟩ 1 1 [u] hx rfl ?_ ?_ ?_ ?_ ?_ ?_
  · intro j u' hu'
    match j, hu' with
    | 0, hu' =>
      simp at hu'
      subst hu'
      rw [add_plain]
      exact World.cell?_alloc_new _ _ _ _
  · intro u' hu'
    simp at hu'
    subst hu'
    exact hu
  · unfold maxLen; omega
  · have : (n + 1) * bytes ≤ (n + 1) * 64 := Nat.mul_le_mul_left _ hbytes
    omega
  · simp; omega
  · intro v' w' hown' hg hne
    refine h v' w' hown' ?_ (by simpa using hne)
    refine ((Fr.refl (fun g => base ≤ g) wr).alloc _).trans (Fr.of_grown (S := fun g => base ≤ g) hg (fun k hk => (hown.lt k hk).1)) (fun _ _ x => x)

theorem Reads.of_cells {w : World} {base B n : Nat} {v : Value} {e : TypeId} {xs : List Value} (h : w.ownsRow base e 1 v n xs) (hB : w.heap.size ≤ B) : ∃ A c, v = .slice A n c ∧ n ≤ c ∧ c ≤ maxLen ∧ Reads w B 1 A n xs := by
  rcases h.2 with ⟨rfl, rfl⟩ | ⟨g, cap, cur, rfl, _, hh, hnc, hcm, _⟩
  · exact ⟨none, 0, rfl, Nat.le_refl _, Nat.zero_le _, by simpa using h.1, fun hn => absurd hn (by omega)⟩
  · exact ⟨_, cap, rfl, hnc, hcm, (Reads.of_own h).more hB⟩

theorem own_fr {S : Nat → Prop} {w w' : World} {base n : Nat} {v : Value} {e : TypeId} {size : Nat} {xs : List Value} (h : w.ownsRow base e size v n xs) (hf : Fr S w w') (hS : ∀ b, v.ownBlock = some b → ¬ S b) : w'.ownsRow base e size v n xs := by
  refine ⟨h.1, ?_⟩
  rcases h.2 with h2 | ⟨g, cap, cur, rfl, hb, hh, r⟩
  · exact .inl h2
  · exact .inr ⟨g, cap, cur, rfl, hb, (hf.block g (Array.getElem?_eq_some_iff.1 hh).1 (hS g rfl)).trans hh, r⟩
end Go.Wk
namespace Go.Wk
open Go.RowKit
/-- A slice of integers that came in, as a shell of a law's proof hands it to the walk. -/
theorem reads_of_row {k : IntKind} {w : World} {a : Option Addr} {len cap : Nat} {zs : List Int}
    (h : (a = none ∧ len = 0 ∧ cap = 0 ∧ zs = []) ∨ ∃ x, a = some x ∧ len ≤ cap ∧ cap ≤ maxLen ∧ zs.length = cap ∧ (∀ i, i < zs.length → w.cell? (x.add i) = some (.int k (zs.getD i 0))) ∧ ∀ n ∈ zs, (Lit.int k n).wf = true) :
    len ≤ cap ∧ cap ≤ maxLen ∧ Reads w w.heap.size 1 a len ((zs.take len).map (Value.int k)) ∧ ∀ x ∈ zs.take len, (Lit.int k x).wf = true := by
  rcases h with ⟨rfl, rfl, rfl, rfl⟩ | ⟨x, rfl, hl, hm, hz, hcell, hwz⟩
  · exact ⟨Nat.le_refl _, Nat.zero_le _, Reads.none_, fun x hx => by simp at hx⟩
  · refine ⟨hl, hm, ⟨by simp; omega, fun hn => ⟨x, rfl, ?_, fun j u hu => ?_⟩⟩, fun y hy => hwz y (List.mem_of_mem_take hy)⟩
    · have := World.block_lt_of_cell? w _ (hcell 0 (by omega))
      rwa [block_of_add] at this
    · rw [List.getElem?_map] at hu
      have hj : j < (zs.take len).length := by
        rcases Nat.lt_or_ge j (zs.take len).length with h | h
        · exact h
        · rw [List.getElem?_eq_none h] at hu; simp at hu
      have hj' : j < zs.length := by rw [List.length_take] at hj; omega
      rw [List.getElem?_eq_getElem hj] at hu
      rw [hcell j hj', ← hu]
      simp [hj']
theorem own_blk_ne {w : World} {g : Nat} {t : TypeId} {cs : Array Value} {base : Nat} {e : TypeId} {size n : Nat} {v : Value} {xs : List Value} (h : w.ownsRow base e size v n xs) (hg : Blk w g t cs) (hne : e ≠ t) : ∀ b, v.ownBlock = some b → b ≠ g := by
  rcases h.2 with ⟨rfl, _⟩ | ⟨g', cap, cur, rfl, _, hh, _⟩
  · intro b hb; simp [Value.ownBlock] at hb
  · intro b he e'
    have : g' = b := by simpa [Value.ownBlock] using he
    subst this
    subst e'
    exact Blk.ne_ (t := e) hh hg hne rfl
end Go.Wk
