/- A block that reads as a heap with its entries in order. No program stands here. -/
import Derived.Test.YtbndmelkdamgjaaM
namespace Go.Proofs.Ytbndmelkdamgjaa
open Go.RowKit Go.Wk
theorem any_ids {V : Type} (x : Int) (s : List (En V)) : s.any (fun e => e.id == x) = decide (x ∈ ids s) := by
  rw [Bool.eq_iff_iff]
  simp only [List.any_eq_true, decide_eq_true_eq, ids, List.mem_map, beq_iff_eq]
section
variable {V : Type} [Inhabited V]
/-- The heap in block b, whose array is l, holds the entries s, in order. -/
structure HIn (hT eT : TypeId) (C : Cod V) (fn : Value) (bf : V → V → Bool) (w : World) (b bm : Nat) (v : Value) (l s : List (En V)) (g : Int) : Prop where
  at_ : AV hT eT C fn w b bm v l g
  hp : HP bf l
  so : Sorted bf s
  me : ∀ e, e ∈ s ↔ e ∈ l
  ln : s.length = l.length
/-- The same, of the blocks D. -/
def HAt (hT eT : TypeId) (C : Cod V) (fn : Value) (bf : V → V → Bool) (w : World) (b : Nat) (D : Nat → Prop) (s : List (En V)) (g : Int) : Prop :=
  ∃ bm v l, D = dom b bm v ∧ HIn hT eT C fn bf w b bm v l s g
variable {hT eT : TypeId} {C : Cod V} {fn : Value} {bf : V → V → Bool} {w w' : World} {b bm : Nat} {v : Value} {l s : List (En V)} {g : Int}
theorem HIn.fr (h : HIn hT eT C fn bf w b bm v l s g) {S : Nat → Prop} (hf : Fr S w w') (hS : ∀ k, dom b bm v k → ¬ S k) : HIn hT eT C fn bf w' b bm v l s g := ⟨h.at_.fr hf hS, h.hp, h.so, h.me, h.ln⟩
theorem HIn.fr0 (h : HIn hT eT C fn bf w b bm v l s g) (hf : Fr No w w') : HIn hT eT C fn bf w' b bm v l s g := h.fr hf (fun _ _ z => z)
theorem HAt.fr {D : Nat → Prop} (h : HAt hT eT C fn bf w b D s g) {S : Nat → Prop} (hf : Fr S w w') (hS : ∀ k, D k → ¬ S k) : HAt hT eT C fn bf w' b D s g := by
  obtain ⟨bm, v, l, rfl, h⟩ := h
  exact ⟨bm, v, l, rfl, h.fr hf hS⟩
theorem HAt.fr0 {D : Nat → Prop} (h : HAt hT eT C fn bf w b D s g) (hf : Fr No w w') : HAt hT eT C fn bf w' b D s g := h.fr hf (fun _ _ z => z)
theorem HAt.lt {D : Nat → Prop} (h : HAt hT eT C fn bf w b D s g) {k : Nat} (hk : D k) : k < w.heap.size := by
  obtain ⟨bm, v, l, rfl, h⟩ := h
  exact h.at_.lt hk
theorem HAt.self {D : Nat → Prop} (h : HAt hT eT C fn bf w b D s g) : D b := by
  obtain ⟨bm, v, l, rfl, h⟩ := h
  exact .inl rfl
theorem HAt.n {D : Nat → Prop} (h : HAt hT eT C fn bf w b D s g) : (s.length : Int) ≤ g ∧ g ≤ 1000000000 := by
  obtain ⟨bm, v, l, rfl, h⟩ := h
  rw [h.ln]
  exact ⟨h.at_.ok.n, h.at_.ok.g⟩
theorem HAt.sorted {D : Nat → Prop} (h : HAt hT eT C fn bf w b D s g) : Sorted bf s := by
  obtain ⟨bm, v, l, rfl, h⟩ := h
  exact h.so
/-- What the entries are. -/
structure OkS (bf : V → V → Bool) (s : List (En V)) (g : Int) : Prop where
  so : Sorted bf s
  nd : (ids s).Nodup
  fit : ∀ e ∈ s, fits e.id
  lo : ∀ e ∈ s, 0 ≤ e.p ∧ e.p < g
  n : (s.length : Int) ≤ g
  g : g ≤ 1000000000
theorem HIn.nodup (hw : Weak bf) (h : HIn hT eT C fn bf w b bm v l s g) : (ids s).Nodup := by
  obtain ⟨f, _, hp⟩ := h.at_.mp
  have hinj : ∀ e ∈ l, ∀ e' ∈ l, e.id = e'.id → e = e' := by
    intro e he e' he' hid
    obtain ⟨i, hi, rfl⟩ := mem_at.1 he
    obtain ⟨k, hk, rfl⟩ := mem_at.1 he'
    rw [hp.inj hi hk hid]
  have hs := h.so
  have hm : ∀ e ∈ s, e ∈ l := fun e he => (h.me e).1 he
  clear h
  induction s with
  | nil => simp [ids]
  | cons a s ih =>
    obtain ⟨ha, hs2⟩ := List.pairwise_cons.1 hs
    refine List.nodup_cons.2 ⟨fun hc => ?_, ih hs2 (fun e he => hm e (List.mem_cons_of_mem _ he))⟩
    obtain ⟨c, hc1, hc2⟩ := List.mem_map.1 hc
    have := hinj c (hm c (List.mem_cons_of_mem _ hc1)) a (hm a (List.mem_cons_self ..)) hc2
    subst this
    have h2 := ha c hc1
    rw [fst_irr hw] at h2; cases h2
theorem HAt.ok (hw : Weak bf) {D : Nat → Prop} (h : HAt hT eT C fn bf w b D s g) : OkS bf s g := by
  obtain ⟨bm, v, l, rfl, h⟩ := h
  exact ⟨h.so, h.nodup hw, fun e he => h.at_.ok.fit e ((h.me e).1 he), fun e he => h.at_.ok.lo e ((h.me e).1 he), by rw [h.ln]; exact h.at_.ok.n, h.at_.ok.g⟩
/-- The first entry stands at the array's first place. -/
theorem HIn.head (hw : Weak bf) {a : En V} (h : HIn hT eT C fn bf w b bm v l (a :: s) g) : 0 < l.length ∧ l.getD 0 default = a := by
  have h0 : 0 < l.length := by have := h.ln; simp at this; omega
  refine ⟨h0, ?_⟩
  obtain ⟨ha, _⟩ := List.pairwise_cons.1 h.so
  have m0 := (h.me _).2 (at_mem h0)
  rcases List.mem_cons.1 m0 with e | e
  · exact e
  · have h1 := ha _ e
    obtain ⟨j, hj, hja⟩ := mem_at.1 ((h.me a).1 (List.mem_cons_self ..))
    have h2 := h.hp.top hw j hj
    rw [hja, h1] at h2; cases h2
theorem HIn.has (h : HIn hT eT C fn bf w b bm v l s g) {f : Int → Option Int} (hp : PlaceOf f l) (x : Int) : (f x).isSome = decide (x ∈ ids s) := by
  rw [hp.isSome x, ← any_ids, Bool.eq_iff_iff]
  simp only [List.any_eq_true]
  constructor
  · rintro ⟨e, he, h2⟩; exact ⟨e, (h.me e).2 he, h2⟩
  · rintro ⟨e, he, h2⟩; exact ⟨e, (h.me e).1 he, h2⟩
/-- What taking an entry leaves. -/
theorem HIn.took {i : Nat} (h : HIn hT eT C fn bf w b bm v l s g) {l' : List (En V)} {v' : Value} (hw : Weak bf) (hi : i < l.length) (ha : AV hT eT C fn w' b bm v' l' g) (hh : HP bf l') (hm : ∀ e, e ∈ l' ↔ e ∈ cut l i) (hl : l'.length = l.length - 1) :
    HIn hT eT C fn bf w' b bm v' l' (del (l.getD i default).id s) g := by
  obtain ⟨f, _, hp⟩ := h.at_.mp
  refine ⟨ha, hh, del_sorted _ h.so, fun e => ?_, ?_⟩
  · rw [mem_del, hm, mem_cut hp hi, h.me]
  · have hin : (l.getD i default).id ∈ ids s := List.mem_map.2 ⟨_, (h.me _).2 (at_mem hi), rfl⟩
    rw [del_len (h.nodup hw) hin, hl, h.ln]
/-- What pushing an entry leaves. -/
theorem HIn.pushed (h : HIn hT eT C fn bf w b bm v l s g) {l' : List (En V)} {v' : Value} (hw : Weak bf) {e : En V} (hp : e.p = g) (ha : AV hT eT C fn w' b bm v' l' (g + 1)) (hh : HP bf l') (hm : ∀ x, x ∈ l' ↔ x ∈ l ++ [e]) (hl : l'.length = (l ++ [e]).length) :
    HIn hT eT C fn bf w' b bm v' l' (ins bf e s) (g + 1) := by
  refine ⟨ha, hh, ins_sorted hw e s h.so (fun a ha2 => ?_), fun x => ?_, ?_⟩
  · have := (h.at_.ok.lo a ((h.me a).1 ha2)).2
    omega
  · rw [mem_ins, hm, List.mem_append, h.me]
    simp only [List.mem_singleton]
    exact Or.comm
  · rw [ins_len, hl, List.length_append, h.ln]; rfl
end
end Go.Proofs.Ytbndmelkdamgjaa
