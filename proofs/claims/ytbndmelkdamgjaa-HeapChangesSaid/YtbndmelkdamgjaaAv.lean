/- A block that reads as a heap with an array of entries. -/
import Derived.Test.YtbndmelkdamgjaaSrt
import Derived.Test.YtbndmelkdamgjaaChecked
namespace Go.Proofs.Ytbndmelkdamgjaa
open Go.RowKit Go.Wk

/-- The numbers of an array of entries, g pushes made. -/
structure OkL {V : Type} (l : List (En V)) (g : Int) : Prop where
  fit : ∀ e ∈ l, fits e.id
  lo : ∀ e ∈ l, 0 ≤ e.p ∧ e.p < g
  pd : ∀ e ∈ l, ∀ e' ∈ l, e.p = e'.p → e = e'
  n : (l.length : Int) ≤ g
  g : g ≤ 1000000000
/-- The block b (of type hT) is a heap: its array (entries of type eT, as C says) lies in v, its map in bm, its function is fn. -/
structure AV {V : Type} [Inhabited V] (hT eT : TypeId) (C : Cod V) (fn : Value) (w : World) (b bm : Nat) (v : Value) (l : List (En V)) (g : Int) : Prop where
  blk : Blk w b hT #[fn, v, .map (some bm), .int .i64 g]
  own : w.ownsRow 0 eT C.s v l.length (ecells C l)
  mp : ∃ f, MapF w Try.prog 3 bm g.toNat f ∧ PlaceOf f l
  ok : OkL l g
  ne : eT ≠ hT
def dom (b bm : Nat) (v : Value) : Nat → Prop := fun k => k = b ∨ k = bm ∨ v.ownBlock = some k
section
variable {V : Type} [Inhabited V] {hT eT : TypeId} {C : Cod V} {fn : Value} {S : Nat → Prop} {w w' : World} {b bm : Nat} {v : Value} {l : List (En V)} {g : Int}
theorem AV.fr (h : AV hT eT C fn w b bm v l g) (hf : Fr S w w') (hS : ∀ k, dom b bm v k → ¬ S k) : AV hT eT C fn w' b bm v l g := by
  obtain ⟨f, hm, hp⟩ := h.mp
  exact ⟨h.blk.fr hf (hS b (.inl rfl)), own_fr h.own hf (fun k hk => hS k (.inr (.inr hk))), ⟨f, hm.fr hf (hS bm (.inr (.inl rfl))), hp⟩, h.ok, h.ne⟩
theorem AV.fr0 (h : AV hT eT C fn w b bm v l g) (hf : Fr No w w') : AV hT eT C fn w' b bm v l g := h.fr hf (fun _ _ z => z)
theorem AV.lt (h : AV hT eT C fn w b bm v l g) {k : Nat} (hk : dom b bm v k) : k < w.heap.size := by
  rcases hk with rfl | rfl | hk
  · exact h.blk.lt
  · obtain ⟨f, hm, _⟩ := h.mp; exact hm.lt
  · exact (h.own.lt k hk).2
theorem AV.cells (h : AV hT eT C fn w b bm v l g) : w.cell? ⟨b, 0, none⟩ = some fn ∧ w.cell? ⟨b, 1, none⟩ = some v ∧ w.cell? ⟨b, 2, none⟩ = some (.map (some bm)) ∧ w.cell? ⟨b, 3, none⟩ = some (.int .i64 g) := ⟨h.blk.cell 0, h.blk.cell 1, h.blk.cell 2, h.blk.cell 3⟩
theorem AV.form (h : AV hT eT C fn w b bm v l g) : ∃ A c, v = .slice A l.length c := own_form' h.own
theorem AV.apart (h : AV hT eT C fn w b bm v l g) : bm ≠ b ∧ (∀ k, v.ownBlock = some k → k ≠ b) ∧ (∀ k, v.ownBlock = some k → k ≠ bm) := by
  obtain ⟨f, hm, _⟩ := h.mp
  refine ⟨hm.cells_ne h.blk, own_blk_ne h.own h.blk h.ne, fun k hk e => ?_⟩
  subst e
  rcases h.own.2 with ⟨rfl, _⟩ | ⟨g', cap, cur, rfl, _, hh, _⟩
  · simp [Value.ownBlock] at hk
  · have : g' = k := by simpa [Value.ownBlock] using hk
    subst this
    exact hm.cells_ne (g := g') (t := eT) (cs := cur) hh rfl
/-- The entry k, cell by cell. -/
theorem AV.item (h : AV hT eT C fn w b bm v l g) {k : Nat} (hk : k < l.length) : ∃ G c, v = .slice (some ⟨G, 0, none⟩) l.length c ∧ G < w.heap.size ∧ (∀ o, w.frozen? ⟨G, o, none⟩ = false) ∧ G ≠ b ∧ G ≠ bm ∧ ∀ j u, (ecell C (l.getD k default))[j]? = some u → w.cell? ⟨G, k * C.s + j, none⟩ = some u := by
  obtain ⟨G, c, rfl, _⟩ := own_some h.own (by omega)
  refine ⟨G, c, rfl, (h.own.lt G rfl).2, fun o => h.own.frozenAt o, h.apart.2.1 G rfl, h.apart.2.2 G rfl, fun j u hu => ?_⟩
  have hj : j < C.s := by
    rw [← ecell_len C (l.getD k default)]
    exact (List.getElem?_eq_some_iff.1 hu).1
  have hle : k * C.s + C.s ≤ l.length * C.s := by
    have := Nat.mul_le_mul_right C.s (show k + 1 ≤ l.length from hk)
    rw [Nat.succ_mul] at this; omega
  rw [h.own.cellAt _ (by omega), ecells_get C l k j hk hj]
  exact hu
theorem AV.okAt (h : AV hT eT C fn w b bm v l g) {k : Nat} (hk : k < l.length) : fits (l.getD k default).id ∧ 0 ≤ (l.getD k default).p ∧ (l.getD k default).p < g := ⟨h.ok.fit _ (at_mem hk), h.ok.lo _ (at_mem hk)⟩
end
theorem OkL.same {V : Type} {l l' : List (En V)} {g : Int} (h : OkL l g) (hm : ∀ e, e ∈ l' ↔ e ∈ l) (hl : l'.length = l.length) : OkL l' g :=
  ⟨fun e he => h.fit e ((hm e).1 he), fun e he => h.lo e ((hm e).1 he), fun e he e' he' => h.pd e ((hm e).1 he) e' ((hm e').1 he'), by rw [hl]; exact h.n, h.g⟩
/-- A function value that tells which of two values comes first. -/
structure Bef {V : Type} (C : V → Value) (bf : V → V → Bool) (f : Nat) : Prop where
  ent : ∀ (args : Array Value) (w : World), (callFunc f args).run Try.prog w = .ok (.enter f args) w
  run : ∀ (a b : V) (X : World), Calls Try.prog f #[C a, C b] X fun e X' => e = .returned (.bool (bf a b)) ∧ Fr No X X'
  weak : Weak bf
end Go.Proofs.Ytbndmelkdamgjaa
