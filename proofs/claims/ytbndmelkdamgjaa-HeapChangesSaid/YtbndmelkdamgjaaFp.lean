/- Rows of flat values that came in. No program stands here. -/
import Derived.Test.YtbndmelkdamgjaaRow
import Derived.Test.YtbndmelkdamgjaaFlat
namespace Go.Wk
open Go.RowKit
theorem RowF.at_ {ks : List IntKind} {bytes : Nat} {w : World} {A : Option Addr} {n c : Nat} {es : List (List Int)} (h : RowF ks bytes w A n c es) (hks : 0 < ks.length) {k : Nat} (hk : k < n) :
    ∃ b off, A = some ⟨b, off, none⟩ ∧ b < w.heap.size ∧ (es.getD k []).length = ks.length ∧ (∀ (i : Nat) (q : IntKind) (v : Int), ks[i]? = some q → (es.getD k [])[i]? = some v → (Lit.int q v).wf = true) ∧
      ∀ j u, (rowOf ks (es.getD k []))[j]? = some u → w.cell? ⟨b, off + k * ks.length + j, none⟩ = some u := by
  obtain ⟨_, _, hr, hl, hw⟩ := h
  obtain ⟨ad, hA, hb, hc⟩ := hr.2 (by omega)
  have hmem : ∀ i, i < n → es.getD i [] ∈ es := fun i hi => by
    rw [show es.getD i [] = es[i]'(by omega) by simp [show i < es.length by omega]]
    exact List.getElem_mem _
  have hlen : ∀ i, i < n → (rowOf ks (es.getD i [])).length = ks.length := fun i hi => by
    rw [rowOf, List.length_zipWith, (hw _ (hmem i hi)).1, Nat.min_self]
  have key : ∀ j u, (rowOf ks (es.getD k []))[j]? = some u → w.cell? (ad.add (k * ks.length + j)) = some u := fun j u hu => by
    have hj : j < ks.length := by
      have := (List.getElem?_eq_some_iff.1 hu).1
      rw [hlen k hk] at this
      exact this
    exact hc _ u ((flatMap_get es k j (fun ns hn => (hw ns hn).1) (by omega) hj).trans hu)
  obtain ⟨b, off, spot⟩ := ad
  have hs : spot = none := by
    have h0 := hlen 0 (by omega)
    have hr0 : (rowOf ks (es.getD 0 []))[0]? = some ((rowOf ks (es.getD 0 []))[0]'(by omega)) := List.getElem?_eq_getElem _
    have := hc _ _ ((flatMap_get es 0 0 (fun ns hn => (hw ns hn).1) (by omega) hks).trans hr0)
    rw [Nat.zero_mul] at this
    simpa [Addr.add] using World.cell?_spot this
  subst hs
  refine ⟨b, off, hA, hb, (hw _ (hmem k hk)).1, (hw _ (hmem k hk)).2, fun j u hu => ?_⟩
  have := key j u hu
  rw [add_plain, ← Nat.add_assoc] at this
  exact this
theorem RowF.fr {S : Nat → Prop} {ks : List IntKind} {bytes : Nat} {w w' : World} {A : Option Addr} {n c : Nat} {es : List (List Int)} (h : RowF ks bytes w A n c es) (hf : Fr S w w') (hS : ∀ b, b < w.heap.size → ¬ S b) : RowF ks bytes w' A n c es := by
  obtain ⟨h1, h2, h3, h4, h5⟩ := h
  exact ⟨h1, h2, (h3.fr hf (Nat.le_refl _) hS).more hf.size, h4, h5⟩
theorem RowF.fr0 {ks : List IntKind} {bytes : Nat} {w w' : World} {A : Option Addr} {n c : Nat} {es : List (List Int)} (h : RowF ks bytes w A n c es) (hf : Fr No w w') : RowF ks bytes w' A n c es := h.fr hf (fun _ _ x => x)
theorem flatMap_take (ks : List IntKind) : ∀ (es : List (List Int)) (m : Nat), (∀ ns ∈ es, ns.length = ks.length) → ∃ r, es.flatMap (rowOf ks) = (es.take m).flatMap (rowOf ks) ++ r := by
  intro es m _
  refine ⟨(es.drop m).flatMap (rowOf ks), ?_⟩
  rw [← List.flatMap_append, List.take_append_drop]
theorem RowF.cut {ks : List IntKind} {bytes : Nat} {w : World} {A : Option Addr} {n c : Nat} {es : List (List Int)} (h : RowF ks bytes w A n c es) {m : Nat} (hm : m ≤ n) : RowF ks bytes w A m c (es.take m) := by
  obtain ⟨h1, h2, h3, h4, h5⟩ := h
  have hw : ∀ ns ∈ es.take m, ns.length = ks.length := fun ns hn => (h5 ns (List.mem_of_mem_take hn)).1
  have hlen : ∀ (l : List (List Int)), (∀ ns ∈ l, ns.length = ks.length) → (l.flatMap (rowOf ks)).length = l.length * ks.length := by
    intro l
    induction l with
    | nil => intro _; simp
    | cons a l ih =>
      intro hl
      rw [List.flatMap_cons, List.length_append, ih (fun ns hn => hl ns (List.mem_cons_of_mem _ hn)), List.length_cons, rowOf, List.length_zipWith, hl a (List.mem_cons_self), Nat.min_self, Nat.succ_mul]; omega
  have htl : (es.take m).length = m := by rw [List.length_take, h4]; omega
  refine ⟨by omega, h2, ⟨by rw [hlen _ hw, htl], fun hp => ?_⟩, htl, fun ns hn => h5 ns (List.mem_of_mem_take hn)⟩
  obtain ⟨ad, hA, hb, hc⟩ := h3.2 (by omega)
  refine ⟨ad, hA, hb, fun j u hu => hc j u ?_⟩
  rw [← List.take_append_drop m es, List.flatMap_append]
  rw [List.getElem?_append_left (List.getElem?_eq_some_iff.1 hu).1]
  exact hu
end Go.Wk
