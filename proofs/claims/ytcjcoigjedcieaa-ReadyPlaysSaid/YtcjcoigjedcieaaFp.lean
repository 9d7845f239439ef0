/- What filled makes. No program's walk stands here. -/
import Derived.Test.YtcjcoigjedcieaaW
import Derived.Test.YtcjcoigjedcieaaFlat
namespace Go.Wk
open Go.RowKit
theorem RowF.at_ {ks : List IntKind} {bytes : Nat} {w : World} {A : Option Addr} {n c : Nat} {es : List (List Int)} (h : RowF ks bytes w A n c es) (hks : 0 < ks.length) {k : Nat} (hk : k < n) :
    ∃ b off, A = some ⟨b, off, none⟩ ∧ b < w.heap.size ∧ (es.getD k []).length = ks.length ∧ (∀ (i : Nat) (q : IntKind) (v : Int), ks[i]? = some q → (es.getD k [])[i]? = some v → (Lit.int q v).wf = true) ∧
      ∀ j u, (rowOf ks (es.getD k []))[j]? = some u → w.cell? ⟨b, off + k * ks.length + j, none⟩ = some u := by
  obtain ⟨_, _, hr, hl, hw⟩ := h
  obtain ⟨ad, hA, hb, hc⟩ := hr.2 (by omega)
  have hmem : ∀ i, i < n → es.getD i [] ∈ es := fun i hi => by
    rw [show es.getD i [] = es[i]'(by omega) by simp [show i < es.length by omega]]
    exact List.getElem_mem _
  have hlen : ∀ i, i < n → (rowOf ks (es.getD i [])).length = ks.length := fun i hi => by
    rw [rowOf, List.length_zipWith, (hw _ (hmem i hi)).1, Nat.min_self]
  have key : ∀ j u, (rowOf ks (es.getD k []))[j]? = some u → w.cell? (ad.add (k * ks.length + j)) = some u := fun j u hu => by
    have hj : j < ks.length := by
      have := (List.getElem?_eq_some_iff.1 hu).1
      rw [hlen k hk] at this
      exact this
    exact hc _ u ((flatMap_get es k j (fun ns hn => (hw ns hn).1) (by omega) hj).trans hu)
  obtain ⟨b, off, spot⟩ := ad
  have hs : spot = none := by
    have h0 := hlen 0 (by omega)
    have hr0 : (rowOf ks (es.getD 0 []))[0]? = some ((rowOf ks (es.getD 0 []))[0]'(by omega)) := List.getElem?_eq_getElem _
    have := hc _ _ ((flatMap_get es 0 0 (fun ns hn => (hw ns hn).1) (by omega) hks).trans hr0)
    rw [Nat.zero_mul] at this
    simpa [Addr.add] using World.cell?_spot this
  subst hs
  refine ⟨b, off, hA, hb, (hw _ (hmem k hk)).1, (hw _ (hmem k hk)).2, fun j u hu => ?_⟩
  have := key j u hu
  rw [add_plain, ← Nat.add_assoc] at this
  exact this
theorem RowF.fr {S : Nat → Prop} {ks : List IntKind} {bytes : Nat} {w w' : World} {A : Option Addr} {n c : Nat} {es : List (List Int)} (h : RowF ks bytes w A n c es) (hf : Fr S w w') (hS : ∀ b, b < w.heap.size → ¬ S b) : RowF ks bytes w' A n c es := by
  obtain ⟨h1, h2, h3, h4, h5⟩ := h
  exact ⟨h1, h2, (h3.fr hf (Nat.le_refl _) hS).more hf.size, h4, h5⟩
theorem RowF.fr0 {ks : List IntKind} {bytes : Nat} {w w' : World} {A : Option Addr} {n c : Nat} {es : List (List Int)} (h : RowF ks bytes w A n c es) (hf : Fr No w w') : RowF ks bytes w' A n c es := h.fr hf (fun _ _ x => x)
theorem flatMap_take (ks : List IntKind) : ∀ (es : List (List Int)) (m : Nat), (∀ ns ∈ es, ns.length = ks.length) → ∃ r, es.flatMap (rowOf ks) = (es.take m).flatMap (rowOf ks) ++ r := by
  intro es m _
  refine ⟨(es.drop m).flatMap (rowOf ks), ?_⟩
  rw [← List.flatMap_append, List.take_append_drop]
theorem RowF.cut {ks : List IntKind} {bytes : Nat} {w : World} {A : Option Addr} {n c : Nat} {es : List (List Int)} (h : RowF ks bytes w A n c es) {m : Nat} (hm : m ≤ n) : RowF ks bytes w A m c (es.take m) := by
  obtain ⟨h1, h2, h3, h4, h5⟩ := h
  have hw : ∀ ns ∈ es.take m, ns.length = ks.length := fun ns hn => (h5 ns (List.mem_of_mem_take hn)).1
  have hlen : ∀ (l : List (List Int)), (∀ ns ∈ l, ns.length = ks.length) → (l.flatMap (rowOf ks)).length = l.length * ks.length := by
    intro l
    induction l with
    | nil => intro _; simp
    | cons a l ih =>
      intro hl
      rw [List.flatMap_cons, List.length_append, ih (fun ns hn => hl ns (List.mem_cons_of_mem _ hn)), List.length_cons, rowOf, List.length_zipWith, hl a (List.mem_cons_self), Nat.min_self, Nat.succ_mul]; omega
  have htl : (es.take m).length = m := by rw [List.length_take, h4]; omega
  refine ⟨by omega, h2, ⟨by rw [hlen _ hw, htl], fun hp => ?_⟩, htl, fun ns hn => h5 ns (List.mem_of_mem_take hn)⟩
  obtain ⟨ad, hA, hb, hc⟩ := h3.2 (by omega)
  refine ⟨ad, hA, hb, fun j u hu => hc j u ?_⟩
  rw [← List.take_append_drop m es, List.flatMap_append]
  rw [List.getElem?_append_left (List.getElem?_eq_some_iff.1 hu).1]
  exact hu
end Go.Wk
namespace Go.Proofs.Ytcjcoigjedcieaa
open Go.RowKit Go.Wk

/-- An item to be added: its priority (already modulo 101), its time. -/
structure On where
  pr : Int
  since : Int
def oneOf (l : List Int) : On := ⟨l.getD 0 0 % 101, l.getD 1 0⟩
def ones (es : List (List Int)) : List On := es.map oneOf
abbrev kOne : List IntKind := [.u8, .u32]
def On.zero : On := ⟨0, 0⟩
structure On.Ok (x : On) : Prop where
  pr : 0 ≤ x.pr ∧ x.pr ≤ 100
  since : 0 ≤ x.since ∧ x.since ≤ 4294967295
theorem ones_len (es : List (List Int)) : (ones es).length = es.length := by simp [ones]
theorem ones_take (es : List (List Int)) (m : Nat) : ones (es.take m) = (ones es).take m := by simp [ones, List.map_take]
theorem one_at {bytes : Nat} {w : World} {A : Option Addr} {n c : Nat} {es : List (List Int)} (h : RowF kOne bytes w A n c es) {k : Nat} (hk : k < n) :
    ∃ b off p u, (ones es).getD k On.zero = ⟨p % 101, u⟩ ∧ A = some ⟨b, off, none⟩ ∧ b < w.heap.size ∧ (0 ≤ p ∧ p ≤ 255) ∧ (0 ≤ u ∧ u ≤ 4294967295) ∧
      w.cell? ⟨b, off + k * 2, none⟩ = some (.int .u8 p) ∧ w.cell? ⟨b, off + k * 2 + 1, none⟩ = some (.int .u32 u) := by
  have hl4 := h.2.2.2.1
  obtain ⟨b, off, hA, hb, hl, hw, hc⟩ := h.at_ (by decide) hk
  have e : (ones es).getD k On.zero = oneOf (es.getD k []) := by
    simp [ones, show k < es.length by omega]
  rw [e]
  generalize es.getD k [] = l at *
  match l, hl with
  | [d, j], _ =>
    have h1 := hw 0 .u8 d rfl rfl
    have h2 := hw 1 .u32 j rfl rfl
    simp [Lit.wf] at h1 h2
    have e0 : IntKind.u8.max = 255 := by decide
    have e1 : IntKind.u32.max = 4294967295 := by decide
    have e2 : IntKind.u8.min = 0 := by decide
    have e3 : IntKind.u32.min = 0 := by decide
    exact ⟨b, off, d, j, rfl, hA, hb, ⟨by omega, by omega⟩, ⟨by omega, by omega⟩, hc 0 _ rfl, hc 1 _ rfl⟩
theorem ones_ok {bytes : Nat} {w : World} {A : Option Addr} {n c : Nat} {es : List (List Int)} (h : RowF kOne bytes w A n c es) {k : Nat} (hk : k < n) : ((ones es).getD k On.zero).Ok := by
  obtain ⟨_, _, p, u, he, _, _, hp, hu, _⟩ := one_at h hk
  rw [he]
  exact ⟨⟨by show 0 ≤ p % 101; omega, by show p % 101 ≤ 100; omega⟩, hu⟩

/-- The queue with the first k of them, their ids counted on from some number. -/
def fillK (size ag : Int) (xs : List On) : Nat → QS
  | 0 => QS.new size ag
  | k + 1 => (fillK size ag xs k).add k (xs.getD k On.zero).pr (xs.getD k On.zero).since
def itemK (xs : List On) (k : Nat) : IV := ⟨k, (xs.getD k On.zero).pr, (xs.getD k On.zero).since, (k : Int) + 1⟩
section
variable {size ag : Int} {xs : List On}
theorem fillK_ag : ∀ k, (fillK size ag xs k).ag = ag ∧ (fillK size ag xs k).size = size ∧ (fillK size ag xs k).added = k
  | 0 => ⟨rfl, rfl, rfl⟩
  | k + 1 => by
    have := fillK_ag k
    refine ⟨this.1, this.2.1, ?_⟩
    show (fillK size ag xs k).added + 1 = _
    rw [this.2.2]; simp
theorem fillK_len : ∀ k, (fillK size ag xs k).l.length = k
  | 0 => rfl
  | k + 1 => by
    show (insQ _ _ _).length = _
    rw [insQ_len, fillK_len k]
theorem fillK_mem {x : IV} : ∀ k, x ∈ (fillK size ag xs k).l ↔ ∃ i, i < k ∧ x = itemK xs i
  | 0 => by simp [fillK, QS.new]
  | k + 1 => by
    have ih : x ∈ (fillK size ag xs k).l ↔ ∃ i, i < k ∧ x = itemK xs i := fillK_mem k
    show x ∈ insQ _ _ _ ↔ _
    rw [insQ_mem, ih, (fillK_ag k).2.2]
    constructor
    · rintro (rfl | ⟨i, hi, rfl⟩)
      · exact ⟨k, by omega, rfl⟩
      · exact ⟨i, by omega, rfl⟩
    · rintro ⟨i, hi, rfl⟩
      by_cases e : i = k
      · left; rw [e]; rfl
      · right; exact ⟨i, by omega, rfl⟩
theorem fillK_new (k : Nat) {y : Int} (hy : ∀ i : Nat, i < k → (i : Int) ≠ y) : byId (fillK size ag xs k).l y = none := by
  apply byId_none
  intro e he
  obtain ⟨i, hi, rfl⟩ := (fillK_mem k).1 he
  exact hy i hi
theorem fillK_ok (h1 : 0 ≤ size ∧ size ≤ 1024) (h2 : 1 ≤ ag ∧ ag ≤ 68719476736) (hx : ∀ i, i < xs.length → (xs.getD i On.zero).Ok) : ∀ k, k ≤ xs.length → (k : Int) ≤ size → (fillK size ag xs k).ok
  | 0, _, _ => QS.ok_new h1 h2
  | k + 1, hk, hs => by
    have ih := fillK_ok h1 h2 hx k (by omega) (by omega)
    have ho := hx k (by omega)
    refine add_ok ih ?_ ho.pr ⟨ho.since.1, by have := ho.since.2; omega⟩ (fillK_new k (fun i hi => by omega)) ?_ ?_
    · unfold fits; omega
    · rw [(fillK_ag k).2.1, fillK_len]; omega
    · rw [(fillK_ag k).2.2]; omega
theorem fillK_push {k : Nat} (hk : k < xs.length) (hs : (k : Int) < size) (hx : ∀ i, i < xs.length → (xs.getD i On.zero).Ok) :
    pushE (fillK size ag xs k) k (xs.getD k On.zero).pr (xs.getD k On.zero).since = 0 ∧ pushS (fillK size ag xs k) k (xs.getD k On.zero).pr (xs.getD k On.zero).since = fillK size ag xs (k + 1) := by
  have ho := hx k hk
  have hp := ho.pr
  have hu := ho.since
  have hb : hasB (fillK size ag xs k) k = false := by unfold hasB; rw [fillK_new k (fun i hi => by omega)]; rfl
  have e : pushE (fillK size ag xs k) k (xs.getD k On.zero).pr (xs.getD k On.zero).since = 0 := by
    unfold pushE
    rw [if_neg (by omega), if_neg (by omega), hb, if_neg (by simp), if_neg (by rw [(fillK_ag k).2.1, fillK_len]; omega)]
  refine ⟨e, ?_⟩
  unfold pushS
  rw [if_pos e]
  rfl
end
end Go.Proofs.Ytcjcoigjedcieaa
