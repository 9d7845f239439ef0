/- What holds in a play of steps: the caps and the document's caps are in one state; so are those that were copied. -/
import Derived.Test.YtjgjbjigghfnbaaShows
import Derived.Test.YtjgjbjigghfnbaaFlat
import Derived.Test.YtjgjbjigghfnbaaG
namespace Go.Proofs.Ytjgjbjigghfnbaa
open Go.RowKit Go.Wk

theorem rnew_good' (all : Int) (A : Option Addr) (n c B : Nat) (xs : List Int) (w : World) (hn : xs.length = n) (h : Reads w B 1 A n (xs.map (Value.int .i64))) (hB : B ≤ w.heap.size)
    (h1 : beyondB all = false) (h2 : n ≤ 64) (h3 : xs.any beyondB = false) :
    Calls Try.prog 19 #[.int .i64 all, .slice A n c] w fun x w' => RNew w (.fresh all xs) x w' := by
  subst hn
  exact rnew_good all A c B xs w h hB h1 h2 h3

structure PlayI (w0 w : World) (c b e r : Nat) (s : CS) (old was : Value) : Prop where
  cap : CapsAt w c s
  ref : RefAt w b e r s
  base : w0.heap.size ≤ c ∧ w0.heap.size ≤ b ∧ w0.heap.size ≤ e ∧ w0.heap.size ≤ r
  lt : b < w.heap.size ∧ e < w.heap.size ∧ r < w.heap.size
  ap : b ≠ c ∧ e ≠ c ∧ r ≠ c
  olds : (old = .pointer none ∧ was = .pointer none) ∨ ∃ oc ob oe or_ so, old = .pointer (some ⟨oc, 0, none⟩) ∧ was = .pointer (some ⟨ob, 0, none⟩) ∧ CapsAt w oc so ∧ RefAt w ob oe or_ so ∧
    (oc ≠ c ∧ ob ≠ c ∧ oe ≠ c ∧ or_ ≠ c) ∧ (oc ≠ r ∧ ob ≠ r ∧ oe ≠ r ∧ or_ ≠ r)
  fr : Fr No w0 w

theorem PlayI.keep {w0 w w' : World} {c b e r : Nat} {s : CS} {old was : Value} (h : PlayI w0 w c b e r s old was) (hf : Fr No w w') : PlayI w0 w' c b e r s old was := by
  have no : ∀ k, ¬ No k := fun _ x => x
  refine ⟨h.cap.fr hf (no _), h.ref.fr hf (no _) (no _) (no _), h.base, ⟨by have := h.lt.1; have := hf.size; omega, by have := h.lt.2.1; have := hf.size; omega, by have := h.lt.2.2; have := hf.size; omega⟩, h.ap, ?_, h.fr.then0 hf⟩
  rcases h.olds with h | ⟨oc, ob, oe, or_, so, h1, h2, h3, h4, h5⟩
  · exact .inl h
  · exact .inr ⟨oc, ob, oe, or_, so, h1, h2, h3.fr hf (no _), h4.fr hf (no _) (no _) (no _), h5⟩

theorem PlayI.ref1 {w0 w w1 : World} {c b e r : Nat} {s : CS} {old was : Value} (h : PlayI w0 w c b e r s old was) (f1 : Fr (· = c) w w1) : RefAt w1 b e r s := h.ref.fr f1 h.ap.1 h.ap.2.1 h.ap.2.2

theorem PlayI.step {w0 w w1 w2 : World} {c b e r : Nat} {s s' : CS} {old was : Value} (h : PlayI w0 w c b e r s old was) (hc : CapsAt w1 c s') (f1 : Fr (· = c) w w1) (hr : RefAt w2 b e r s') (f2 : Fr (· = r) w1 w2) :
    PlayI w0 w2 c b e r s' old was := by
  have hs1 := f1.size
  have hs2 := f2.size
  refine ⟨hc.fr f2 (fun h' => h.ap.2.2 h'.symm), hr, h.base, ⟨by have := h.lt.1; omega, by have := h.lt.2.1; omega, by have := h.lt.2.2; omega⟩, h.ap, ?_, (h.fr.own f1 h.base.1).own f2 h.base.2.2.2⟩
  rcases h.olds with h | ⟨oc, ob, oe, or_, so, h1, h2, h3, h4, ⟨a1, a2, a3, a4⟩, b1, b2, b3, b4⟩
  · exact .inl h
  · exact .inr ⟨oc, ob, oe, or_, so, h1, h2, (h3.fr f1 a1).fr f2 b1, (h4.fr f1 a2 a3 a4).fr f2 b2 b3 b4, ⟨a1, a2, a3, a4⟩, b1, b2, b3, b4⟩

theorem PlayI.copy {w0 w w1 w2 : World} {c b e r b' e' r' : Nat} {s : CS} {old was : Value} (h : PlayI w0 w c b e r s old was) (hc : CapsAt w1 w.heap.size s) (f1 : Fr No w w1) (hr : RefAt w2 b' e' r' s) (f2 : Fr No w1 w2)
    (hb : w1.heap.size ≤ b') (he : w1.heap.size ≤ e') (hr' : w1.heap.size ≤ r') (he2 : e' < w2.heap.size) (hr2 : r' < w2.heap.size) :
    PlayI w0 w2 w.heap.size b' e' r' s (.pointer (some ⟨c, 0, none⟩)) (.pointer (some ⟨b, 0, none⟩)) := by
  have no : ∀ k, ¬ No k := fun _ x => x
  have l1 := hc.blk.lt
  have l2 := h.cap.blk.lt
  have l3 := h.lt
  have l4 := h.fr.size
  have l5 : b' < w2.heap.size := by obtain ⟨_, _, _, _, q, _⟩ := hr.blk; exact q.lt
  refine ⟨hc.fr f2 (no _), hr, by omega, by omega, by omega, .inr ⟨c, b, e, r, s, rfl, rfl, (h.cap.fr f1 (no _)).fr f2 (no _), (h.ref.fr f1 (no _) (no _) (no _)).fr f2 (no _) (no _) (no _), by omega, by omega⟩, (h.fr.then0 f1).then0 f2⟩

theorem PlayI.start {w0 w1 w2 : World} {b e r : Nat} {s : CS} (hc : CapsAt w1 w0.heap.size s) (f1 : Fr No w0 w1) (hr : RefAt w2 b e r s) (f2 : Fr No w1 w2)
    (hb : w1.heap.size ≤ b) (he : w1.heap.size ≤ e) (hr' : w1.heap.size ≤ r) (he2 : e < w2.heap.size) (hr2 : r < w2.heap.size) : PlayI w0 w2 w0.heap.size b e r s (.pointer none) (.pointer none) := by
  have no : ∀ k, ¬ No k := fun _ x => x
  have l1 := hc.blk.lt
  have l5 : b < w2.heap.size := by obtain ⟨_, _, _, _, q, _⟩ := hr.blk; exact q.lt
  exact ⟨hc.fr f2 (no _), hr, by omega, by omega, by omega, .inl ⟨rfl, rfl⟩, f1.then0 f2⟩

theorem PlayI.oldc {w0 w : World} {c b e r oc ob : Nat} {s : CS} (h : PlayI w0 w c b e r s (.pointer (some ⟨oc, 0, none⟩)) (.pointer (some ⟨ob, 0, none⟩))) : ∃ oe or_ so, CapsAt w oc so ∧ RefAt w ob oe or_ so := by
  rcases h.olds with ⟨h, _⟩ | ⟨oc', ob', oe, or_, so, h1, h2, h3, h4, _⟩
  · cases h
  · cases h1; cases h2
    exact ⟨oe, or_, so, h3, h4⟩

/-- An element of a slice of pairs. -/
theorem RowF.pair {bytes : Nat} {w : World} {A : Option Addr} {n c : Nat} {es : List (List Int)} (h : RowF [.i64, .i64] bytes w A n c es) {k : Nat} (hk : k < n) :
    ∃ b off d j, A = some ⟨b, off, none⟩ ∧ b < w.heap.size ∧ w.cell? ⟨b, off + k * 2, none⟩ = some (.int .i64 d) ∧ w.cell? ⟨b, off + k * 2 + 1, none⟩ = some (.int .i64 j) ∧
      (Lit.int .i64 d).wf = true ∧ (Lit.int .i64 j).wf = true := by
  obtain ⟨_, _, hr, hl, hw⟩ := h
  obtain ⟨ad, hA, hb, hc⟩ := hr.2 (by omega)
  have hm : es.getD k [] ∈ es := by
    rw [show es.getD k [] = es[k]'(by omega) by simp [show k < es.length by omega]]
    exact List.getElem_mem _
  obtain ⟨h2, h3⟩ := hw _ hm
  obtain ⟨d, j, hdj⟩ : ∃ d j, es.getD k [] = [d, j] := by
    generalize es.getD k [] = l at h2
    match l, h2 with
    | [d, j], _ => exact ⟨d, j, rfl⟩
  have g0 := flatMap_get (ks := [IntKind.i64, .i64]) es k 0 (fun ns hn => (hw ns hn).1) (by omega) (by decide)
  have g1 := flatMap_get (ks := [IntKind.i64, .i64]) es k 1 (fun ns hn => (hw ns hn).1) (by omega) (by decide)
  rw [hdj] at g0 g1 h3
  have c0 := hc _ _ g0
  have c1 := hc _ _ g1
  obtain ⟨b, off, spot⟩ := ad
  have hs : spot = none := by
    have g00 := flatMap_get (ks := [IntKind.i64, .i64]) es 0 0 (fun ns hn => (hw ns hn).1) (by omega) (by decide)
    have hr0 : (rowOf [IntKind.i64, .i64] (es.getD 0 [])) ≠ [] := by
      have hm0 : es.getD 0 [] ∈ es := by
        rw [show es.getD 0 [] = es[0]'(by omega) by simp [show 0 < es.length by omega]]
        exact List.getElem_mem _
      intro he
      have := congrArg List.length he
      rw [rowOf, List.length_zipWith, (hw _ hm0).1] at this
      simp at this
    obtain ⟨u, us, hu⟩ := List.exists_cons_of_ne_nil hr0
    rw [hu] at g00
    have := hc _ u (by rw [g00]; rfl)
    simpa [Addr.add] using World.cell?_spot this
  subst hs
  rw [add_plain] at c0 c1
  refine ⟨b, off, d, j, hA, hb, ?_, ?_, h3 0 .i64 d rfl rfl, h3 1 .i64 j rfl rfl⟩
  · exact c0
  · exact c1
end Go.Proofs.Ytjgjbjigghfnbaa
