/- Tables of the call's own beside each other and beside slices of the call's own. -/
import Derived.Test.YtopcjakgfaobcaaCntP
namespace Go.Wk
open Go.RowKit
theorem RowF.fr {S : Nat → Prop} {ks : List IntKind} {bytes : Nat} {w w' : World} {A : Option Addr} {n c : Nat} {es : List (List Int)} (h : RowF ks bytes w A n c es) (hf : Fr S w w') (hS : ∀ b, b < w.heap.size → ¬ S b) : RowF ks bytes w' A n c es := by
  obtain ⟨h1, h2, h3, h4, h5⟩ := h
  exact ⟨h1, h2, (h3.fr hf (Nat.le_refl _) hS).more hf.size, h4, h5⟩
theorem RowF.fr0 {ks : List IntKind} {bytes : Nat} {w w' : World} {A : Option Addr} {n c : Nat} {es : List (List Int)} (h : RowF ks bytes w A n c es) (hf : Fr No w w') : RowF ks bytes w' A n c es := h.fr hf (fun _ _ x => x)
theorem Blk.fr0' {w w' : World} {g : Nat} {t : TypeId} {cs : Array Value} (h : Blk w g t cs) (hf : Fr No w w') : Blk w' g t cs := h.fr hf (fun x => x)
end Go.Wk
namespace Go.Proofs.Ytopcjakgfaobcaa
open Go.RowKit Go.Wk

theorem Own.back {w w0 wr : World} {b : Nat} {D : Nat → Prop} {s : TS} (h : Own w0 wr b D s) (hf : Fr No w w0) : Own w wr b D s :=
  ⟨h.tab, hf.then0 h.fr, fun k hk => Nat.le_trans hf.size (h.hD k hk)⟩
/-- Another table's turn. -/
theorem Own.beside {w w1 w2 : World} {b : Nat} {D E : Nat → Prop} {s : TS} (h : Own w w1 b D s) (hf : Fr E w1 w2) (hE : ∀ k, E k → w.heap.size ≤ k) (ha : ∀ k, D k → ¬ E k) : Own w w2 b D s :=
  ⟨h.tab.fr hf ha, h.fr.ownS hf hE, h.hD⟩
theorem apart_next {w1 : World} {b : Nat} {D E E' : Nat → Prop} {s : TS} (h : TabAt w1 b D s) (ha : ∀ k, D k → ¬ E k) (hd : ∀ k, E' k → E k ∨ w1.heap.size ≤ k) : ∀ k, D k → ¬ E' k := fun k hk he =>
  (hd k he).elim (ha k hk) (fun h' => by have := h.lt hk; omega)

/-- A slice of the call's own that holds runs, apart from D. -/
structure RowOwn (w wr : World) (D : Nat → Prop) (A : Option Addr) (c n : Nat) (l : List RV) : Prop where
  row : wr.ownsRow w.heap.size 31 5 (.slice A n c) n (rcells l)
  nd : ∀ k, (Value.slice A n c).ownBlock = some k → ¬ D k
theorem RowOwn.rd {w wr : World} {D : Nat → Prop} {A : Option Addr} {c n : Nat} {l : List RV} (h : RowOwn w wr D A c n l) : Reads wr wr.heap.size 5 A n (rcells l) := Reads.of_own h.row
theorem RowOwn.fr {w w1 w2 : World} {S D : Nat → Prop} {A : Option Addr} {c n : Nat} {l : List RV} (h : RowOwn w w1 D A c n l) (hf : Fr S w1 w2) (hS : ∀ k, S k → D k ∨ w1.heap.size ≤ k) : RowOwn w w2 D A c n l :=
  ⟨own_fr h.row hf (fun k hk hs => (hS k hs).elim (h.nd k hk) (fun h' => by have := (h.row.lt k hk).2; omega)), h.nd⟩
theorem RowOwn.fr0 {w w1 w2 : World} {D : Nat → Prop} {A : Option Addr} {c n : Nat} {l : List RV} (h : RowOwn w w1 D A c n l) (hf : Fr No w1 w2) : RowOwn w w2 D A c n l := h.fr hf (fun _ x => x.elim)
theorem RowOwn.next {w w1 w2 : World} {D D' : Nat → Prop} {A : Option Addr} {c n : Nat} {l : List RV} (h : RowOwn w w1 D A c n l) (hf : Fr D w1 w2) (hd : ∀ k, D' k → D k ∨ w1.heap.size ≤ k) : RowOwn w w2 D' A c n l :=
  ⟨(h.fr hf (fun _ x => .inl x)).row, fun k hk he => (hd k he).elim (h.nd k hk) (fun h' => by have := (h.row.lt k hk).2; omega)⟩
theorem RowOwn.of {w w1 w2 : World} {b : Nat} {D : Nat → Prop} {s : TS} {A : Option Addr} {c n : Nat} {l : List RV} (h : Own w w1 b D s) (ho : w2.ownsRow w1.heap.size 31 5 (.slice A n c) n (rcells l)) : RowOwn w w2 D A c n l :=
  ⟨own_base ho h.fr.size, fun k hk hD => by have := (ho.lt k hk).1; have := h.tab.lt hD; omega⟩

theorem fin_none {s : TS} {r : Int} (h : s.has r = false) : s.getV r = RV.zero ∧ s.finE r = 5 ∧ s.finS r = s := by
  have hp : s.pos r = none := by
    unfold TS.has at h
    cases hq : s.pos r with
    | none => rfl
    | some i => rw [hq] at h; simp at h
  unfold TS.getV TS.finE TS.finS TS.has
  rw [hp]
  exact ⟨rfl, rfl, rfl⟩

/-- The block of a variable that holds a step. -/
theorem cells6 {w : World} {X : Nat} {a b c d e f : Value} (h : Blk w X 42 #[a, b, c, d, e, f]) :
    w.cell? ⟨X, 0, none⟩ = some a ∧ w.cell? ⟨X, 1, none⟩ = some b ∧ w.cell? ⟨X, 2, none⟩ = some c ∧ w.cell? ⟨X, 3, none⟩ = some d ∧ w.cell? ⟨X, 4, none⟩ = some e ∧ w.cell? ⟨X, 5, none⟩ = some f :=
  ⟨h.cell 0, h.cell 1, h.cell 2, h.cell 3, h.cell 4, h.cell 5⟩
end Go.Proofs.Ytopcjakgfaobcaa
