/- A row of items of the call's own, exchanged in place. -/
import Derived.Test.YtbndmelkdamgjaaVSym
namespace Go.Proofs.Ytbndmelkdamgjaa.So
open Go.RowKit Go.Wk

/-- Block b holds the numbers L, and more behind. -/
def RowT (w : World) (b : Nat) (c : Nat) (L : List TI) : Prop := ∃ cs, Blk w b 3 cs ∧ cs.size = c ∧ L.length ≤ c ∧ ∀ i, i < L.length → cs[i]? = some (.int .i64 (ati L i).1)
theorem RowT.fr {S : Nat → Prop} {w w' : World} {b c : Nat} {L : List TI} (h : RowT w b c L) (hf : Fr S w w') (hS : ¬ S b) : RowT w' b c L := by
  obtain ⟨cs, hb, h1⟩ := h; exact ⟨cs, hb.fr hf hS, h1⟩
theorem RowT.cells {w : World} {b c : Nat} {L : List TI} (h : RowT w b c L) {i : Nat} (hi : i < L.length) : w.cell? ⟨b, i, none⟩ = some (.int .i64 (ati L i).1) := by
  obtain ⟨cs, hb, _, _, h1⟩ := h
  exact (hb.cell i).trans (h1 i hi)
theorem RowT.frozen {w : World} {b c : Nat} {L : List TI} (h : RowT w b c L) (o : Nat) : w.frozen? ⟨b, o, none⟩ = false := by
  obtain ⟨cs, hb, _⟩ := h; exact hb.frozen o
theorem RowT.drew {w : World} {b c : Nat} {L : List TI} (h : RowT w b c L) : RowT w.drew b c L := h
theorem row_set {w : World} {b c : Nat} {L : List TI} (h : RowT w b c L) {i : Nat} (hi : i < L.length) (t : TI) : RowT (w.setCell ⟨b, i, none⟩ (.int .i64 t.1)) b c (L.set i t) := by
  obtain ⟨cs, hb, hs, hc, h1⟩ := h
  refine ⟨_, hb.set_ i _, by simpa using hs, by rw [List.length_set]; exact hc, fun j hj => ?_⟩
  rw [List.length_set] at hj
  rw [Array.getElem?_setIfInBounds]
  by_cases e : i = j
  · subst e
    rw [if_pos rfl, if_pos (by omega)]
    simp [ati, hi]
  · rw [if_neg e, h1 j hj]
    simp [ati, e]
theorem RowT.xch {w : World} {b c : Nat} {L : List TI} (h : RowT w b c L) {i j : Nat} (hi : i < L.length) (hj : j < L.length) : RowT ((w.setCell ⟨b, i, none⟩ (.int .i64 (ati L j).1)).setCell ⟨b, j, none⟩ (.int .i64 (ati L i).1)) b c (swp L i j) :=
  row_set (row_set h hi (ati L j)) (by rw [List.length_set]; exact hj) (ati L i)
theorem RowT.put2 {w : World} {b c : Nat} {L : List TI} (h : RowT w b c L) {i j : Nat} (hi : i < L.length) (hj : j < L.length) {w' : World}
    (e : w' = (w.setCell ⟨b, i, none⟩ (.int .i64 (ati L j).1)).setCell ⟨b, j, none⟩ (.int .i64 (ati L i).1)) : RowT w' b c (swp L i j) ∧ Fr (· = b) w w' := by
  subst e; exact ⟨h.xch hi hj, ((Fr.refl (· = b) w).setCell (.inr rfl) _).setCell (.inr rfl) _⟩

/-- The comparison (its variable in block g) answers, whatever the block b holds. -/
def Clo (w : World) (g b : Nat) (y : KY) : Prop := ∀ X, Fr (· = b) w X → ∀ u v, y.ok u → y.ok v → Calls Try.prog 78 #[.int .i64 u, .int .i64 v, .pointer (some ⟨g, 0, none⟩)] X fun e w' => e = .returned (.int .i64 (ordI y u v)) ∧ Fr No X w'
/-- What sorting walks over: the numbers in block b. -/
structure Srtr (w : World) (g b c : Nat) (y : KY) (L : List TI) : Prop where
  clo : Clo w g b y
  row : RowT w b c L
  ok : ∀ i, i < L.length → y.ok (ati L i).1
theorem Srtr.fr {w w' : World} {g b c : Nat} {y : KY} {L : List TI} (h : Srtr w g b c y L) (hf : Fr No w w') : Srtr w' g b c y L :=
  ⟨fun X hX => h.clo X ((hf.mono (T := (· = b)) (fun _ z => z.elim)).trans hX (fun _ _ z => z)), h.row.fr hf (fun x => x), h.ok⟩
theorem Srtr.xch {w w' : World} {g b c : Nat} {y : KY} {L : List TI} (h : Srtr w g b c y L) {i j : Nat} (hi : i < L.length) (hj : j < L.length) (hr : RowT w' b c (swp L i j)) (hf : Fr (· = b) w w') : Srtr w' g b c y (swp L i j) :=
  ⟨fun X hX => h.clo X (hf.trans hX (fun _ _ z => z)), hr, fun k hk => by
    rw [swp_at hi hj]
    by_cases e1 : k = i
    · rw [if_pos e1]; exact h.ok j hj
    · rw [if_neg e1]
      by_cases e2 : k = j
      · rw [if_pos e2]; exact h.ok i hi
      · rw [if_neg e2]; rw [swp_len] at hk; exact h.ok k hk⟩
/-- The comparison, at two places of the row. -/
theorem Srtr.cmp {w : World} {g b c : Nat} {y : KY} {L : List TI} (h : Srtr w g b c y L) {i j : Nat} (hi : i < L.length) (hj : j < L.length) (X : World) (hf : Fr No w X) :
    Calls Try.prog 78 #[.int .i64 (ati L i).1, .int .i64 (ati L j).1, .pointer (some ⟨g, 0, none⟩)] X fun e w' => e = .returned (.int .i64 (ordI y (ati L i).1 (ati L j).1)) ∧ Fr No X w' :=
  h.clo X (hf.mono (fun _ z => z.elim)) _ _ (h.ok i hi) (h.ok j hj)
end Go.Proofs.Ytbndmelkdamgjaa.So
