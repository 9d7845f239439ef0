/- A row of items of the call's own, exchanged in place. -/
import Derived.Test.YtabajcofddhelaaSym
namespace Go.Proofs.Ytabajcofddhelaa
open Go.RowKit Go.Wk

def setL (cs : Array Value) : Nat → List Value → Array Value
  | _, [] => cs
  | o, v :: r => setL (cs.setIfInBounds o v) (o + 1) r
theorem setL_size : ∀ (vs : List Value) (cs : Array Value) (o : Nat), (setL cs o vs).size = cs.size
  | [], _, _ => rfl
  | v :: r, cs, o => by rw [setL, setL_size r]; simp
theorem setL_get : ∀ (vs : List Value) (cs : Array Value) (o j : Nat), o + vs.length ≤ cs.size → (setL cs o vs)[j]? = if o ≤ j ∧ j < o + vs.length then vs[j - o]? else cs[j]?
  | [], cs, o, j, _ => by simp [setL]; intro h1 h2; omega
  | v :: r, cs, o, j, h => by
    simp only [List.length_cons] at h
    rw [setL, setL_get r (cs.setIfInBounds o v) (o + 1) j (by simp; omega), Array.getElem?_setIfInBounds]
    simp only [List.length_cons]
    rcases (show j < o ∨ j = o ∨ (o < j ∧ j < o + (r.length + 1)) ∨ o + (r.length + 1) ≤ j by omega) with h1 | h1 | h1 | h1
    · rw [if_neg (by omega), if_neg (by omega), if_neg (by omega)]
    · subst h1
      rw [if_neg (by omega), if_pos rfl, if_pos (by omega), if_pos (by omega), Nat.sub_self]
      rfl
    · rw [if_pos (by omega), if_pos (by omega), show j - o = (j - (o + 1)) + 1 by omega, List.getElem?_cons_succ]
    · rw [if_neg (by omega), if_neg (by omega), if_neg (by omega)]
theorem blk_setCells {g : Nat} {t : TypeId} : ∀ (vs : List Value) (cs : Array Value) (o : Nat) (w : World), Blk w g t cs → Blk (w.setCells g o vs) g t (setL cs o vs)
  | [], _, _, _, h => h
  | v :: r, cs, o, _, h => blk_setCells r (cs.setIfInBounds o v) (o + 1) _ (h.set_ o v)

/-- Cells read as items. -/
def CellsAt (cs : Array Value) (L : List TI) : Prop := L.length * 4 ≤ cs.size ∧ ∀ i k, i < L.length → k < 4 → cs[i * 4 + k]? = (ati L i).1.cells[k]?
theorem cellsAt_set {cs : Array Value} {L : List TI} (h : CellsAt cs L) {i : Nat} (hi : i < L.length) (t : TI) : CellsAt (setL cs (i * 4) t.1.cells) (L.set i t) := by
  have h4 : t.1.cells.length = 4 := rfl
  refine ⟨by rw [setL_size, List.length_set]; exact h.1, fun j k hj hk => ?_⟩
  rw [List.length_set] at hj
  rw [setL_get _ _ _ _ (by rw [h4]; have := h.1; omega), h4]
  by_cases e : j = i
  · subst e
    rw [if_pos (by omega), show j * 4 + k - j * 4 = k by omega]
    simp [ati, hi]
  · rw [if_neg (by omega), h.2 j k hj hk]
    simp [ati, Ne.symm e]
/-- Block b holds the items L, and more behind. -/
def RowT (w : World) (b : Nat) (c : Nat) (L : List TI) : Prop := ∃ cs, Blk w b 23 cs ∧ cs.size = c * 4 ∧ L.length ≤ c ∧ CellsAt cs L
theorem RowT.fr {S : Nat → Prop} {w w' : World} {b c : Nat} {L : List TI} (h : RowT w b c L) (hf : Fr S w w') (hS : ¬ S b) : RowT w' b c L := by
  obtain ⟨cs, hb, h1⟩ := h; exact ⟨cs, hb.fr hf hS, h1⟩
theorem RowT.cells {w : World} {b c : Nat} {L : List TI} (h : RowT w b c L) {i : Nat} (hi : i < L.length) :
    w.cell? ⟨b, i * 4, none⟩ = some (.int .i64 (ati L i).1.id) ∧ w.cell? ⟨b, i * 4 + 1, none⟩ = some (.int .i64 (ati L i).1.pr) ∧ w.cell? ⟨b, i * 4 + 2, none⟩ = some (.int .i64 (ati L i).1.since) ∧ w.cell? ⟨b, i * 4 + 3, none⟩ = some (.int .i64 (ati L i).1.seq) := by
  obtain ⟨cs, hb, _, _, _, h1⟩ := h
  have key := fun k hk => (hb.cell (i * 4 + k)).trans (h1 i k hi hk)
  exact ⟨key 0 (by omega), key 1 (by omega), key 2 (by omega), key 3 (by omega)⟩
theorem RowT.frozen {w : World} {b c : Nat} {L : List TI} (h : RowT w b c L) (o : Nat) : w.frozen? ⟨b, o, none⟩ = false := by
  obtain ⟨cs, hb, _⟩ := h; exact hb.frozen o
theorem RowT.drew {w : World} {b c : Nat} {L : List TI} (h : RowT w b c L) : RowT w.drew b c L := h
theorem RowT.xch {w : World} {b c : Nat} {L : List TI} (h : RowT w b c L) {i j : Nat} (hi : i < L.length) (hj : j < L.length) : RowT ((w.setCells b (i * 4) (ati L j).1.cells).setCells b (j * 4) (ati L i).1.cells) b c (swp L i j) := by
  obtain ⟨cs, hb, hs, hc, h1⟩ := h
  refine ⟨_, blk_setCells _ _ _ _ (blk_setCells _ _ _ _ hb), by rw [setL_size, setL_size]; exact hs, by rw [swp_len]; exact hc, ?_⟩
  exact cellsAt_set (cellsAt_set h1 hi (ati L j)) (by rw [List.length_set]; exact hj) (ati L i)
theorem fr_swp {w : World} {b i j : Nat} (u v : List Value) : Fr (· = b) w ((w.setCells b i u).setCells b j v) := fr_setCells (S := (· = b)) rfl _ _ (fr_setCells (S := (· = b)) rfl _ _ (Fr.refl _ w))
/-- As World.setCells writes it out. -/
theorem RowT.put2 {w : World} {b c : Nat} {L : List TI} (h : RowT w b c L) {i j : Nat} (hi : i < L.length) (hj : j < L.length) {w' : World}
    (e : w' = (w.setCells b (i * 4) (ati L j).1.cells).setCells b (j * 4) (ati L i).1.cells) : RowT w' b c (swp L i j) ∧ Fr (· = b) w w' := by
  subst e; exact ⟨h.xch hi hj, fr_swp _ _⟩

/-- What sorting walks over: the aging in block g, the items in block b. -/
structure Srtr (w : World) (g b c : Nat) (y : Int) (L : List TI) : Prop where
  blk : Blk w g 2 #[.int .i64 y]
  row : RowT w b c L
  ok : ∀ i, i < L.length → Ok (ati L i).1
  y0 : 1 ≤ y
  y1 : y ≤ 68719476736
theorem Srtr.ne {w : World} {g b c : Nat} {y : Int} {L : List TI} (h : Srtr w g b c y L) : g ≠ b := by
  obtain ⟨cs, hb, _⟩ := h.row
  exact h.blk.ne_ hb (by decide)
theorem Srtr.fr {w w' : World} {g b c : Nat} {y : Int} {L : List TI} (h : Srtr w g b c y L) (hf : Fr No w w') : Srtr w' g b c y L :=
  ⟨h.blk.fr hf (fun x => x), h.row.fr hf (fun x => x), h.ok, h.y0, h.y1⟩
theorem Srtr.xch {w w' : World} {g b c : Nat} {y : Int} {L : List TI} (h : Srtr w g b c y L) {i j : Nat} (hi : i < L.length) (hj : j < L.length) (hr : RowT w' b c (swp L i j)) (hf : Fr (· = b) w w') : Srtr w' g b c y (swp L i j) :=
  ⟨h.blk.fr hf h.ne, hr, fun k hk => by
    rw [swp_at hi hj]
    by_cases e1 : k = i
    · rw [if_pos e1]; exact h.ok j hj
    · rw [if_neg e1]
      by_cases e2 : k = j
      · rw [if_pos e2]; exact h.ok i hi
      · rw [if_neg e2]; rw [swp_len] at hk; exact h.ok k hk, h.y0, h.y1⟩
/-- The comparison, at two places of the row. -/
theorem Srtr.cmp {w : World} {g b c : Nat} {y : Int} {L : List TI} (h : Srtr w g b c y L) {i j : Nat} (hi : i < L.length) (hj : j < L.length) (X : World) (hf : Fr No w X) :
    Calls Try.prog 45 #[.agg #[.int .i64 (ati L i).1.id, .int .i64 (ati L i).1.pr, .int .i64 (ati L i).1.since, .int .i64 (ati L i).1.seq], .agg #[.int .i64 (ati L j).1.id, .int .i64 (ati L j).1.pr, .int .i64 (ati L j).1.since, .int .i64 (ati L j).1.seq], .pointer (some ⟨g, 0, none⟩)] X fun e w' => e = .returned (.int .i64 (ordI y (ati L i).1 (ati L j).1)) ∧ Fr No X w' :=
  ord_any g _ _ y X (h.blk.fr hf (fun x => x)) (h.ok i hi) (h.ok j hj) h.y0 h.y1
end Go.Proofs.Ytabajcofddhelaa
