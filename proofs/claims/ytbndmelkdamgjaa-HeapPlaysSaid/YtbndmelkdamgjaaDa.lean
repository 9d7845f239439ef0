/- The document's heap as a list in the order of pushes; how it goes with the heap's order. No program's code is walked here. -/
import Derived.Test.YtbndmelkdamgjaaItT
namespace Go.Proofs.Ytbndmelkdamgjaa.It
open Go.RowKit Go.Wk

/-- Which of two items comes first. -/
def befI (a b : IV) : Bool := if a.pr = b.pr then decide (a.since < b.since) else decide (b.pr < a.pr)
theorem befI_iff (a b : IV) : befI a b = true ↔ (a.pr = b.pr ∧ a.since < b.since) ∨ (a.pr ≠ b.pr ∧ b.pr < a.pr) := by
  unfold befI
  by_cases h : a.pr = b.pr <;> simp [h]
theorem befI_no (a b : IV) : befI a b = false ↔ ¬ ((a.pr = b.pr ∧ a.since < b.since) ∨ (a.pr ≠ b.pr ∧ b.pr < a.pr)) := by
  rw [← befI_iff, Bool.not_eq_true]
theorem weak_I : Weak befI := ⟨fun a => by rw [befI_no]; omega, fun a b c h1 h2 => by rw [befI_iff] at *; omega, fun a b c h1 h2 => by rw [befI_no] at *; omega⟩

/-- The heap's entries in order, and the document's in the order of pushes. -/
structure Rel (s L : List (En IV)) : Prop where
  so : Sorted befI s
  me : ∀ e, e ∈ s ↔ e ∈ L
  ln : s.length = L.length
  up : L.Pairwise (fun a b => a.p < b.p)
theorem Rel.nil : Rel [] [] := ⟨List.Pairwise.nil, fun _ => Iff.rfl, rfl, List.Pairwise.nil⟩
theorem Rel.push {s L : List (En IV)} (h : Rel s L) {e : En IV} (hp : ∀ a ∈ s, a.p < e.p) : Rel (ins befI e s) (L ++ [e]) := by
  refine ⟨ins_sorted weak_I e s h.so (fun a ha => by have := hp a ha; omega), fun x => ?_, by rw [ins_len, List.length_append, h.ln]; rfl, ?_⟩
  · rw [mem_ins, List.mem_append, h.me]
    simp only [List.mem_singleton]
    exact Or.comm
  · rw [List.pairwise_append]
    refine ⟨h.up, by simp, fun a ha b hb => ?_⟩
    simp at hb
    subst hb
    exact hp a ((h.me a).2 ha)
theorem Rel.ids {s L : List (En IV)} (h : Rel s L) (x : Int) : x ∈ ids s ↔ x ∈ Proofs.Ytbndmelkdamgjaa.ids L := by
  unfold Proofs.Ytbndmelkdamgjaa.ids
  simp only [List.mem_map]
  exact ⟨fun ⟨e, he, h1⟩ => ⟨e, (h.me e).1 he, h1⟩, fun ⟨e, he, h1⟩ => ⟨e, (h.me e).2 he, h1⟩⟩
theorem eraseIdx_mem {L : List (En IV)} (hu : L.Pairwise (fun a b => a.p < b.p)) {i : Nat} (hi : i < L.length) (e : En IV) : e ∈ L.eraseIdx i ↔ e ∈ L ∧ e ≠ L.getD i default := by
  have hg : ∀ j (hj : j < L.length), L.getD j default = L[j] := fun j hj => by simp [hj]
  have hne : ∀ j k (hj : j < L.length) (hk : k < L.length), L[j] = L[k] → j = k := fun j k hj hk e => by
    rcases Nat.lt_trichotomy j k with h | h | h
    · have := List.pairwise_iff_getElem.1 hu j k hj hk h
      rw [e] at this; omega
    · exact h
    · have := List.pairwise_iff_getElem.1 hu k j hk hj h
      rw [e] at this; omega
  rw [hg i hi, List.mem_eraseIdx_iff_getElem]
  constructor
  · rintro ⟨j, hj, hji, rfl⟩
    exact ⟨List.getElem_mem _, fun e => hji (hne _ _ _ _ e)⟩
  · rintro ⟨hm, h2⟩
    obtain ⟨j, hj, rfl⟩ := List.getElem_of_mem hm
    exact ⟨j, hj, fun e => h2 (by subst e; rfl), rfl⟩
theorem Rel.cut {s L : List (En IV)} (h : Rel s L) (hn : (Proofs.Ytbndmelkdamgjaa.ids s).Nodup) {i : Nat} (hi : i < L.length) : Rel (del (L.getD i default).id s) (L.eraseIdx i) := by
  have hm : L.getD i default ∈ s := (h.me _).2 (at_mem hi)
  refine ⟨del_sorted _ h.so, fun e => ?_, ?_, h.up.sublist (List.eraseIdx_sublist _ _)⟩
  · rw [mem_del, eraseIdx_mem h.up hi, h.me]
    constructor
    · rintro ⟨h1, h2⟩
      exact ⟨h1, fun e1 => h2 (by rw [e1])⟩
    · rintro ⟨h1, h2⟩
      refine ⟨h1, fun e1 => h2 ?_⟩
      have hs := (h.me e).2 h1
      obtain ⟨j, hj, rfl⟩ := List.getElem_of_mem hs
      obtain ⟨k, hk, e3⟩ := List.getElem_of_mem hm
      have hj2 : j < (Proofs.Ytbndmelkdamgjaa.ids s).length := by simpa [Proofs.Ytbndmelkdamgjaa.ids] using hj
      have hk2 : k < (Proofs.Ytbndmelkdamgjaa.ids s).length := by simpa [Proofs.Ytbndmelkdamgjaa.ids] using hk
      have e4 : (Proofs.Ytbndmelkdamgjaa.ids s)[j] = (Proofs.Ytbndmelkdamgjaa.ids s)[k] := by
        simp only [Proofs.Ytbndmelkdamgjaa.ids, List.getElem_map]
        rw [e3, e1]
      have : j = k := (List.getElem_inj hn).1 e4
      subst this
      exact e3
  · rw [del_len hn (List.mem_map.2 ⟨_, hm, rfl⟩), h.ln, List.length_eraseIdx, if_pos hi]
/-- The entry at k comes before all others. -/
def Fst (L : List (En IV)) (k : Nat) : Prop := k < L.length ∧ ∀ j, j < L.length → j ≠ k → fst befI (L.getD k default) (L.getD j default) = true
theorem Rel.head {s L : List (En IV)} (h : Rel s L) {k : Nat} (hf : Fst L k) : ∃ t, s = L.getD k default :: t := by
  match s, h with
  | [], h => have := h.ln; have := hf.1; simp at *; omega
  | a :: t, h =>
    obtain ⟨ha, _⟩ := List.pairwise_cons.1 h.so
    obtain ⟨j, hj, hja⟩ := mem_at.1 ((h.me a).1 (List.mem_cons_self ..))
    by_cases e : j = k
    · subst e; exact ⟨t, by rw [hja]⟩
    · have h1 := hf.2 j hj e
      rw [hja] at h1
      have hm : L.getD k default ∈ a :: t := (h.me _).2 (at_mem hf.1)
      rcases List.mem_cons.1 hm with e2 | e2
      · exact ⟨t, by rw [e2]⟩
      · have h2 := ha _ e2
        rw [fst_asym weak_I h2] at h1; cases h1
/-- The search for the first one. -/
def FstI (L : List (En IV)) (i k : Nat) : Prop := k < i ∧ ∀ j, j < i → j ≠ k → fst befI (L.getD k default) (L.getD j default) = true
theorem FstI.one (L : List (En IV)) : FstI L 1 0 := ⟨by omega, fun j h1 h2 => by omega⟩
theorem FstI.step {L : List (En IV)} (hu : L.Pairwise (fun a b => a.p < b.p)) {i k : Nat} (h : FstI L i k) (hi : i < L.length) :
    FstI L (i + 1) (if befI (L.getD i default).v (L.getD k default).v then i else k) := by
  obtain ⟨hk, hj⟩ := h
  by_cases hb : befI (L.getD i default).v (L.getD k default).v = true
  · rw [if_pos hb]
    have h1 : fst befI (L.getD i default) (L.getD k default) = true := fst_true.2 (.inl hb)
    refine ⟨by omega, fun j h2 h3 => ?_⟩
    by_cases e : j = k
    · rw [e]; exact h1
    · exact fst_tr weak_I h1 (hj j (by omega) e)
  · rw [if_neg hb]
    refine ⟨by omega, fun j h2 h3 => ?_⟩
    by_cases e : j = i
    · subst e
      have hp : (L.getD k default).p < (L.getD j default).p := by
        have := List.pairwise_iff_getElem.1 hu k j (by omega) hi (by omega)
        have g1 : L.getD k default = L[k]'(by omega) := by simp [show k < L.length by omega]
        have g2 : L.getD j default = L[j] := by simp [hi]
        rw [g1, g2]; exact this
      rw [fst_true]
      rw [Bool.not_eq_true] at hb
      exact .inr ⟨hb, hp⟩
    · exact hj j (by omega) h3
theorem FstI.done {L : List (En IV)} {k : Nat} (h : FstI L L.length k) : Fst L k := h

/-! ### The document's cells -/
/-- An entry of the document's as an entry of five cells: the id, three cells, the last. -/
structure TV where
  a : Int
  b : Int
  c : Int
instance : Inhabited TV := ⟨⟨0, 0, 0⟩⟩
def CD : Cod TV := ⟨3, fun v => [.int .i64 v.a, .int .i64 v.b, .int .i64 v.c], fun _ => rfl, fun _ u hu => by simp at hu; rcases hu with rfl | rfl | rfl <;> rfl⟩
def tv (e : En IV) : En TV := ⟨e.id, ⟨e.v.id, e.v.pr, e.v.since⟩, e.v.seq⟩
def dcells (L : List (En IV)) : List Value := ecells CD (L.map tv)
theorem dcells_len (L : List (En IV)) : (dcells L).length = L.length * 5 := by
  unfold dcells
  rw [ecells_len, List.length_map]; rfl
theorem dcells_app (L M : List (En IV)) : dcells (L ++ M) = dcells L ++ dcells M := by
  unfold dcells
  rw [List.map_append, ecells_app]
theorem dcells_one (L : List (En IV)) : ∀ u ∈ dcells L, u.oneCell' = true := ecells_one CD _
theorem dcells_take (L : List (En IV)) (k : Nat) : (dcells L).take (k * 5) = dcells (L.take k) := by
  unfold dcells
  rw [List.map_take, ← ecells_take CD]; rfl
theorem dcells_drop (L : List (En IV)) (k : Nat) : (dcells L).drop (k * 5) = dcells (L.drop k) := by
  have h := List.take_append_drop (k * 5) (dcells L)
  have h2 : dcells L = dcells (L.take k) ++ dcells (L.drop k) := by rw [← dcells_app, List.take_append_drop]
  rw [dcells_take] at h
  exact List.append_cancel_left (h.trans h2)
theorem dcells_get (L : List (En IV)) {i j : Nat} (hi : i < L.length) (hj : j < 5) : (dcells L)[i * 5 + j]? = [Value.int .i64 (L.getD i default).id, .int .i64 (L.getD i default).v.id, .int .i64 (L.getD i default).v.pr, .int .i64 (L.getD i default).v.since, .int .i64 (L.getD i default).v.seq][j]? := by
  unfold dcells
  have h := ecells_get CD (L.map tv) i j (by simpa using hi) hj
  have e : (L.map tv).getD i default = tv (L.getD i default) := by simp [hi]
  rw [e] at h
  exact h
/-- A slice that reads as the document's entries. -/
theorem Reads.dent {w : World} {B n k : Nat} {A : Option Addr} {L : List (En IV)} (h : Reads w B 5 A n (dcells L)) (hk : k < n) :
    ∃ b off, A = some ⟨b, off, none⟩ ∧ b < B ∧ w.cell? ⟨b, off + k * 5, none⟩ = some (.int .i64 (L.getD k default).id) ∧ w.cell? ⟨b, off + k * 5 + 1, none⟩ = some (.int .i64 (L.getD k default).v.id) ∧ w.cell? ⟨b, off + k * 5 + 2, none⟩ = some (.int .i64 (L.getD k default).v.pr) ∧ w.cell? ⟨b, off + k * 5 + 3, none⟩ = some (.int .i64 (L.getD k default).v.since) ∧ w.cell? ⟨b, off + k * 5 + 4, none⟩ = some (.int .i64 (L.getD k default).v.seq) := by
  have hl : L.length = n := by have := h.1; rw [dcells_len] at this; omega
  obtain ⟨ad, rfl, hb, hc⟩ := h.2 (by omega)
  have hx : 0 < (dcells L).length := by rw [dcells_len]; omega
  have h0 := hc 0 _ (List.getElem?_eq_getElem hx)
  obtain ⟨b, off, spot⟩ := ad
  have hs : spot = none := by simpa [Addr.add] using World.cell?_spot h0
  subst hs
  have key := fun (j : Nat) (hj : j < 5) u (hu : _ = some u) => (by rw [← add_plain]; exact hc (k * 5 + j) u ((dcells_get L (by omega) hj).trans hu) : w.cell? ⟨b, off + (k * 5 + j), none⟩ = some u)
  simp only [Nat.add_assoc]
  exact ⟨b, off, rfl, hb, key 0 (by omega) _ rfl, key 1 (by omega) _ rfl, key 2 (by omega) _ rfl, key 3 (by omega) _ rfl, key 4 (by omega) _ rfl⟩
end Go.Proofs.Ytbndmelkdamgjaa.It
