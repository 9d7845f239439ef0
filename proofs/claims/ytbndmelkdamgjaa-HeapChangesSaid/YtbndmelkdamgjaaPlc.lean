/- Where the ids stand; what an array of entries holds. No program stands here. -/
import Derived.Test.YtbndmelkdamgjaaView
namespace Go.Proofs.Ytbndmelkdamgjaa
open Go.RowKit Go.Wk
section
variable {V : Type} [Inhabited V] {l : List (En V)} {f : Int → Option Int} {i k : Nat}
theorem mem_at {e : En V} : e ∈ l ↔ ∃ i, i < l.length ∧ l.getD i default = e := by
  constructor
  · intro h
    obtain ⟨i, hi, rfl⟩ := List.getElem_of_mem h
    exact ⟨i, hi, by simp [hi]⟩
  · rintro ⟨i, hi, rfl⟩
    have : l.getD i default = l[i] := by simp [hi]
    rw [this]; exact List.getElem_mem _
theorem at_mem (h : i < l.length) : l.getD i default ∈ l := mem_at.2 ⟨i, h, rfl⟩
theorem mem_swp (hi : i < l.length) (hk : k < l.length) (e : En V) : e ∈ swp l i k ↔ e ∈ l := by
  rw [mem_at, mem_at, swp_length]
  constructor
  · rintro ⟨j, hj, h⟩
    rw [swp_get l hi hk] at h
    by_cases e1 : j = k
    · rw [if_pos e1] at h; exact ⟨i, hi, h⟩
    · rw [if_neg e1] at h
      by_cases e2 : j = i
      · rw [if_pos e2] at h; exact ⟨k, hk, h⟩
      · rw [if_neg e2] at h; exact ⟨j, hj, h⟩
  · rintro ⟨j, hj, h⟩
    by_cases e1 : j = i
    · exact ⟨k, hk, by rw [swp_get l hi hk, if_pos rfl, ← e1]; exact h⟩
    · by_cases e2 : j = k
      · by_cases e3 : i = k
        · exact ⟨k, hk, by rw [swp_get l hi hk, if_pos rfl, e3, ← e2]; exact h⟩
        · exact ⟨i, hi, by rw [swp_get l hi hk, if_neg e3, if_pos rfl, ← e2]; exact h⟩
      · exact ⟨j, hj, by rw [swp_get l hi hk, if_neg e2, if_neg e1]; exact h⟩

/-- The map says where each id stands. -/
def PlaceOf (f : Int → Option Int) (l : List (En V)) : Prop := ∀ x q, f x = some q ↔ ∃ i : Nat, i < l.length ∧ (l.getD i default).id = x ∧ q = i
theorem PlaceOf.nil : PlaceOf (fun _ => none) ([] : List (En V)) := fun x q => ⟨fun h => (by cases h), fun ⟨i, h, _⟩ => (by simp at h)⟩
theorem PlaceOf.at_ (h : PlaceOf f l) (hi : i < l.length) : f (l.getD i default).id = some (i : Int) := (h _ _).2 ⟨i, hi, rfl, rfl⟩
theorem PlaceOf.inj (h : PlaceOf f l) (hi : i < l.length) (hk : k < l.length) (e : (l.getD i default).id = (l.getD k default).id) : i = k := by
  have a := h.at_ hi
  rw [e, h.at_ hk] at a
  injection a with a
  omega
theorem PlaceOf.isSome (h : PlaceOf f l) (x : Int) : (f x).isSome = l.any (fun e => e.id == x) := by
  cases hx : f x with
  | none =>
    symm
    simp only [Option.isSome_none, List.any_eq_false]
    intro e he
    obtain ⟨i, hi, rfl⟩ := mem_at.1 he
    intro h2
    have := (h x i).2 ⟨i, hi, by simpa using h2, rfl⟩
    rw [hx] at this; cases this
  | some q =>
    obtain ⟨i, hi, hid, _⟩ := (h x q).1 hx
    symm
    simp only [Option.isSome_some, List.any_eq_true]
    exact ⟨_, at_mem hi, by simpa using hid⟩
theorem PlaceOf.swp (h : PlaceOf f l) (hi : i < l.length) (hk : k < l.length) (hik : i ≠ k) :
    PlaceOf (fun z => if z = (l.getD i default).id then some (k : Int) else if z = (l.getD k default).id then some (i : Int) else f z) (swp l i k) := by
  intro x q
  dsimp only
  rw [swp_length]
  constructor
  · intro hq
    by_cases e1 : x = (l.getD i default).id
    · rw [if_pos e1] at hq
      injection hq with hq
      exact ⟨k, hk, by rw [swp_get l hi hk, if_pos rfl, e1], hq.symm⟩
    · rw [if_neg e1] at hq
      by_cases e2 : x = (l.getD k default).id
      · rw [if_pos e2] at hq
        injection hq with hq
        exact ⟨i, hi, by rw [swp_get l hi hk, if_neg hik, if_pos rfl, e2], hq.symm⟩
      · rw [if_neg e2] at hq
        obtain ⟨j, hj, hid, rfl⟩ := (h x q).1 hq
        exact ⟨j, hj, by rw [swp_get l hi hk, if_neg (fun e => e2 (by rw [← e]; exact hid.symm)), if_neg (fun e => e1 (by rw [← e]; exact hid.symm))]; exact hid, rfl⟩
  · rintro ⟨j, hj, hid, rfl⟩
    rw [swp_get l hi hk] at hid
    by_cases e1 : j = k
    · rw [if_pos e1] at hid
      rw [if_pos hid.symm, e1]
    · rw [if_neg e1] at hid
      by_cases e2 : j = i
      · rw [if_pos e2] at hid
        rw [if_neg (fun e => hik (h.inj hi hk (by rw [hid]; exact e.symm))), if_pos hid.symm, e2]
      · rw [if_neg e2] at hid
        rw [if_neg (fun e => e2 (h.inj hj hi (hid.trans e))), if_neg (fun e => e1 (h.inj hj hk (hid.trans e)))]
        exact (h x j).2 ⟨j, hj, hid, rfl⟩
theorem PlaceOf.push (h : PlaceOf f l) (e : En V) (hn : f e.id = none) : PlaceOf (fun z => if z = e.id then some (l.length : Int) else f z) (l ++ [e]) := by
  have lt : ∀ j, j < l.length → (l ++ [e]).getD j default = l.getD j default := fun j hj => by
    simp [List.getElem?_append_left hj]
  have last : (l ++ [e]).getD l.length default = e := by simp
  intro x q
  dsimp only
  rw [List.length_append, List.length_singleton]
  constructor
  · intro hq
    by_cases e1 : x = e.id
    · rw [if_pos e1] at hq
      injection hq with hq
      exact ⟨l.length, by omega, by rw [last, e1], hq.symm⟩
    · rw [if_neg e1] at hq
      obtain ⟨j, hj, hid, rfl⟩ := (h x q).1 hq
      exact ⟨j, by omega, by rw [lt j hj]; exact hid, rfl⟩
  · rintro ⟨j, hj, hid, rfl⟩
    by_cases hjl : j = l.length
    · subst hjl
      rw [last] at hid
      rw [if_pos hid.symm]
    · have hj2 : j < l.length := by omega
      rw [lt j hj2] at hid
      have a := (h x j).2 ⟨j, hj2, hid, rfl⟩
      rw [if_neg (fun e1 => by rw [e1, hn] at a; cases a)]
      exact a
/-- What taking the entry i leaves. -/
def cut (l : List (En V)) (i : Nat) : List (En V) := (l.set i (l.getD (l.length - 1) default)).take (l.length - 1)
theorem cut_len : (cut l i).length = l.length - 1 := by simp [cut]
theorem cut_get (hi : i < l.length) {j : Nat} (hj : j < l.length - 1) : (cut l i).getD j default = if j = i then l.getD (l.length - 1) default else l.getD j default := by
  unfold cut
  have : ((l.set i (l.getD (l.length - 1) default)).take (l.length - 1)).getD j default = (l.set i (l.getD (l.length - 1) default)).getD j default := by
    simp only [List.getD_eq_getElem?_getD]
    rw [List.getElem?_take, if_pos hj]
  rw [this, getD_set _ _ _ _ hi]
theorem PlaceOf.cut (h : PlaceOf f l) (hi : i < l.length) :
    PlaceOf (fun z => if i < l.length - 1 ∧ z = (l.getD (l.length - 1) default).id then some (i : Int) else if z = (l.getD i default).id then none else f z) (cut l i) := by
  have hn : l.length - 1 < l.length := by omega
  intro x q
  dsimp only
  rw [cut_len]
  constructor
  · intro hq
    by_cases e1 : i < l.length - 1 ∧ x = (l.getD (l.length - 1) default).id
    · rw [if_pos e1] at hq
      injection hq with hq
      exact ⟨i, e1.1, by rw [cut_get hi e1.1, if_pos rfl, e1.2], hq.symm⟩
    · rw [if_neg e1] at hq
      by_cases e2 : x = (l.getD i default).id
      · rw [if_pos e2] at hq; cases hq
      · rw [if_neg e2] at hq
        obtain ⟨j, hj, hid, rfl⟩ := (h x q).1 hq
        have hji : j ≠ i := fun e => e2 (by rw [← e]; exact hid.symm)
        have hjn : j < l.length - 1 := by
          rcases Nat.lt_or_ge j (l.length - 1) with h3 | h3
          · exact h3
          · have hj3 : j = l.length - 1 := by omega
            have : i < l.length - 1 := by omega
            exact absurd ⟨this, by rw [← hj3]; exact hid.symm⟩ e1
        exact ⟨j, hjn, by rw [cut_get hi hjn, if_neg hji]; exact hid, rfl⟩
  · rintro ⟨j, hj, hid, rfl⟩
    rw [cut_get hi hj] at hid
    by_cases e1 : j = i
    · rw [if_pos e1] at hid
      rw [if_pos ⟨by omega, hid.symm⟩, e1]
    · rw [if_neg e1] at hid
      rw [if_neg (fun e => by have := h.inj (by omega) hn (hid.trans e.2); omega), if_neg (fun e => e1 (h.inj (by omega) hi (hid.trans e)))]
      exact (h x j).2 ⟨j, by omega, hid, rfl⟩
theorem mem_cut (h : PlaceOf f l) (hi : i < l.length) (e : En V) : e ∈ Proofs.Ytbndmelkdamgjaa.cut l i ↔ e ∈ l ∧ e.id ≠ (l.getD i default).id := by
  have hn : l.length - 1 < l.length := by omega
  rw [mem_at, mem_at, cut_len]
  constructor
  · rintro ⟨j, hj, rfl⟩
    rw [cut_get hi hj]
    by_cases e1 : j = i
    · rw [if_pos e1]
      exact ⟨⟨_, hn, rfl⟩, fun e2 => by have := h.inj hn hi e2; omega⟩
    · rw [if_neg e1]
      exact ⟨⟨j, by omega, rfl⟩, fun e2 => e1 (h.inj (by omega) hi e2)⟩
  · rintro ⟨⟨j, hj, rfl⟩, hne⟩
    have hji : j ≠ i := fun e => hne (by rw [e])
    by_cases e2 : j = l.length - 1
    · have : i < l.length - 1 := by omega
      exact ⟨i, this, by rw [cut_get hi this, if_pos rfl, e2]⟩
    · exact ⟨j, by omega, by rw [cut_get hi (by omega), if_neg hji]⟩
end
end Go.Proofs.Ytbndmelkdamgjaa
