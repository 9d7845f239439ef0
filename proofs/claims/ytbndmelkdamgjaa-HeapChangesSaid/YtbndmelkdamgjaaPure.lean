/- The order of a heap's entries and the moves up and down, as pure lists. No program stands here. -/
import Derived.Test.YtbndmelkdamgjaaOwn
namespace Go.Proofs.Ytbndmelkdamgjaa
/-- An entry: its id, its value, how many pushes there were before. -/
structure En (V : Type) where
  id : Int
  v : V
  p : Int
variable {V : Type}
def fst (bf : V → V → Bool) (a b : En V) : Bool := bf a.v b.v || (!bf b.v a.v && decide (a.p < b.p))
/-- A strict weak order. -/
structure Weak (bf : V → V → Bool) : Prop where
  irr : ∀ a, bf a a = false
  tr : ∀ a b c, bf a b = true → bf b c = true → bf a c = true
  neg : ∀ a b c, bf a b = false → bf b c = false → bf a c = false
variable {bf : V → V → Bool}
theorem fst_false {a b : En V} : fst bf a b = false ↔ bf a.v b.v = false ∧ (bf b.v a.v = true ∨ b.p ≤ a.p) := by
  unfold fst
  cases bf a.v b.v <;> cases bf b.v a.v <;> simp
theorem fst_true {a b : En V} : fst bf a b = true ↔ bf a.v b.v = true ∨ (bf b.v a.v = false ∧ a.p < b.p) := by
  unfold fst
  cases bf a.v b.v <;> cases bf b.v a.v <;> simp
theorem fst_irr (h : Weak bf) (a : En V) : fst bf a a = false := fst_false.2 ⟨h.irr _, .inr (Int.le_refl _)⟩
theorem Weak.asym (h : Weak bf) {a b : V} (e : bf a b = true) : bf b a = false := by
  cases hb : bf b a
  · rfl
  · have := h.tr _ _ _ e hb
    rw [h.irr] at this; cases this
/-- Not before is transitive. -/
theorem fst_neg (h : Weak bf) {a b c : En V} (h1 : fst bf a b = false) (h2 : fst bf b c = false) : fst bf a c = false := by
  rw [fst_false] at *
  refine ⟨h.neg _ _ _ h1.1 h2.1, ?_⟩
  cases hc : bf c.v a.v
  · right
    have h3 : bf b.v a.v = false := h.neg _ _ _ h2.1 hc
    have h4 : bf c.v b.v = false := h.neg _ _ _ hc h1.1
    have h5 := h1.2
    have h6 := h2.2
    rw [h3] at h5
    rw [h4] at h6
    simp at h5 h6
    omega
  · exact .inl rfl
theorem fst_tr (h : Weak bf) {a b c : En V} (h1 : fst bf a b = true) (h2 : fst bf b c = true) : fst bf a c = true := by
  cases hc : fst bf a c
  · exfalso
    cases hb : fst bf b a
    · have := fst_neg h hb hc
      rw [this] at h2; cases h2
    · rw [fst_true] at h1 hb
      rcases h1 with e | ⟨e, e1⟩ <;> rcases hb with f | ⟨f, f1⟩
      · rw [h.asym e] at f; cases f
      · rw [e] at f; cases f
      · rw [f] at e; cases e
      · omega
  · rfl
theorem fst_asym (h : Weak bf) {a b : En V} (e : fst bf a b = true) : fst bf b a = false := by
  cases hb : fst bf b a
  · rfl
  · have := fst_tr h e hb
    rw [fst_irr h] at this; cases this
/-- One comes before another with another number of pushes, or the other way. -/
theorem fst_total {a b : En V} (hp : a.p ≠ b.p) (h1 : fst bf a b = false) : fst bf b a = true := by
  rw [fst_false] at h1
  rw [fst_true]
  rcases h1.2 with e | e
  · exact .inl e
  · exact .inr ⟨h1.1, by omega⟩

section
variable [Inhabited V]
instance : Inhabited (En V) := ⟨⟨0, default, 0⟩⟩
def par (i : Nat) : Nat := (i - 1) / 2
theorem par_lt {i : Nat} (h : 0 < i) : par i < i := by unfold par; omega
/-- No entry comes before its parent. -/
def HP (bf : V → V → Bool) (l : List (En V)) : Prop := ∀ j, 0 < j → j < l.length → fst bf (l.getD j default) (l.getD (par j) default) = false
/-- The same but perhaps at i, which may have to go up. -/
def UpI (bf : V → V → Bool) (l : List (En V)) (i : Nat) : Prop :=
  (∀ j, 0 < j → j < l.length → j ≠ i → fst bf (l.getD j default) (l.getD (par j) default) = false) ∧
  (0 < i → ∀ j, 0 < j → j < l.length → par j = i → fst bf (l.getD j default) (l.getD (par i) default) = false)
/-- The same but perhaps around i, which may have to go up or down. -/
def DnI (bf : V → V → Bool) (l : List (En V)) (i : Nat) : Prop :=
  (∀ j, 0 < j → j < l.length → j ≠ i → par j ≠ i → fst bf (l.getD j default) (l.getD (par j) default) = false) ∧
  (0 < i → ∀ j, 0 < j → j < l.length → par j = i → fst bf (l.getD j default) (l.getD (par i) default) = false)
/-- The same but perhaps below i. -/
def DnB (bf : V → V → Bool) (l : List (En V)) (i : Nat) : Prop :=
  (∀ j, 0 < j → j < l.length → par j ≠ i → fst bf (l.getD j default) (l.getD (par j) default) = false) ∧
  (0 < i → ∀ j, 0 < j → j < l.length → par j = i → fst bf (l.getD j default) (l.getD (par i) default) = false)
/-- Two entries exchanged. -/
def swp (l : List (En V)) (i k : Nat) : List (En V) := (l.set i (l.getD k default)).set k (l.getD i default)
theorem swp_length (l : List (En V)) (i k : Nat) : (swp l i k).length = l.length := by simp [swp]
theorem getD_set (l : List (En V)) (i j : Nat) (e : En V) (hi : i < l.length) : (l.set i e).getD j default = if j = i then e else l.getD j default := by
  by_cases h : j = i
  · subst h; simp [hi]
  · rw [if_neg h]
    simp [Ne.symm h]
theorem swp_get (l : List (En V)) {i k : Nat} (hi : i < l.length) (hk : k < l.length) (j : Nat) : (swp l i k).getD j default = if j = k then l.getD i default else if j = i then l.getD k default else l.getD j default := by
  unfold swp
  rw [getD_set _ _ _ _ (by simpa using hk), getD_set _ _ _ _ hi]
theorem HP.up (h : Weak bf) {l : List (En V)} (hl : HP bf l) (i : Nat) : UpI bf l i :=
  ⟨fun j h0 h1 _ => hl j h0 h1, fun hi j h0 h1 hj => by
    have a := hl j h0 h1
    rw [hj] at a
    have : i < l.length := by have := par_lt h0; omega
    exact fst_neg h a (hl i hi this)⟩
theorem UpI.stop {l : List (En V)} {i : Nat} (h : UpI bf l i) (hs : 0 < i → fst bf (l.getD i default) (l.getD (par i) default) = false) : HP bf l := fun j h0 h1 => by
  by_cases e : j = i
  · subst e; exact hs h0
  · exact h.1 j h0 h1 e
theorem UpI.step (hw : Weak bf) {l : List (En V)} {i : Nat} (h : UpI bf l i) (hi : 0 < i) (hl : i < l.length) (hs : fst bf (l.getD i default) (l.getD (par i) default) = true) : UpI bf (swp l i (par i)) (par i) := by
  have hp := par_lt hi
  have hpl : par i < l.length := by omega
  refine ⟨fun j h0 h1 hj => ?_, fun hpi j h0 h1 hj => ?_⟩
  · rw [swp_length] at h1
    rw [swp_get l hl hpl, swp_get l hl hpl, if_neg hj]
    by_cases e : j = i
    · subst e
      rw [if_pos rfl, if_pos rfl]
      exact fst_asym hw hs
    · rw [if_neg e]
      by_cases e2 : par j = par i
      · rw [if_pos e2]
        have a := h.1 j h0 h1 e
        rw [e2] at a
        cases hc : fst bf (l.getD j default) (l.getD i default)
        · rfl
        · have := fst_tr hw hc hs
          rw [a] at this; cases this
      · rw [if_neg e2]
        by_cases e3 : par j = i
        · rw [if_pos e3]
          exact h.2 hi j h0 h1 e3
        · rw [if_neg e3]
          exact h.1 j h0 h1 e
  · rw [swp_length] at h1
    have hpp := par_lt hpi
    rw [swp_get l hl hpl, swp_get l hl hpl, if_neg (by omega : ¬ par (par i) = par i), if_neg (by omega : ¬ par (par i) = i)]
    have up := h.1 (par i) hpi hpl (by omega)
    by_cases e : j = par i
    · have := par_lt h0; omega
    · rw [if_neg e]
      by_cases e2 : j = i
      · rw [if_pos e2]
        exact up
      · rw [if_neg e2]
        have a := h.1 j h0 h1 e2
        rw [hj] at a
        exact fst_neg hw a up
theorem DnB.dn {l : List (En V)} {i : Nat} (h : DnB bf l i) : DnI bf l i := ⟨fun j h0 h1 _ h2 => h.1 j h0 h1 h2, h.2⟩
theorem DnI.stop {l : List (En V)} {i : Nat} (h : DnI bf l i) (hs : ∀ c, 0 < c → c < l.length → par c = i → fst bf (l.getD c default) (l.getD i default) = false) : UpI bf l i :=
  ⟨fun j h0 h1 hj => by
    by_cases e : par j = i
    · have := hs j h0 h1 e
      rw [← e] at this
      exact this
    · exact h.1 j h0 h1 hj e, h.2⟩
theorem DnB.stop {l : List (En V)} {i : Nat} (h : DnB bf l i) (hs : ∀ c, 0 < c → c < l.length → par c = i → fst bf (l.getD c default) (l.getD i default) = false) : HP bf l := fun j h0 h1 => by
  by_cases e : par j = i
  · have := hs j h0 h1 e
    rw [← e] at this
    exact this
  · exact h.1 j h0 h1 e
theorem DnI.step (hw : Weak bf) {l : List (En V)} {i c : Nat} (h : DnI bf l i) (hl : i < l.length) (hc0 : 0 < c) (hcl : c < l.length) (hci : par c = i) (hs : fst bf (l.getD c default) (l.getD i default) = true)
    (ho : ∀ j, 0 < j → j < l.length → par j = i → fst bf (l.getD j default) (l.getD c default) = false) : DnB bf (swp l i c) c := by
  have hp := par_lt hc0
  refine ⟨fun j h0 h1 hj => ?_, fun _ j h0 h1 hj => ?_⟩
  · rw [swp_length] at h1
    rw [swp_get l hl hcl, swp_get l hl hcl, if_neg hj]
    by_cases e : j = c
    · subst e
      rw [if_pos rfl, if_pos hci]
      exact fst_asym hw hs
    · rw [if_neg e]
      by_cases e2 : j = i
      · subst e2
        rw [if_pos rfl]
        have := par_lt h0
        rw [if_neg (by omega)]
        exact h.2 h0 c hc0 hcl hci
      · rw [if_neg e2]
        by_cases e3 : par j = i
        · rw [if_pos e3]
          exact ho j h0 h1 e3
        · rw [if_neg e3]
          exact h.1 j h0 h1 e2 e3
  · rw [swp_length] at h1
    have hj2 := par_lt h0
    rw [swp_get l hl hcl, swp_get l hl hcl, if_neg (by omega : ¬ par c = c), if_pos hci, if_neg (by omega : ¬ j = c), if_neg (by omega : ¬ j = i)]
    have a := h.1 j h0 h1 (by omega) (by omega)
    rw [hj] at a
    exact a
/-- What the search for the least around i has found by its round m. -/
def Lst (bf : V → V → Bool) (l : List (En V)) (i m k : Nat) : Prop :=
  (k = i ∨ (2 * i + 1 ≤ k ∧ k < 2 * i + 1 + m ∧ k < l.length ∧ fst bf (l.getD k default) (l.getD i default) = true)) ∧
  ∀ c, 2 * i + 1 ≤ c → c < 2 * i + 1 + m → c < l.length → fst bf (l.getD c default) (l.getD k default) = false
theorem Lst.zero (l : List (En V)) (i : Nat) : Lst bf l i 0 i := ⟨.inl rfl, fun c h1 h2 => by omega⟩
theorem Lst.keep {l : List (En V)} {i m k : Nat} (h : Lst bf l i m k) (hs : 2 * i + 1 + m < l.length → fst bf (l.getD (2 * i + 1 + m) default) (l.getD k default) = false) : Lst bf l i (m + 1) k :=
  ⟨h.1.imp_right (fun ⟨a, b, c⟩ => ⟨a, by omega, c⟩), fun c h1 h2 h3 => by
    by_cases e : c = 2 * i + 1 + m
    · subst e; exact hs h3
    · exact h.2 c h1 (by omega) h3⟩
theorem Lst.turn (hw : Weak bf) {l : List (En V)} {i m k : Nat} (h : Lst bf l i m k) (hl : 2 * i + 1 + m < l.length) (hs : fst bf (l.getD (2 * i + 1 + m) default) (l.getD k default) = true) : Lst bf l i (m + 1) (2 * i + 1 + m) := by
  refine ⟨.inr ⟨by omega, by omega, hl, ?_⟩, fun c h1 h2 h3 => ?_⟩
  · rcases h.1 with rfl | ⟨_, _, _, e⟩
    · exact hs
    · exact fst_tr hw hs e
  · by_cases e : c = 2 * i + 1 + m
    · subst e; exact fst_irr hw _
    · cases hc : fst bf (l.getD c default) (l.getD (2 * i + 1 + m) default)
      · rfl
      · have := fst_tr hw hc hs
        rw [h.2 c h1 (by omega) h3] at this; cases this
theorem Lst.two {l : List (En V)} {i k : Nat} (h : Lst bf l i 2 k) {c : Nat} (h0 : 0 < c) (hl : c < l.length) (hp : par c = i) : fst bf (l.getD c default) (l.getD k default) = false := by
  unfold par at hp
  exact h.2 c (by omega) (by omega) hl
theorem Lst.child {l : List (En V)} {i k : Nat} (h : Lst bf l i 2 k) (hk : k ≠ i) : 0 < k ∧ k < l.length ∧ par k = i ∧ fst bf (l.getD k default) (l.getD i default) = true := by
  rcases h.1 with e | ⟨a, b, c, d⟩
  · exact absurd e hk
  · refine ⟨by omega, c, ?_, d⟩
    unfold par; omega
end
end Go.Proofs.Ytbndmelkdamgjaa
