/- Lists of items in order, each item with its first index. No program stands here. -/
import Derived.Test.YtbndmelkdamgjaaU
namespace Go.Proofs.Ytbndmelkdamgjaa.So

/-- The keys by which is sorted, and where they may be asked. -/
structure KY where
  k : Int → Int
  ok : Int → Prop
abbrev TI := Int × Nat
def tz : TI := (0, 0)
def ati (L : List TI) (i : Nat) : TI := L.getD i tz
def ordI (y : KY) (a b : Int) : Int := y.k a - y.k b
theorem ordI_lt {y : KY} {a b : Int} : ordI y a b < 0 ↔ y.k a < y.k b := by unfold ordI; omega
def tlt (y : KY) (a b : TI) : Prop := y.k a.1 < y.k b.1 ∨ (y.k a.1 = y.k b.1 ∧ a.2 < b.2)
theorem tlt_trans {y : KY} {a b c : TI} (h : tlt y a b) (k : tlt y b c) : tlt y a c := by unfold tlt at *; omega
theorem tlt_irrefl {y : KY} {a : TI} (h : tlt y a a) : False := by unfold tlt at h; omega
theorem tlt_asymm {y : KY} {a b : TI} (h : tlt y a b) (k : tlt y b a) : False := tlt_irrefl (tlt_trans h k)
theorem tlt_total {y : KY} {a b : TI} (h : a.2 ≠ b.2) : tlt y a b ∨ tlt y b a := by unfold tlt; omega
/-- An item of a later index: the comparison tells. -/
theorem ord_tlt {y : KY} {a b : TI} (h : b.2 < a.2) : ordI y a.1 b.1 < 0 ↔ tlt y a b := by rw [ordI_lt]; unfold tlt; omega
theorem nord_tlt {y : KY} {a b : TI} (h : b.2 < a.2) : ¬ ordI y a.1 b.1 < 0 ↔ tlt y b a := by rw [ordI_lt]; unfold tlt; omega

theorem ati_get {L : List TI} {i : Nat} (h : i < L.length) : ati L i = L[i] := by simp [ati, h]
def swp (L : List TI) (i j : Nat) : List TI := (L.set i (ati L j)).set j (ati L i)
theorem swp_len (L : List TI) (i j : Nat) : (swp L i j).length = L.length := by simp [swp]
theorem swp_at {L : List TI} {i j : Nat} (hi : i < L.length) (hj : j < L.length) (k : Nat) : ati (swp L i j) k = if k = i then ati L j else if k = j then ati L i else ati L k := by
  unfold ati swp
  simp only [List.getD_eq_getElem?_getD, List.getElem?_set]
  by_cases h1 : k = i
  · subst h1
    rw [if_pos rfl]
    by_cases h2 : j = k
    · subst h2; simp [hj, ati]
    · simp [h2, hi, ati]
  · rw [if_neg h1]
    by_cases h2 : k = j
    · subst h2; simp [hj, ati]
    · simp [h2, Ne.symm h1, Ne.symm h2]
theorem swp_perm {L : List TI} {i j : Nat} (hi : i < L.length) (hj : j < L.length) : (swp L i j).Perm L := by
  unfold swp
  rw [ati_get hi, ati_get hj]
  exact List.set_set_perm hi hj

/-- Only the range from a up to e has turned. -/
structure Turn (a e : Nat) (L M : List TI) : Prop where
  perm : M.Perm L
  out : ∀ i, i < a ∨ e ≤ i → ati M i = ati L i
  inn : ∀ i, a ≤ i → i < e → ∃ j, a ≤ j ∧ j < e ∧ ati M i = ati L j
theorem Turn.refl (a e : Nat) (L : List TI) : Turn a e L L := ⟨List.Perm.refl _, fun _ _ => rfl, fun i h1 h2 => ⟨i, h1, h2, rfl⟩⟩
theorem Turn.trans {a e : Nat} {L M N : List TI} (h : Turn a e L M) (k : Turn a e M N) : Turn a e L N :=
  ⟨k.perm.trans h.perm, fun i hi => (k.out i hi).trans (h.out i hi), fun i h1 h2 => by
    obtain ⟨j, j1, j2, e1⟩ := k.inn i h1 h2
    obtain ⟨m, m1, m2, e2⟩ := h.inn j j1 j2
    exact ⟨m, m1, m2, e1.trans e2⟩⟩
theorem Turn.wide {a e a' e' : Nat} {L M : List TI} (h : Turn a e L M) (ha : a' ≤ a) (he : e ≤ e') : Turn a' e' L M :=
  ⟨h.perm, fun i hi => h.out i (by omega), fun i h1 h2 => by
    by_cases hh : i < a ∨ e ≤ i
    · exact ⟨i, h1, h2, h.out i hh⟩
    · obtain ⟨j, j1, j2, e1⟩ := h.inn i (by omega) (by omega)
      exact ⟨j, by omega, by omega, e1⟩⟩
theorem Turn.len {a e : Nat} {L M : List TI} (h : Turn a e L M) : M.length = L.length := h.perm.length_eq
theorem Turn.swp {a e i j : Nat} {L : List TI} (ha : a ≤ i) (hi : i < e) (ja : a ≤ j) (hj : j < e) (he : e ≤ L.length) : Turn a e L (swp L i j) :=
  ⟨swp_perm (by omega) (by omega), fun k hk => by rw [swp_at (by omega) (by omega), if_neg (by omega), if_neg (by omega)], fun k k1 k2 => by
    rw [swp_at (by omega) (by omega)]
    by_cases h1 : k = i
    · exact ⟨j, ja, hj, by rw [if_pos h1]⟩
    · rw [if_neg h1]
      by_cases h2 : k = j
      · exact ⟨i, ha, hi, by rw [if_pos h2]⟩
      · exact ⟨k, k1, k2, by rw [if_neg h2]⟩⟩

/-- From a up to e the items are in order. -/
def Srt (y : KY) (a e : Nat) (L : List TI) : Prop := ∀ i j, a ≤ i → i < j → j < e → tlt y (ati L i) (ati L j)
/-- .. and so are the indices. -/
def Tags (a e : Nat) (L : List TI) : Prop := ∀ i j, a ≤ i → i < j → j < e → (ati L i).2 < (ati L j).2
theorem Srt.same {y : KY} {a e : Nat} {L M : List TI} (h : Srt y a e L) (k : ∀ i, a ≤ i → i < e → ati M i = ati L i) : Srt y a e M := fun i j h1 h2 h3 => by
  rw [k i h1 (by omega), k j (by omega) h3]; exact h i j h1 h2 h3
theorem Tags.same {a e : Nat} {L M : List TI} (h : Tags a e L) (k : ∀ i, a ≤ i → i < e → ati M i = ati L i) : Tags a e M := fun i j h1 h2 h3 => by
  rw [k i h1 (by omega), k j (by omega) h3]; exact h i j h1 h2 h3

/-- Insertion sort: in front of round i. -/
structure InsI (y : KY) (a i : Nat) (L0 L : List TI) : Prop where
  turn : Turn a i L0 L
  srt : Srt y a i L
/-- .. and inside it, with the item at j. -/
structure InsJ (y : KY) (a i j : Nat) (L0 L : List TI) : Prop where
  turn : Turn a (i + 1) L0 L
  aj : a ≤ j
  ji : j ≤ i
  srt : ∀ p q, a ≤ p → p < q → q ≤ i → q ≠ j → tlt y (ati L p) (ati L q)
  tag : ∀ p, a ≤ p → p ≤ i → p ≠ j → (ati L p).2 < (ati L j).2
theorem InsI.first (y : KY) (a e : Nat) (L : List TI) (h : e ≤ a + 1) : InsI y a e L L := ⟨Turn.refl _ _ _, fun i j h1 h2 h3 => by omega⟩
theorem InsI.begin {y : KY} {a i e : Nat} {L0 L : List TI} (h : InsI y a i L0 L) (ha : a ≤ i) (hi : i < e) (ht : Tags a e L0) : InsJ y a i i L0 L :=
  ⟨h.turn.wide (Nat.le_refl _) (by omega), ha, Nat.le_refl _, fun p q h1 h2 h3 h4 => h.srt p q h1 h2 (by omega), fun p h1 h2 h3 => by
    obtain ⟨j, j1, j2, e1⟩ := h.turn.inn p h1 (by omega)
    rw [e1, h.turn.out i (by omega)]
    exact ht j i j1 j2 hi⟩
theorem InsJ.step {y : KY} {a i j : Nat} {L0 L : List TI} (h : InsJ y a i j L0 L) (hl : i < L.length) (hj : a < j) (hc : ordI y (ati L j).1 (ati L (j - 1)).1 < 0) : InsJ y a i (j - 1) L0 (swp L j (j - 1)) := by
  have ht := h.tag (j - 1) (by omega) (by have := h.ji; omega) (by omega)
  have hlt := (ord_tlt ht).1 hc
  have hji := h.ji
  have hat := fun k => swp_at (L := L) (i := j) (j := j - 1) (by omega) (by omega) k
  refine ⟨h.turn.trans (Turn.swp (by omega) (by omega) (by omega) (by omega) (by omega)), by omega, by omega, fun p q h1 h2 h3 h4 => ?_, fun p h1 h2 h3 => ?_⟩
  · rw [hat p, hat q]
    by_cases q1 : q = j
    · subst q1
      rw [if_pos rfl]
      by_cases p1 : p = q - 1
      · rw [if_neg (by omega), if_pos p1]; exact hlt
      · rw [if_neg (by omega), if_neg p1]
        exact h.srt p (q - 1) h1 (by omega) (by omega) (by omega)
    · rw [if_neg q1, if_neg h4]
      by_cases p1 : p = j
      · rw [if_pos p1]; exact h.srt (j - 1) q (by omega) (by omega) h3 q1
      · rw [if_neg p1]
        by_cases p2 : p = j - 1
        · rw [if_pos p2]; exact h.srt j q (by omega) (by omega) h3 q1
        · rw [if_neg p2]; exact h.srt p q h1 h2 h3 q1
  · rw [hat p, hat (j - 1), if_neg (by omega : ¬ j - 1 = j), if_pos rfl]
    by_cases p1 : p = j
    · rw [if_pos p1]; exact ht
    · rw [if_neg p1, if_neg h3]; exact h.tag p h1 h2 p1
theorem InsJ.done {y : KY} {a i j : Nat} {L0 L : List TI} (h : InsJ y a i j L0 L) (hc : j = a ∨ ¬ ordI y (ati L j).1 (ati L (j - 1)).1 < 0) : InsI y a (i + 1) L0 L := by
  have hji := h.ji
  refine ⟨h.turn, fun p q h1 h2 h3 => ?_⟩
  by_cases q1 : q = j
  · subst q1
    rcases hc with hc | hc
    · omega
    · have ht := h.tag (q - 1) (by omega) (by omega) (by omega)
      have hlt := (nord_tlt ht).1 hc
      by_cases p1 : p = q - 1
      · rw [p1]; exact hlt
      · exact tlt_trans (h.srt p (q - 1) h1 (by omega) (by omega) (by omega)) hlt
  · exact h.srt p q h1 h2 (by omega) q1

/-- Two lists of the same items in order are one. -/
theorem srt_one {y : KY} {L M : List TI} (hp : L.Perm M) (h1 : Srt y 0 L.length L) (h2 : Srt y 0 M.length M) : L = M := by
  have w : ∀ N : List TI, Srt y 0 N.length N → N.Pairwise (tlt y) := fun N h => by
    rw [List.pairwise_iff_getElem]
    intro i j hi hj hij
    have := h i j (Nat.zero_le _) hij hj
    rwa [ati_get hi, ati_get hj] at this
  exact hp.eq_of_pairwise (fun a b _ _ x z => (tlt_asymm x z).elim) (w L h1) (w M h2)
/-- A list with its indices. -/
def tagged (l : List Int) : List TI := l.zipIdx
theorem tagged_len (l : List Int) : (tagged l).length = l.length := by simp [tagged]
theorem tagged_at (l : List Int) (i : Nat) (h : i < l.length) : ati (tagged l) i = (l.getD i 0, i) := by
  rw [ati_get (by rw [tagged_len]; exact h)]
  simp [tagged, h]
theorem tagged_tags (l : List Int) : Tags 0 l.length (tagged l) := fun i j _ h2 h3 => by
  rw [tagged_at l i (by omega), tagged_at l j h3]; exact h2
theorem tagged_map (l : List Int) : (tagged l).map Prod.fst = l := by simp [tagged]
theorem map_at (L : List TI) (i : Nat) (h : i < L.length) : (L.map Prod.fst).getD i 0 = (ati L i).1 := by
  rw [ati_get h]; simp [h]
end Go.Proofs.Ytbndmelkdamgjaa.So
