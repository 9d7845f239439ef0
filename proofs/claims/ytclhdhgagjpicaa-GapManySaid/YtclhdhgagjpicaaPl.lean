/- Plain laws on increasing lists: what both hands out, what only one list has, and putting one number into its place. No program stands here. -/
import Derived.Test.YtclhdhgagjpicaaOn
namespace Go.Proofs.Ytclhdhgagjpicaa
open Go.RowKit Go.Wk

def Inc (l : List Int) : Prop := l.Pairwise (· < ·)
theorem Good.inc_ {l : List Int} (h : Good l) : Inc l :=
  List.pairwise_iff_getElem.2 fun i j hi hj hij => by
    have := h.lt hij hj
    rwa [show l.getD i 0 = l[i] by simp [hi], show l.getD j 0 = l[j] by simp [hj]] at this
theorem Inc.lt {l : List Int} (h : Inc l) {i j : Nat} (hij : i < j) (hj : j < l.length) : l.getD i 0 < l.getD j 0 := by
  have := List.pairwise_iff_getElem.1 h i j (by omega) hj hij
  rwa [show l.getD i 0 = l[i] by simp [show i < l.length by omega], show l.getD j 0 = l[j] by simp [hj]]
theorem getD_mem {l : List Int} {i : Nat} (h : i < l.length) : l.getD i 0 ∈ l := by
  rw [show l.getD i 0 = l[i] by simp [h]]; exact List.getElem_mem _
theorem mem_getD {l : List Int} {x : Int} (h : x ∈ l) : ∃ i, i < l.length ∧ l.getD i 0 = x := by
  obtain ⟨i, hi, rfl⟩ := List.mem_iff_getElem.1 h
  exact ⟨i, hi, by simp [hi]⟩
theorem mem_take_getD {l : List Int} {x : Int} {k : Nat} (h : x ∈ l.take k) : ∃ i, i < k ∧ i < l.length ∧ l.getD i 0 = x := by
  obtain ⟨i, hi, rfl⟩ := List.mem_iff_getElem.1 h
  rw [List.length_take] at hi
  exact ⟨i, by omega, by omega, by simp [show i < l.length by omega]⟩
/-- Two increasing lists with the same numbers are one. -/
theorem inc_ext : ∀ {a b : List Int}, Inc a → Inc b → (∀ x, x ∈ a ↔ x ∈ b) → a = b
  | [], [], _, _, _ => rfl
  | [], y :: b, _, _, h => by have := (h y).2 (by simp); simp at this
  | x :: a, [], _, _, h => by have := (h x).1 (by simp); simp at this
  | x :: a, y :: b, ha, hb, h => by
    have ha1 := List.pairwise_cons.1 ha
    have hb1 := List.pairwise_cons.1 hb
    have hxy : x = y := by
      rcases List.mem_cons.1 ((h x).1 (by simp)) with h1 | h1
      · exact h1
      · rcases List.mem_cons.1 ((h y).2 (by simp)) with h2 | h2
        · exact h2.symm
        · have := ha1.1 y h2
          have := hb1.1 x h1
          omega
    subst hxy
    rw [inc_ext ha1.2 hb1.2 (fun z => ⟨fun hz => by
      rcases List.mem_cons.1 ((h z).1 (by simp [hz])) with h1 | h1
      · have := ha1.1 z hz; omega
      · exact h1, fun hz => by
      rcases List.mem_cons.1 ((h z).2 (by simp [hz])) with h1 | h1
      · have := hb1.1 z hz; omega
      · exact h1⟩)]

theorem both_in : ∀ (a b : List Int) (p : Int × Int), p ∈ bothL a b → p.1 ∈ a ∨ p.1 ∈ b
  | [], [], p, h => by rw [bothL] at h; simp at h
  | x :: a, [], p, h => by
    rw [bothL] at h
    rcases List.mem_cons.1 h with rfl | h
    · simp
    · have := both_in a [] p h; simp at this; simp [this]
  | [], y :: b, p, h => by
    rw [bothL] at h
    rcases List.mem_cons.1 h with rfl | h
    · simp
    · have := both_in [] b p h; simp at this; simp [this]
  | x :: a, y :: b, p, h => by
    rw [bothL] at h
    split at h
    · rcases List.mem_cons.1 h with rfl | h
      · simp
      · rcases both_in a (y :: b) p h with h | h
        · simp [h]
        · exact .inr h
    · split at h
      · rcases List.mem_cons.1 h with rfl | h
        · simp
        · rcases both_in (x :: a) b p h with h | h
          · exact .inl h
          · simp [h]
      · rcases List.mem_cons.1 h with rfl | h
        · simp
        · rcases both_in a b p h with h | h
          · simp [h]
          · simp [h]
termination_by a b => a.length + b.length
theorem both_inc : ∀ (a b : List Int), Inc a → Inc b → (bothL a b).Pairwise (fun p q => p.1 < q.1)
  | [], [], _, _ => by rw [bothL]; exact List.Pairwise.nil
  | x :: a, [], ha, hb => by
    rw [bothL]
    have ha1 := List.pairwise_cons.1 ha
    refine List.pairwise_cons.2 ⟨fun p hp => ?_, both_inc a [] ha1.2 hb⟩
    rcases both_in a [] p hp with h | h
    · exact ha1.1 _ h
    · simp at h
  | [], y :: b, ha, hb => by
    rw [bothL]
    have hb1 := List.pairwise_cons.1 hb
    refine List.pairwise_cons.2 ⟨fun p hp => ?_, both_inc [] b ha hb1.2⟩
    rcases both_in [] b p hp with h | h
    · simp at h
    · exact hb1.1 _ h
  | x :: a, y :: b, ha, hb => by
    rw [bothL]
    have ha1 := List.pairwise_cons.1 ha
    have hb1 := List.pairwise_cons.1 hb
    split
    · refine List.pairwise_cons.2 ⟨fun p hp => ?_, both_inc a (y :: b) ha1.2 hb⟩
      rcases both_in a (y :: b) p hp with h | h
      · exact ha1.1 _ h
      · rcases List.mem_cons.1 h with h | h
        · simp only; omega
        · have := hb1.1 _ h; simp only; omega
    · split
      · refine List.pairwise_cons.2 ⟨fun p hp => ?_, both_inc (x :: a) b ha hb1.2⟩
        rcases both_in (x :: a) b p hp with h | h
        · rcases List.mem_cons.1 h with h | h
          · simp only; omega
          · have := ha1.1 _ h; simp only; omega
        · exact hb1.1 _ h
      · refine List.pairwise_cons.2 ⟨fun p hp => ?_, both_inc a b ha1.2 hb1.2⟩
        rcases both_in a b p hp with h | h
        · exact ha1.1 _ h
        · have := hb1.1 _ h; simp only; omega
termination_by a b => a.length + b.length
def Whose (a b : List Int) (t k : Int) : Prop := (k = 1 ∧ t ∈ a ∧ t ∉ b) ∨ (k = 2 ∧ t ∈ b ∧ t ∉ a) ∨ (k = 3 ∧ t ∈ a ∧ t ∈ b)
theorem both_mem : ∀ (a b : List Int), Inc a → Inc b → ∀ t k, (t, k) ∈ bothL a b ↔ Whose a b t k
  | [], [], _, _, t, k => by rw [bothL]; simp [Whose]
  | x :: a, [], ha, hb, t, k => by
    rw [bothL, List.mem_cons, both_mem a [] (List.pairwise_cons.1 ha).2 hb t k]
    simp only [Whose, Prod.mk.injEq, List.mem_cons, List.not_mem_nil, not_false_eq_true, and_true, false_and, and_false, or_false]
    constructor
    · rintro (⟨rfl, rfl⟩ | ⟨rfl, h⟩)
      · exact ⟨rfl, .inl rfl⟩
      · exact ⟨rfl, .inr h⟩
    · rintro ⟨rfl, h | h⟩
      · exact .inl ⟨h, rfl⟩
      · exact .inr ⟨rfl, h⟩
  | [], y :: b, ha, hb, t, k => by
    rw [bothL, List.mem_cons, both_mem [] b ha (List.pairwise_cons.1 hb).2 t k]
    simp only [Whose, Prod.mk.injEq, List.mem_cons, List.not_mem_nil, not_false_eq_true, and_true, false_and, and_false, or_false, false_or]
    constructor
    · rintro (⟨rfl, rfl⟩ | ⟨rfl, h⟩)
      · exact ⟨rfl, .inl rfl⟩
      · exact ⟨rfl, .inr h⟩
    · rintro ⟨rfl, h | h⟩
      · exact .inl ⟨h, rfl⟩
      · exact .inr ⟨rfl, h⟩
  | x :: a, y :: b, ha, hb, t, k => by
    have ha1 := List.pairwise_cons.1 ha
    have hb1 := List.pairwise_cons.1 hb
    have nxa : x ∉ a := fun h => by have := ha1.1 x h; omega
    have nyb : y ∉ b := fun h => by have := hb1.1 y h; omega
    rw [bothL]
    split
    · have nxb : x ∉ y :: b := fun h => by
        rcases List.mem_cons.1 h with h | h
        · omega
        · have := hb1.1 x h; omega
      rw [List.mem_cons, both_mem a (y :: b) ha1.2 hb t k]
      unfold Whose
      by_cases htx : t = x
      · subst htx
        simp [nxb, nxa] at *
      · simp [htx]
    · split
      · have nya : y ∉ x :: a := fun h => by
          rcases List.mem_cons.1 h with h | h
          · omega
          · have := ha1.1 y h; omega
        rw [List.mem_cons, both_mem (x :: a) b ha hb1.2 t k]
        unfold Whose
        by_cases hty : t = y
        · subst hty
          simp [nya, nyb] at *
        · simp [hty]
      · obtain rfl : x = y := by omega
        rw [List.mem_cons, both_mem a b ha1.2 hb1.2 t k]
        unfold Whose
        by_cases htx : t = x
        · subst htx
          simp [nxa, nyb]
        · simp [htx]
termination_by a b => a.length + b.length

theorem onl_inc (k : Int) {a b : List Int} (ha : Inc a) (hb : Inc b) : Inc (onl k (bothL a b)) := by
  unfold Inc onl
  rw [List.pairwise_map]
  exact (both_inc a b ha hb).filter _
theorem onl_mem (k : Int) {a b : List Int} (ha : Inc a) (hb : Inc b) (t : Int) : t ∈ onl k (bothL a b) ↔ Whose a b t k := by
  rw [← both_mem a b ha hb t k]
  unfold onl
  simp only [List.mem_map, List.mem_filter, beq_iff_eq]
  constructor
  · rintro ⟨⟨p, q⟩, ⟨h1, rfl⟩, rfl⟩; exact h1
  · intro h; exact ⟨(t, k), ⟨h, rfl⟩, rfl⟩
theorem all_inc {a b : List Int} (ha : Inc a) (hb : Inc b) : Inc ((bothL a b).map (·.1)) := by
  unfold Inc
  rw [List.pairwise_map]
  exact both_inc a b ha hb
theorem all_mem {a b : List Int} (ha : Inc a) (hb : Inc b) (t : Int) : t ∈ (bothL a b).map (·.1) ↔ t ∈ a ∨ t ∈ b := by
  simp only [List.mem_map]
  constructor
  · rintro ⟨p, hp, rfl⟩; exact both_in a b p hp
  · intro h
    by_cases h1 : t ∈ a
    · by_cases h2 : t ∈ b
      · exact ⟨(t, 3), (both_mem a b ha hb t 3).2 (.inr (.inr ⟨rfl, h1, h2⟩)), rfl⟩
      · exact ⟨(t, 1), (both_mem a b ha hb t 1).2 (.inl ⟨rfl, h1, h2⟩), rfl⟩
    · have h2 : t ∈ b := h.resolve_left h1
      exact ⟨(t, 2), (both_mem a b ha hb t 2).2 (.inr (.inl ⟨rfl, h2, h1⟩)), rfl⟩

/-- The times of a that b has not. -/
def sel (a b : List Int) : List Int := a.filter (fun x => !decide (x ∈ b))
theorem sel_mem (a b : List Int) (x : Int) : x ∈ sel a b ↔ x ∈ a ∧ x ∉ b := by simp [sel]
theorem sel_inc {a : List Int} (b : List Int) (h : Inc a) : Inc (sel a b) := List.Pairwise.filter _ h
theorem sel_len (a b : List Int) : (sel a b).length ≤ a.length := List.length_filter_le _ _
theorem sel_succ {a : List Int} (b : List Int) {k : Nat} (h : k < a.length) : sel (a.take (k + 1)) b = if a.getD k 0 ∈ b then sel (a.take k) b else sel (a.take k) b ++ [a.getD k 0] := by
  unfold sel
  rw [take_snoc a k h, List.filter_append]
  by_cases hm : a.getD k 0 ∈ b
  · rw [if_pos hm, List.filter_cons_of_neg (by simpa using hm)]; simp
  · rw [if_neg hm, List.filter_cons_of_pos (by simpa using hm)]; simp
theorem only1_sel {a b : List Int} (ha : Good a) (hb : Good b) : onl 1 (bothL a b) = sel a b :=
  inc_ext (onl_inc 1 ha.inc_ hb.inc_) (sel_inc b ha.inc_) fun x => by
    rw [onl_mem 1 ha.inc_ hb.inc_, sel_mem]; simp [Whose]
theorem only2_sel {a b : List Int} (ha : Good a) (hb : Good b) : onl 2 (bothL a b) = sel b a :=
  inc_ext (onl_inc 2 ha.inc_ hb.inc_) (sel_inc a hb.inc_) fun x => by
    rw [onl_mem 2 ha.inc_ hb.inc_, sel_mem]; simp [Whose]

/-- x put before the k-th number. -/
def ins (S : List Int) (x : Int) (k : Nat) : List Int := S.take k ++ x :: S.drop k
theorem ins_len (S : List Int) (x : Int) {k : Nat} (h : k ≤ S.length) : (ins S x k).length = S.length + 1 := by simp [ins]; omega
theorem ins_end (S : List Int) (x : Int) : ins S x S.length = S ++ [x] := by simp [ins]
theorem ins_at (S : List Int) (x : Int) {k : Nat} (h : k ≤ S.length) : (ins S x k).getD k 0 = x := by
  unfold ins
  rw [List.getD_eq_getElem?_getD, List.getElem?_append_right (by rw [List.length_take]; omega), List.length_take, Nat.min_eq_left h, Nat.sub_self]
  rfl
theorem ins_before (S : List Int) (x : Int) {k : Nat} (h : k ≤ S.length) (h0 : 0 < k) : (ins S x k).getD (k - 1) 0 = S.getD (k - 1) 0 := by
  unfold ins
  rw [List.getD_eq_getElem?_getD, List.getElem?_append_left (by rw [List.length_take]; omega), List.getElem?_take, if_pos (by omega), List.getD_eq_getElem?_getD]
theorem ins_swap (S : List Int) (x : Int) {k : Nat} (h : k < S.length) : ((ins S x (k + 1)).set k x).set (k + 1) (S.getD k 0) = ins S x k := by
  unfold ins
  rw [take_snoc S k h, List.append_assoc]
  rw [List.set_append_right _ _ (by rw [List.length_take]; omega), List.length_take, Nat.min_eq_left (by omega), Nat.sub_self]
  rw [List.set_append_right _ _ (by rw [List.length_take]; omega), List.length_take, Nat.min_eq_left (by omega)]
  congr 1
  rw [show k + 1 - k = 1 by omega]
  have h1 : S.drop k = S.getD k 0 :: S.drop (k + 1) := by
    rw [List.drop_eq_getElem_cons h]; simp [h]
  rw [h1]
  rfl
theorem ins_mem (S : List Int) (x : Int) (k : Nat) (t : Int) : t ∈ ins S x k ↔ t = x ∨ t ∈ S := by
  unfold ins
  rw [List.mem_append, List.mem_cons]
  have : t ∈ S ↔ t ∈ S.take k ∨ t ∈ S.drop k := by rw [← List.mem_append, List.take_append_drop]
  rw [this]
  constructor
  · rintro (h | h | h)
    · exact .inr (.inl h)
    · exact .inl h
    · exact .inr (.inr h)
  · rintro (h | h | h)
    · exact .inr (.inl h)
    · exact .inl h
    · exact .inr (.inr h)
theorem ins_inc {S : List Int} {x : Int} {k : Nat} (hS : Inc S) (hx : x ∉ S) (hk : k ≤ S.length) (h1 : ∀ j, k ≤ j → j < S.length → x < S.getD j 0) (h2 : 0 < k → S.getD (k - 1) 0 ≤ x) : Inc (ins S x k) := by
  have hlo : ∀ y ∈ S.take k, y < x := fun y hy => by
    obtain ⟨i, hi, hil, rfl⟩ := mem_take_getD hy
    have hk0 := h2 (by omega)
    have hne : S.getD i 0 ≠ x := fun e => hx (e ▸ getD_mem hil)
    rcases (show i < k - 1 ∨ i = k - 1 by omega) with h | h
    · have := hS.lt h (by omega); omega
    · subst h; omega
  have hhi : ∀ y ∈ S.drop k, x < y := fun y hy => by
    obtain ⟨i, hi, rfl⟩ := List.mem_iff_getElem.1 hy
    rw [List.length_drop] at hi
    have := h1 (k + i) (by omega) (by omega)
    simpa [show k + i < S.length by omega] using this
  have hs : Inc (S.take k ++ S.drop k) := by rw [List.take_append_drop]; exact hS
  have h3 := List.pairwise_append.1 hs
  unfold Inc ins
  refine List.pairwise_append.2 ⟨h3.1, List.pairwise_cons.2 ⟨hhi, h3.2.1⟩, fun a ha b hb => ?_⟩
  rcases List.mem_cons.1 hb with rfl | hb
  · exact hlo a ha
  · exact h3.2.2 a ha b hb
end Go.Proofs.Ytclhdhgagjpicaa
