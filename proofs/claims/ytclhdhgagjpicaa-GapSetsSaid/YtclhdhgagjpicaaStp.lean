/- Plain laws on merged lists: how many times they have. No program stands here but for a contract of made that tells less. -/
import Derived.Test.YtclhdhgagjpicaaCt
import Derived.Test.YtclhdhgagjpicaaMd
import Derived.Laws.Closers25b
namespace Go.Proofs.Ytclhdhgagjpicaa
open Go.RowKit Go.Wk

def MadeG (w : World) (p : Nat) (e : Ending) (w' : World) : Prop := ∃ l A c, Good l ∧ l.length = p ∧ e = .returned (.slice A p c) ∧ w'.ownsRow w.heap.size 2 1 (.slice A p c) p (cells .i64 l) ∧ p ≤ c ∧ Fr No w w'
theorem made_good (f : Int) (A : Option Addr) (n c : Nat) (gs : List Int) (w : World) (h : Reads w w.heap.size 1 A n (gs.map (Value.int .u16))) (hn : n ≤ 9223372036854775807) (hc : n ≤ c) (hf0 : 0 ≤ f) (hf1 : f ≤ 4294967295) (hg : ∀ x ∈ gs, 0 ≤ x ∧ x ≤ 65535) :
    Calls Try.prog 14 #[.int .u32 f, .slice A n c] w fun e w' => MadeG w (min n 300 + 1) e w' := by
  refine (made_any f A n c gs w h hn hc hf0 hf1 hg).mono ?_
  rintro e w' ⟨A', c', rfl, ho, hf⟩
  rw [madeL_len] at ho ⊢
  exact ⟨madeL f gs (min n 300), A', c', madeL_good ⟨hf0, hf1⟩ hg (by omega), madeL_len _ _ _, rfl, ho, own_cap ho, hf⟩

theorem ok2 {a b : List Int} (ha : Good a) (hb : Good b) : chk [a, b] = 0 := by
  have h1 := ok_of_good ha
  have h2 := ok_of_good hb
  unfold chk at h1 h2 ⊢
  simp only [List.any_cons, List.any_nil, Bool.or_false] at h1 h2 ⊢
  revert h1 h2
  cases many a <;> cases many b <;> cases inv a <;> cases inv b <;> cases ord a <;> cases ord b <;> simp
theorem good_nil : Good [] := ⟨by simp, fun i hi => by simp at hi, fun i hi => by simp at hi⟩
theorem mergeL_good {a b : List Int} (ha : Good a) (hb : Good b) : mergeL a b = (bothL a b).map (·.1) := by unfold mergeL; rw [if_pos (ok2 ha hb)]
theorem only1_good {a b : List Int} (ha : Good a) (hb : Good b) : only1 a b = sel a b := by unfold only1; rw [if_pos (ok2 ha hb)]; exact only1_sel ha hb
theorem only2_good {a b : List Int} (ha : Good a) (hb : Good b) : only2 a b = sel b a := by unfold only2; rw [if_pos (ok2 ha hb)]; exact only2_sel ha hb
theorem merge_inc {a b : List Int} (ha : Good a) (hb : Good b) : Inc (mergeL a b) := by rw [mergeL_good ha hb]; exact all_inc ha.inc_ hb.inc_
theorem merge_mem {a b : List Int} (ha : Good a) (hb : Good b) (t : Int) : t ∈ mergeL a b ↔ t ∈ a ∨ t ∈ b := by rw [mergeL_good ha hb]; exact all_mem ha.inc_ hb.inc_ t
theorem merge_comm {a b : List Int} (ha : Good a) (hb : Good b) : mergeL b a = mergeL a b :=
  inc_ext (merge_inc hb ha) (merge_inc ha hb) fun t => by rw [merge_mem hb ha, merge_mem ha hb]; exact Or.comm
theorem merge_self {a : List Int} (ha : Good a) : mergeL a a = a :=
  inc_ext (merge_inc ha ha) ha.inc_ fun t => by rw [merge_mem ha ha]; exact or_self_iff
theorem merge_nil {a : List Int} (ha : Good a) : mergeL [] a = a :=
  inc_ext (merge_inc good_nil ha) ha.inc_ fun t => by rw [merge_mem good_nil ha]; simp

/-- Those that both have. -/
def comm2 (m a b : List Int) : List Int := m.filter (fun t => decide (t ∈ a) && decide (t ∈ b))
theorem comm2_succ {m a b : List Int} {k : Nat} (h : k < m.length) : (comm2 (m.take (k + 1)) a b).length = (comm2 (m.take k) a b).length + if decide (m.getD k 0 ∈ a) && decide (m.getD k 0 ∈ b) then 1 else 0 := by
  unfold comm2
  rw [take_snoc m k h, List.filter_append, List.length_append]
  congr 1
  by_cases hc : (decide (m.getD k 0 ∈ a) && decide (m.getD k 0 ∈ b)) = true
  · rw [if_pos hc, List.filter_cons_of_pos (p := fun t => decide (t ∈ a) && decide (t ∈ b)) hc]; rfl
  · rw [if_neg hc, List.filter_cons_of_neg (p := fun t => decide (t ∈ a) && decide (t ∈ b)) hc]; rfl
theorem comm2_le (m a b : List Int) : (comm2 m a b).length ≤ m.length := List.length_filter_le _ _
theorem parts_len (p : Int → Bool) : ∀ l : List Int, l.length = (l.filter p).length + (l.filter (fun t => !p t)).length
  | [] => rfl
  | a :: l => by
    have ih := parts_len p l
    cases h : p a
    · rw [List.filter_cons_of_neg (by simp [h]), List.filter_cons_of_pos (by simp [h]), List.length_cons, List.length_cons]; omega
    · rw [List.filter_cons_of_pos h, List.filter_cons_of_neg (by simp [h]), List.length_cons, List.length_cons]; omega
theorem comm_a {a b : List Int} (ha : Good a) (hb : Good b) : a.filter (fun t => decide (t ∈ b)) = comm2 (mergeL a b) a b :=
  inc_ext (List.Pairwise.filter _ ha.inc_) (List.Pairwise.filter _ (merge_inc ha hb)) fun t => by
    simp only [comm2, List.mem_filter, merge_mem ha hb, decide_eq_true_eq, Bool.and_eq_true]
    constructor
    · rintro ⟨h1, h2⟩; exact ⟨.inl h1, h1, h2⟩
    · rintro ⟨_, h1, h2⟩; exact ⟨h1, h2⟩
theorem comm_b {a b : List Int} (ha : Good a) (hb : Good b) : b.filter (fun t => decide (t ∈ a)) = comm2 (mergeL a b) a b :=
  inc_ext (List.Pairwise.filter _ hb.inc_) (List.Pairwise.filter _ (merge_inc ha hb)) fun t => by
    simp only [comm2, List.mem_filter, merge_mem ha hb, decide_eq_true_eq, Bool.and_eq_true]
    constructor
    · rintro ⟨h1, h2⟩; exact ⟨.inr h1, h2, h1⟩
    · rintro ⟨_, h1, h2⟩; exact ⟨h2, h1⟩
theorem sel_count {a b : List Int} (ha : Good a) (hb : Good b) : (sel a b).length + (comm2 (mergeL a b) a b).length = a.length := by
  rw [← comm_a ha hb]
  have := parts_len (fun t => decide (t ∈ b)) a
  unfold sel
  omega
theorem sel_count' {a b : List Int} (ha : Good a) (hb : Good b) : (sel b a).length + (comm2 (mergeL a b) a b).length = b.length := by
  rw [← comm_b ha hb]
  have := parts_len (fun t => decide (t ∈ a)) b
  unfold sel
  omega
theorem merge_count {a b : List Int} (ha : Good a) (hb : Good b) : (mergeL a b).length + (comm2 (mergeL a b) a b).length = a.length + b.length := by
  have h1 := sel_count ha hb
  have h2 := parts_len (fun t => decide (t ∈ b)) (mergeL a b)
  have e1 : (mergeL a b).filter (fun t => decide (t ∈ b)) = b := inc_ext (List.Pairwise.filter _ (merge_inc ha hb)) hb.inc_ fun t => by
    simp only [List.mem_filter, merge_mem ha hb, decide_eq_true_eq]
    exact ⟨fun h => h.2, fun h => ⟨.inr h, h⟩⟩
  have e2 : (mergeL a b).filter (fun t => !decide (t ∈ b)) = sel a b := inc_ext (List.Pairwise.filter _ (merge_inc ha hb)) (sel_inc b ha.inc_) fun t => by
    rw [sel_mem]
    simp only [List.mem_filter, merge_mem ha hb, Bool.not_eq_true', decide_eq_false_iff_not]
    constructor
    · rintro ⟨h1, h2⟩; exact ⟨h1.resolve_right h2, h2⟩
    · rintro ⟨h1, h2⟩; exact ⟨.inl h1, h2⟩
  rw [e1, e2] at h2
  omega
end Go.Proofs.Ytclhdhgagjpicaa
