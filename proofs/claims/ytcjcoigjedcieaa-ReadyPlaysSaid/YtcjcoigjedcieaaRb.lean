/- A block that reads as the document's queue; made, find, Has, Len, Room. -/
import Derived.Test.YtcjcoigjedcieaaRa
namespace Go.Proofs.Ytcjcoigjedcieaa
open Go.RowKit Go.Wk

/-- The items in the order in which they were added, sorted. -/
def srt (g : Int) (l : List IV) : List IV := l.foldl (fun o x => insQ g o x) []
theorem srt_snoc (g : Int) (l : List IV) (x : IV) : srt g (l ++ [x]) = insQ g (srt g l) x := by simp [srt]
theorem srt_perm (g : Int) (l : List IV) : (srt g l).Perm l := by
  have key : ∀ (l o : List IV), (l.foldl (fun o x => insQ g o x) o).Perm (o ++ l) := by
    intro l
    induction l with
    | nil => intro o; simp
    | cons a l ih =>
      intro o
      rw [List.foldl_cons]
      refine (ih _).trans ?_
      refine ((insQ_perm g o a).append_right l).trans ?_
      rw [List.cons_append]
      exact List.perm_middle.symm
  have := key l []
  rwa [List.nil_append] at this
theorem insQ_cons (g : Int) (a : IV) (l : List IV) (x : IV) : insQ g (a :: l) x = if ltM (mkI g a) (mkI g x) then a :: insQ g l x else x :: a :: l := by
  unfold insQ idx
  by_cases h : ltM (mkI g a) (mkI g x)
  · rw [if_pos h, List.takeWhile_cons_of_pos (by simpa using h), List.length_cons, insI_eq, insI_eq, List.take_succ_cons, List.drop_succ_cons]; rfl
  · rw [if_neg h, List.takeWhile_cons_of_neg (by simpa using h)]; rfl
theorem ins_sorted {g : Int} {x : IV} : ∀ {o : List IV}, o.Pairwise (fun a b => ltM (mkI g a) (mkI g b)) → (∀ e ∈ o, e.seq < x.seq) → (insQ g o x).Pairwise (fun a b => ltM (mkI g a) (mkI g b))
  | [], _, _ => by
    show ([x] : List IV).Pairwise _
    exact List.pairwise_singleton _ _
  | a :: l, h, hx => by
    rw [List.pairwise_cons] at h
    rw [insQ_cons]
    by_cases hl : ltM (mkI g a) (mkI g x)
    · rw [if_pos hl, List.pairwise_cons]
      refine ⟨fun b hb => ?_, ins_sorted h.2 (fun e he => hx e (List.mem_cons_of_mem _ he))⟩
      rcases insQ_mem.1 hb with rfl | hb
      · exact hl
      · exact h.1 b hb
    · rw [if_neg hl, List.pairwise_cons]
      have hxa : ltM (mkI g x) (mkI g a) := by
        have := hx a List.mem_cons_self
        unfold ltM mkI at *
        dsimp only at *
        omega
      refine ⟨fun b hb => ?_, List.pairwise_cons.2 h⟩
      rcases List.mem_cons.1 hb with rfl | hb
      · exact hxa
      · exact ltM_trans hxa (h.1 b hb)
theorem srt_sorted (g : Int) (l : List IV) (h : l.Pairwise (fun a b => a.seq < b.seq)) : (srt g l).Pairwise (fun a b => ltM (mkI g a) (mkI g b)) := by
  have key : ∀ (l o : List IV), o.Pairwise (fun a b => ltM (mkI g a) (mkI g b)) → (∀ a ∈ o, ∀ b ∈ l, a.seq < b.seq) → l.Pairwise (fun a b => a.seq < b.seq) → (l.foldl (fun o x => insQ g o x) o).Pairwise (fun a b => ltM (mkI g a) (mkI g b)) := by
    intro l
    induction l with
    | nil => intro o h1 _ _; exact h1
    | cons x l ih =>
      intro o h1 h2 h3
      rw [List.foldl_cons]
      rw [List.pairwise_cons] at h3
      refine ih _ (ins_sorted h1 (fun e he => h2 e he x List.mem_cons_self)) (fun a ha b hb => ?_) h3.2
      rcases insQ_mem.1 ha with rfl | ha
      · exact h3.1 b hb
      · exact h2 a ha b (List.mem_cons_of_mem _ hb)
  exact key l [] List.Pairwise.nil (fun a ha => by cases ha) h
/-- Two lists in order with the same items are the same. -/
theorem sorted_eq {g : Int} : ∀ {l m : List IV}, l.Pairwise (fun a b => ltM (mkI g a) (mkI g b)) → m.Pairwise (fun a b => ltM (mkI g a) (mkI g b)) → l.Perm m → l = m
  | [], m, _, _, h => (List.nil_perm.1 h).symm
  | a :: l, [], _, _, h => absurd h.length_eq (by simp)
  | a :: l, b :: m, h1, h2, h => by
    rw [List.pairwise_cons] at h1 h2
    have hab : a = b := by
      have ha : a ∈ b :: m := h.subset (List.mem_cons_self)
      have hb : b ∈ a :: l := h.symm.subset (List.mem_cons_self)
      rcases List.mem_cons.1 ha with e | ha
      · exact e
      · rcases List.mem_cons.1 hb with e | hb
        · exact e.symm
        · exact absurd (ltM_trans (h1.1 b hb) (h2.1 a ha)) (ltM_irr _)
    subst hab
    rw [sorted_eq h1.2 h2.2 (List.perm_cons _ |>.1 h)]

/-- The document's queue t is the program's queue s. -/
structure Rel (s t : QS) : Prop where
  ok : s.ok
  l : s.l = srt t.ag t.l
  size : t.size = s.size
  ag : t.ag = s.ag
  added : t.added = s.added
  up : t.l.Pairwise (fun a b => a.seq < b.seq)
section
variable {s t : QS}
theorem Rel.perm (h : Rel s t) : t.l.Perm s.l := by rw [h.l]; exact (srt_perm _ _).symm
theorem Rel.len (h : Rel s t) : t.l.length = s.l.length := h.perm.length_eq
theorem Rel.mem (h : Rel s t) {x : IV} : x ∈ t.l ↔ x ∈ s.l := h.perm.mem_iff
theorem Rel.nodup (h : Rel s t) : t.l.Pairwise (fun a b => a.id ≠ b.id) := (h.perm.pairwise_iff (fun h => h.symm)).2 h.ok.nodup
theorem Rel.byId (h : Rel s t) (x : Int) : byId t.l x = Go.Proofs.Ytcjcoigjedcieaa.byId s.l x := by
  cases hb : Go.Proofs.Ytcjcoigjedcieaa.byId s.l x with
  | none =>
    apply byId_none
    intro e he
    exact byId_eq_none.1 hb e (h.mem.1 he)
  | some p =>
    obtain ⟨hp, hx⟩ := byId_some hb
    have := byId_mem h.nodup (h.mem.2 hp)
    rwa [hx] at this
theorem Rel.has (h : Rel s t) (x : Int) : hasB t x = hasB s x := by unfold hasB; rw [h.byId]
theorem Rel.new {size ag : Int} (h1 : 0 ≤ size ∧ size ≤ 1024) (h2 : 1 ≤ ag ∧ ag ≤ 68719476736) : Rel (QS.new size ag) (QS.new size ag) := ⟨QS.ok_new h1 h2, rfl, rfl, rfl, rfl, List.Pairwise.nil⟩
/-- What the document adds. -/
def QS.app (t : QS) (x p u : Int) : QS := ⟨t.l ++ [⟨x, p, u, t.added + 1⟩], t.size, t.ag, t.added + 1⟩
theorem Rel.app (h : Rel s t) {x p u : Int} (hok : (s.add x p u).ok) : Rel (s.add x p u) (t.app x p u) := by
  refine ⟨hok, ?_, h.size, h.ag, by show t.added + 1 = s.added + 1; rw [h.added], ?_⟩
  · show insQ s.ag s.l ⟨x, p, u, s.added + 1⟩ = srt t.ag (t.l ++ [⟨x, p, u, t.added + 1⟩])
    rw [srt_snoc, ← h.l, h.ag, h.added]
  · show (t.l ++ [_]).Pairwise _
    rw [List.pairwise_append]
    refine ⟨h.up, List.pairwise_singleton _ _, fun a ha b hb => ?_⟩
    rw [List.mem_singleton] at hb
    subst hb
    have := (h.ok.sqs a (h.mem.1 ha)).2
    have := h.added
    dsimp only
    omega
theorem Rel.rem (h : Rel s t) (x : Int) : Rel (remS s x) (remS t x) := by
  have hok : (remS s x).ok := sub_ok h.ok List.filter_sublist
  refine ⟨hok, ?_, h.size, h.ag, h.added, h.up.sublist List.filter_sublist⟩
  refine sorted_eq (g := s.ag) hok.inc ?_ ((h.perm.filter _).symm.trans (srt_perm _ _).symm)
  have := srt_sorted t.ag (remS t x).l (h.up.sublist List.filter_sublist)
  rw [h.ag] at this
  have e : (remS t x).ag = s.ag := h.ag
  rw [e]
  exact this
theorem idxF_has (l : List IV) (x : Int) : decide (0 ≤ idxF (fun e => e.id == x) l) = (Go.Proofs.Ytcjcoigjedcieaa.byId l x).isSome := by
  unfold idxF Go.Proofs.Ytcjcoigjedcieaa.byId
  by_cases h : l.findIdx (fun e => e.id == x) < l.length
  · rw [if_pos h]
    have h2 : (l.find? (fun e => e.id == x)).isSome = true := by
      rw [List.find?_isSome]
      exact ⟨l[l.findIdx (fun e => e.id == x)], List.getElem_mem _, List.findIdx_getElem (w := h)⟩
    rw [h2]; simp
  · rw [if_neg h]
    have h2 : l.find? (fun e => e.id == x) = none := by
      rw [List.find?_eq_none]
      intro e he hx
      exact h (List.findIdx_lt_length_of_exists ⟨e, he, hx⟩)
    rw [h2]; simp
end
end Go.Proofs.Ytcjcoigjedcieaa
