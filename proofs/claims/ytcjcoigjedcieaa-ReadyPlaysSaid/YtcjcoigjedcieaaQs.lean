/- What a queue holds, in order; adding, removing, picking. No program stands here. -/
import Derived.Test.YtcjcoigjedcieaaMp
import Derived.Test.YtcjcoigjedcieaaIow
import Derived.Test.YtcjcoigjedcieaaDel
namespace Go.Proofs.Ytcjcoigjedcieaa
open Go.RowKit Go.Wk

/-- Which mark comes before which. -/
def ltM (a b : Int × Int) : Prop := a.1 < b.1 ∨ (a.1 = b.1 ∧ a.2 < b.2)
instance (a b : Int × Int) : Decidable (ltM a b) := by unfold ltM; infer_instance
theorem ltM_trans {a b c : Int × Int} (h : ltM a b) (k : ltM b c) : ltM a c := by unfold ltM at *; omega
theorem ltM_irr (a : Int × Int) : ¬ ltM a a := by unfold ltM; omega
def keyI (g : Int) (x : IV) : Int := x.since - x.pr * g
def mkI (g : Int) (x : IV) : Int × Int := (keyI g x, x.seq)

/-- What a queue holds. -/
structure QS where
  l : List IV
  size : Int
  ag : Int
  added : Int
deriving DecidableEq
def byId (l : List IV) (x : Int) : Option IV := l.find? (fun e => e.id == x)
/-- An item as a queue takes it. -/
structure IV.Ok (x : IV) : Prop where
  id : fits x.id
  pr : 0 ≤ x.pr ∧ x.pr ≤ 100
  since : 0 ≤ x.since ∧ x.since ≤ 253402300799
structure QS.ok (s : QS) : Prop where
  inc : s.l.Pairwise (fun a b => ltM (mkI s.ag a) (mkI s.ag b))
  nodup : s.l.Pairwise (fun a b => a.id ≠ b.id)
  fit : ∀ e ∈ s.l, e.Ok
  sqs : ∀ e ∈ s.l, 1 ≤ e.seq ∧ e.seq ≤ s.added
  a0 : 0 ≤ s.added
  a1 : s.added ≤ 1000000
  len : (s.l.length : Int) ≤ s.added
  lsz : (s.l.length : Int) ≤ s.size
  sz : 0 ≤ s.size ∧ s.size ≤ 1024
  ag1 : 1 ≤ s.ag ∧ s.ag ≤ 68719476736
theorem QS.ok.n {s : QS} (h : s.ok) : s.l.length ≤ 1024 := by have := h.lsz; have := h.sz; omega

theorem getD_get {l : List IV} {i : Nat} (h : i < l.length) : l.getD i IV.zero = l[i] := by simp [h]
theorem byId_mem {l : List IV} (hn : l.Pairwise (fun a b => a.id ≠ b.id)) {e : IV} (he : e ∈ l) : byId l e.id = some e := by
  unfold byId
  induction l with
  | nil => simp at he
  | cons a l ih =>
    rw [List.pairwise_cons] at hn
    rcases List.mem_cons.1 he with rfl | he
    · simp
    · have : a.id ≠ e.id := hn.1 e he
      rw [List.find?_cons_of_neg (by simpa using this)]
      exact ih hn.2 he
theorem byId_none {l : List IV} {x : Int} (h : ∀ e ∈ l, e.id ≠ x) : byId l x = none := by
  unfold byId
  rw [List.find?_eq_none]
  exact fun e he => by simpa using h e he
theorem byId_some {l : List IV} {x : Int} {p : IV} (h : byId l x = some p) : p ∈ l ∧ p.id = x := by
  unfold byId at h
  exact ⟨List.mem_of_find?_eq_some h, by simpa using List.find?_some h⟩
theorem byId_eq_none {l : List IV} {x : Int} : byId l x = none ↔ ∀ e ∈ l, e.id ≠ x := by
  constructor
  · intro h e he hx
    unfold byId at h
    rw [List.find?_eq_none] at h
    exact h e he (by simpa using hx)
  · exact byId_none
theorem byId_cons (a : IV) (l : List IV) (x : Int) : byId (a :: l) x = if a.id = x then some a else byId l x := by
  unfold byId
  by_cases h : a.id = x
  · rw [if_pos h, List.find?_cons_of_pos (by simpa using h)]
  · rw [if_neg h, List.find?_cons_of_neg (by simpa using h)]
theorem byId_app (l m : List IV) (x : Int) : byId (l ++ m) x = (byId l x).or (byId m x) := by
  induction l with
  | nil => rfl
  | cons a l ih =>
    rw [List.cons_append, byId_cons, byId_cons]
    by_cases h : a.id = x
    · rw [if_pos h, if_pos h]; rfl
    · rw [if_neg h, if_neg h, ih]
theorem byId_get {s : QS} (h : s.ok) {i : Nat} (hi : i < s.l.length) : byId s.l (s.l.getD i IV.zero).id = some (s.l.getD i IV.zero) :=
  byId_mem h.nodup (getD_mem' hi)

/-! ### The place of a mark -/
/-- How many items come before a mark. -/
def idx (g : Int) (l : List IV) (t : Int × Int) : Nat := (l.takeWhile (fun e => decide (ltM (mkI g e) t))).length
theorem idx_le (g : Int) (l : List IV) (t : Int × Int) : idx g l t ≤ l.length := by
  unfold idx
  have h := List.takeWhile_prefix (fun e : IV => decide (ltM (mkI g e) t)) (l := l)
  exact h.length_le
theorem idx_eq {g : Int} {l : List IV} {t : Int × Int} {i : Nat} (h0 : i ≤ l.length) (h1 : ∀ j, j < i → ltM (mkI g (l.getD j IV.zero)) t) (h2 : i < l.length → ¬ ltM (mkI g (l.getD i IV.zero)) t) : idx g l t = i := by
  unfold idx
  induction l generalizing i with
  | nil => simp at h0; rw [h0]; rfl
  | cons a l ih =>
    cases i with
    | zero =>
      have := h2 (by simp)
      rw [List.getD_cons_zero] at this
      rw [List.takeWhile_cons_of_neg (by simpa using this)]
      rfl
    | succ i =>
      have := h1 0 (by omega)
      rw [List.getD_cons_zero] at this
      rw [List.takeWhile_cons_of_pos (by simpa using this), List.length_cons]
      congr 1
      refine ih (by simpa using h0) (fun j hj => ?_) (fun hi => ?_)
      · have := h1 (j + 1) (by omega)
        rwa [List.getD_cons_succ] at this
      · have := h2 (by simpa using hi)
        rwa [List.getD_cons_succ] at this
theorem QS.ok.lt {s : QS} (h : s.ok) {i j : Nat} (hij : i < j) (hj : j < s.l.length) : ltM (mkI s.ag (s.l.getD i IV.zero)) (mkI s.ag (s.l.getD j IV.zero)) := by
  have := List.pairwise_iff_getElem.1 h.inc i j (by omega) hj hij
  rw [getD_get (show i < s.l.length by omega), getD_get hj]; exact this
theorem idx_at {g : Int} {l : List IV} {t : Int × Int} : (∀ j, j < idx g l t → ltM (mkI g (l.getD j IV.zero)) t) ∧ (idx g l t < l.length → ¬ ltM (mkI g (l.getD (idx g l t) IV.zero)) t) := by
  unfold idx
  induction l with
  | nil => exact ⟨fun j hj => by simp at hj, fun h => by simp at h⟩
  | cons a l ih =>
    by_cases h : ltM (mkI g a) t
    · rw [List.takeWhile_cons_of_pos (by simpa using h)]
      refine ⟨fun j hj => ?_, fun hj => ?_⟩
      · cases j with
        | zero => exact h
        | succ j => rw [List.getD_cons_succ]; exact ih.1 j (by simpa using hj)
      · rw [List.length_cons, List.getD_cons_succ]; exact ih.2 (by simpa using hj)
    · rw [List.takeWhile_cons_of_neg (by simpa using h)]
      exact ⟨fun j hj => by simp at hj, fun _ => by simpa using h⟩
theorem take_lt {g : Int} {l : List IV} {t : Int × Int} : ∀ e ∈ l.take (idx g l t), ltM (mkI g e) t := fun e he => by
  obtain ⟨j, hj, rfl⟩ := List.mem_iff_getElem.1 he
  rw [List.length_take] at hj
  have := idx_at (g := g) (l := l) (t := t) |>.1 j (by omega)
  rw [List.getElem_take]
  rwa [getD_get (show j < l.length by omega)] at this
theorem drop_ge {s : QS} (h : s.ok) {t : Int × Int} : ∀ e ∈ s.l.drop (idx s.ag s.l t), ¬ ltM (mkI s.ag e) t := fun e he hlt => by
  obtain ⟨j, hj, rfl⟩ := List.mem_iff_getElem.1 he
  rw [List.length_drop] at hj
  rw [List.getElem_drop] at hlt
  have h0 := idx_at (g := s.ag) (l := s.l) (t := t) |>.2 (by omega)
  cases j with
  | zero =>
    rw [getD_get (show idx s.ag s.l t < s.l.length by omega)] at h0
    exact h0 hlt
  | succ j =>
    have h1 := h.lt (i := idx s.ag s.l t) (j := idx s.ag s.l t + (j + 1)) (by omega) (by omega)
    rw [getD_get (show idx s.ag s.l t + (j + 1) < s.l.length by omega)] at h1
    exact h0 (ltM_trans h1 hlt)
theorem idx_self {s : QS} (h : s.ok) {i : Nat} (hi : i < s.l.length) : idx s.ag s.l (mkI s.ag (s.l.getD i IV.zero)) = i :=
  idx_eq (by omega) (fun _ hj => h.lt hj hi) (fun _ hl => ltM_irr _ hl)

/-! ### Push -/
def hasB (s : QS) (x : Int) : Bool := (byId s.l x).isSome
theorem hasB_false {s : QS} {x : Int} (h : hasB s x = false) : ∀ e ∈ s.l, e.id ≠ x := by
  unfold hasB at h
  exact byId_eq_none.1 (by simpa using h)
theorem hasB_at {s : QS} {x : Int} (h : hasB s x = true) : ∃ i, i < s.l.length ∧ (s.l.getD i IV.zero).id = x := by
  unfold hasB at h
  obtain ⟨p, hp⟩ := Option.isSome_iff_exists.1 h
  obtain ⟨he, hx⟩ := byId_some hp
  obtain ⟨i, hi, rfl⟩ := List.mem_iff_getElem.1 he
  exact ⟨i, hi, by rw [getD_get hi]; exact hx⟩
theorem hasB_of {s : QS} {e : IV} (he : e ∈ s.l) : hasB s e.id = true := by
  cases h : hasB s e.id
  · exact absurd rfl (hasB_false h e he)
  · rfl
def pushE (s : QS) (id pr since : Int) : Int :=
  if pr < 0 ∨ 100 < pr then 2 else if since < 0 ∨ 253402300799 < since then 14 else if hasB s id = true then 6 else if s.size ≤ s.l.length then 4 else 0
def insQ (g : Int) (l : List IV) (x : IV) : List IV := insI l (idx g l (mkI g x)) x
def QS.add (s : QS) (id pr since : Int) : QS := ⟨insQ s.ag s.l ⟨id, pr, since, s.added + 1⟩, s.size, s.ag, s.added + 1⟩
def pushS (s : QS) (id pr since : Int) : QS := if pushE s id pr since = 0 then s.add id pr since else s
theorem insI_eq (l : List IV) (i : Nat) (x : IV) : insI l i x = l.take i ++ x :: l.drop i := rfl
theorem insQ_mem {g : Int} {l : List IV} {e z : IV} : z ∈ insQ g l e ↔ z = e ∨ z ∈ l := by
  unfold insQ
  rw [insI_eq, List.mem_append, List.mem_cons]
  constructor
  · rintro (h | h | h)
    · exact .inr (List.mem_of_mem_take h)
    · exact .inl h
    · exact .inr (List.mem_of_mem_drop h)
  · rintro (h | h)
    · exact .inr (.inl h)
    · rw [← List.take_append_drop (idx g l (mkI g e)) l] at h
      rcases List.mem_append.1 h with h | h
      · exact .inl h
      · exact .inr (.inr h)
theorem insQ_len (g : Int) (l : List IV) (e : IV) : (insQ g l e).length = l.length + 1 := insI_len l e (idx_le _ _ _)
theorem insQ_perm (g : Int) (l : List IV) (e : IV) : (insQ g l e).Perm (e :: l) := by
  unfold insQ
  rw [insI_eq]
  refine List.perm_middle.trans ?_
  rw [List.take_append_drop]
theorem byId_ins {g : Int} {l : List IV} {e : IV} (h : byId l e.id = none) (x : Int) : byId (insQ g l e) x = if x = e.id then some e else byId l x := by
  have hsp : byId l x = (byId (l.take (idx g l (mkI g e))) x).or (byId (l.drop (idx g l (mkI g e))) x) := by rw [← byId_app, List.take_append_drop]
  unfold insQ
  rw [insI_eq, byId_app, byId_cons]
  by_cases hx : x = e.id
  · subst hx
    rw [if_pos rfl, if_pos rfl]
    have : byId (l.take (idx g l (mkI g e))) e.id = none := byId_eq_none.2 (fun z hz => byId_eq_none.1 h z (List.mem_of_mem_take hz))
    rw [this]; rfl
  · rw [if_neg hx, if_neg (fun h => hx h.symm), hsp]
theorem add_ok {s : QS} (h : s.ok) {x p u : Int} (hx : fits x) (hp : 0 ≤ p ∧ p ≤ 100) (hu : 0 ≤ u ∧ u ≤ 253402300799) (hn : byId s.l x = none) (hl : ¬ s.size ≤ s.l.length) (hs : s.added + 1 ≤ 1000000) : (s.add x p u).ok := by
  have hid := byId_eq_none.1 hn
  obtain ⟨e, he⟩ : ∃ e : IV, e = ⟨x, p, u, s.added + 1⟩ := ⟨_, rfl⟩
  have e1 : (mkI s.ag e).2 = s.added + 1 := by rw [he]; rfl
  unfold QS.add
  rw [← he]
  refine ⟨?_, ?_, fun z hz => ?_, fun z hz => ?_, by have := h.a0; show 0 ≤ s.added + 1; omega, hs, ?_, ?_, h.sz, h.ag1⟩
  · show (insQ s.ag s.l e).Pairwise _
    unfold insQ
    rw [insI_eq, List.pairwise_append]
    refine ⟨h.inc.sublist (List.take_sublist _ _), ?_, fun a ha b hb => ?_⟩
    · rw [List.pairwise_cons]
      refine ⟨fun b hb => ?_, h.inc.sublist (List.drop_sublist _ _)⟩
      have h1 := drop_ge h b hb
      have h2 := h.sqs b (List.mem_of_mem_drop hb)
      have h3 : (mkI s.ag b).2 = b.seq := rfl
      show ltM (mkI s.ag e) (mkI s.ag b)
      unfold ltM at *
      omega
    · have h1 := take_lt a ha
      rcases List.mem_cons.1 hb with rfl | hb
      · exact h1
      · have h2 := drop_ge h b hb
        have h3 := h.sqs b (List.mem_of_mem_drop hb)
        have h4 : (mkI s.ag b).2 = b.seq := rfl
        show ltM (mkI s.ag a) (mkI s.ag b)
        unfold ltM at *
        omega
  · show (insQ s.ag s.l e).Pairwise _
    unfold insQ
    rw [insI_eq, List.pairwise_append]
    refine ⟨h.nodup.sublist (List.take_sublist _ _), ?_, fun a ha b hb => ?_⟩
    · rw [List.pairwise_cons]
      refine ⟨fun b hb => ?_, h.nodup.sublist (List.drop_sublist _ _)⟩
      have := hid b (List.mem_of_mem_drop hb)
      rw [he]; exact fun h => this h.symm
    · rcases List.mem_cons.1 hb with rfl | hb
      · have := hid a (List.mem_of_mem_take ha)
        rw [he]; exact this
      · have hp := h.nodup
        rw [← List.take_append_drop (idx s.ag s.l (mkI s.ag e)) s.l, List.pairwise_append] at hp
        exact hp.2.2 a ha b hb
  · rcases insQ_mem.1 hz with rfl | hz
    · rw [he]; exact ⟨hx, hp, hu⟩
    · exact h.fit z hz
  · rcases insQ_mem.1 hz with rfl | hz
    · rw [he]; have := h.a0; show 1 ≤ s.added + 1 ∧ s.added + 1 ≤ s.added + 1; omega
    · have := h.sqs z hz; show 1 ≤ z.seq ∧ z.seq ≤ s.added + 1; omega
  · show ((insQ s.ag s.l e).length : Int) ≤ s.added + 1
    rw [insQ_len]; have := h.len; omega
  · show ((insQ s.ag s.l e).length : Int) ≤ s.size
    rw [insQ_len]; omega
theorem pushE_cases (s : QS) (x p u : Int) : (p < 0 ∧ pushE s x p u = 2) ∨ (¬ p < 0 ∧ 100 < p ∧ pushE s x p u = 2) ∨ (¬ p < 0 ∧ ¬ 100 < p ∧ u < 0 ∧ pushE s x p u = 14) ∨ (¬ p < 0 ∧ ¬ 100 < p ∧ ¬ u < 0 ∧ 253402300799 < u ∧ pushE s x p u = 14) ∨
    (¬ p < 0 ∧ ¬ 100 < p ∧ ¬ u < 0 ∧ ¬ 253402300799 < u ∧ hasB s x = true ∧ pushE s x p u = 6) ∨ (¬ p < 0 ∧ ¬ 100 < p ∧ ¬ u < 0 ∧ ¬ 253402300799 < u ∧ hasB s x = false ∧ s.size ≤ s.l.length ∧ pushE s x p u = 4) ∨
    (¬ p < 0 ∧ ¬ 100 < p ∧ ¬ u < 0 ∧ ¬ 253402300799 < u ∧ hasB s x = false ∧ ¬ s.size ≤ s.l.length ∧ pushE s x p u = 0) := by
  unfold pushE
  by_cases h1 : p < 0
  · left; exact ⟨h1, by rw [if_pos (.inl h1)]⟩
  by_cases h2 : 100 < p
  · right; left; exact ⟨h1, h2, by rw [if_pos (.inr h2)]⟩
  by_cases h3 : u < 0
  · right; right; left; exact ⟨h1, h2, h3, by rw [if_neg (by omega), if_pos (.inl h3)]⟩
  by_cases h4 : 253402300799 < u
  · right; right; right; left; exact ⟨h1, h2, h3, h4, by rw [if_neg (by omega), if_pos (.inr h4)]⟩
  cases h5 : hasB s x
  · by_cases h6 : s.size ≤ s.l.length
    · right; right; right; right; right; left; exact ⟨h1, h2, h3, h4, rfl, h6, by rw [if_neg (by omega), if_neg (by omega), if_neg (by simp), if_pos h6]⟩
    · right; right; right; right; right; right; exact ⟨h1, h2, h3, h4, rfl, h6, by rw [if_neg (by omega), if_neg (by omega), if_neg (by simp), if_neg h6]⟩
  · right; right; right; right; left; exact ⟨h1, h2, h3, h4, rfl, by rw [if_neg (by omega), if_neg (by omega), if_pos rfl]⟩

/-! ### Taking out -/
def QS.cut (s : QS) (i : Nat) : QS := ⟨s.l.take i ++ s.l.drop (i + 1), s.size, s.ag, s.added⟩
def remL (l : List IV) (x : Int) : List IV := l.filter (fun e => e.id != x)
def remE (s : QS) (x : Int) : Int := if hasB s x = true then 0 else 5
def remS (s : QS) (x : Int) : QS := ⟨remL s.l x, s.size, s.ag, s.added⟩
theorem sub_ok {s : QS} (h : s.ok) {m : List IV} (hm : m.Sublist s.l) : (⟨m, s.size, s.ag, s.added⟩ : QS).ok :=
  ⟨h.inc.sublist hm, h.nodup.sublist hm, fun e he => h.fit e (hm.subset he), fun e he => h.sqs e (hm.subset he), h.a0, h.a1, by have h1 := hm.length_le; have h2 := h.len; show (m.length : Int) ≤ s.added; omega, by have h1 := hm.length_le; have h2 := h.lsz; show (m.length : Int) ≤ s.size; omega, h.sz, h.ag1⟩
theorem remL_at {s : QS} (h : s.ok) {i : Nat} (hi : i < s.l.length) : remL s.l (s.l.getD i IV.zero).id = s.l.take i ++ s.l.drop (i + 1) := by
  rw [getD_get hi]
  have hp := h.nodup
  have hsp : s.l = s.l.take i ++ s.l[i] :: s.l.drop (i + 1) := by
    rw [← List.drop_eq_getElem_cons hi, List.take_append_drop]
  unfold remL
  conv => lhs; arg 2; rw [hsp]
  rw [List.filter_append, List.filter_cons_of_neg (by simp)]
  rw [List.pairwise_iff_getElem] at hp
  congr 1
  · rw [List.filter_eq_self]
    intro a ha
    obtain ⟨j, hj, rfl⟩ := List.mem_iff_getElem.1 ha
    rw [List.length_take] at hj
    rw [List.getElem_take]
    have := hp j i (by omega) hi (by omega)
    simpa using this
  · rw [List.filter_eq_self]
    intro a ha
    obtain ⟨j, hj, rfl⟩ := List.mem_iff_getElem.1 ha
    rw [List.length_drop] at hj
    rw [List.getElem_drop]
    have := hp i (i + 1 + j) hi (by omega) (by omega)
    simpa using fun h => this h.symm
theorem remS_at {s : QS} (h : s.ok) {i : Nat} (hi : i < s.l.length) : remS s (s.l.getD i IV.zero).id = s.cut i := by
  unfold remS QS.cut
  rw [remL_at h hi]
theorem remS_none {s : QS} {x : Int} (h : hasB s x = false) : remS s x = s := by
  have := hasB_false h
  have e1 : remL s.l x = s.l := by
    unfold remL
    rw [List.filter_eq_self]
    intro a ha
    simpa using this a ha
  unfold remS
  rw [e1]
theorem byId_rem (l : List IV) (x z : Int) : byId (remL l x) z = if z = x then none else byId l z := by
  induction l with
  | nil => simp [remL, byId]
  | cons a l ih =>
    unfold remL at ih ⊢
    by_cases h : a.id = x
    · rw [List.filter_cons_of_neg (by simpa using h), ih, byId_cons]
      by_cases hz : z = x
      · rw [if_pos hz, if_pos hz]
      · rw [if_neg hz, if_neg hz, if_neg (fun e => hz (by rw [← e, h]))]
    · rw [List.filter_cons_of_pos (by simpa using h), byId_cons, ih, byId_cons]
      by_cases hz : z = x
      · rw [if_pos hz, if_neg (fun e => h (by rw [e, hz]))]
        rw [if_pos hz]
      · rw [if_neg hz, if_neg hz]
theorem cut_ok {s : QS} (h : s.ok) (i : Nat) : (s.cut i).ok := sub_ok h (by
  have := List.Sublist.append (List.Sublist.refl (s.l.take i)) (List.drop_sublist_drop_left s.l (Nat.le_succ i))
  rwa [List.take_append_drop] at this)
theorem cut_len (s : QS) {i : Nat} (hi : i < s.l.length) : (s.cut i).l.length = i + (s.l.length - (i + 1)) := by
  unfold QS.cut
  rw [List.length_append, List.length_take, List.length_drop]; omega
theorem icells_cut (s : QS) (i : Nat) : icells (s.cut i).l = delL (icells s.l) (i * 4) ((i + 1) * 4) := by
  unfold QS.cut delL
  rw [icells_app, icells_take, icells_drop]

/-! ### Pick -/
def pickN (p : Int → Bool) (l : List IV) : Nat := (l.takeWhile (fun e => !p e.id)).length
theorem pickN_le (p : Int → Bool) (l : List IV) : pickN p l ≤ l.length := by
  unfold pickN
  exact (List.takeWhile_prefix _ (l := l)).length_le
theorem pickN_eq {p : Int → Bool} {l : List IV} {i : Nat} (h0 : i ≤ l.length) (h1 : ∀ j, j < i → p (l.getD j IV.zero).id = false) (h2 : i < l.length → p (l.getD i IV.zero).id = true) : pickN p l = i := by
  unfold pickN
  induction l generalizing i with
  | nil => simp at h0; rw [h0]; rfl
  | cons a l ih =>
    cases i with
    | zero =>
      have := h2 (by simp)
      rw [List.getD_cons_zero] at this
      rw [List.takeWhile_cons_of_neg (by simp [this])]
      rfl
    | succ i =>
      have := h1 0 (by omega)
      rw [List.getD_cons_zero] at this
      rw [List.takeWhile_cons_of_pos (by simp [this]), List.length_cons]
      congr 1
      refine ih (by simpa using h0) (fun j hj => ?_) (fun hi => ?_)
      · have := h1 (j + 1) (by omega)
        rwa [List.getD_cons_succ] at this
      · have := h2 (by simpa using hi)
        rwa [List.getD_cons_succ] at this
/-- What Pick answers, and what it leaves. -/
def pickV (p : Int → Bool) (s : QS) : Int := if pickN p s.l < s.l.length then (s.l.getD (pickN p s.l) IV.zero).id else 0
def pickB (p : Int → Bool) (s : QS) : Bool := decide (pickN p s.l < s.l.length)
def pickS (p : Int → Bool) (s : QS) : QS := if pickN p s.l < s.l.length then s.cut (pickN p s.l) else s
end Go.Proofs.Ytcjcoigjedcieaa
