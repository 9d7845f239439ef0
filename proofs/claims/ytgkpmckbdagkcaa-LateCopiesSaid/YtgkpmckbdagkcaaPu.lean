/- What adding, removing and passing make of a state. No program's walk stands here. -/
import Derived.Test.YtgkpmckbdagkcaaI
namespace Go.Proofs.Ytgkpmckbdagkcaa
open Go.RowKit Go.Wk

theorem mkOf_cons (a : LE) (l : List LE) (x : Int) : mkOf (a :: l) x = if a.id = x then some a.mk_ else mkOf l x := by
  unfold mkOf
  by_cases h : a.id = x
  · rw [if_pos h, List.find?_cons_of_pos (by simpa using h)]; rfl
  · rw [if_neg h, List.find?_cons_of_neg (by simpa using h)]
theorem mkOf_app (l m : List LE) (x : Int) : mkOf (l ++ m) x = (mkOf l x).or (mkOf m x) := by
  induction l with
  | nil => rfl
  | cons a l ih =>
    rw [List.cons_append, mkOf_cons, mkOf_cons]
    by_cases h : a.id = x
    · rw [if_pos h, if_pos h]; rfl
    · rw [if_neg h, if_neg h, ih]
theorem mkOf_eq_none {l : List LE} {x : Int} : mkOf l x = none ↔ ∀ e ∈ l, e.id ≠ x := by
  constructor
  · intro h e he hx
    unfold mkOf at h
    rw [Option.map_eq_none_iff, List.find?_eq_none] at h
    exact h e he (by simpa using hx)
  · exact mkOf_none

/-! ### add -/
def addE (s : LS) (x d : Int) : Int := if d < 0 ∨ 4611686018427387904 < d then 2 else if getB s x = true then 6 else 0
def insE (l : List LE) (e : LE) : List LE := l.take (idx l e.mk_) ++ e :: l.drop (idx l e.mk_)
def addS (s : LS) (x d : Int) : LS := if addE s x d = 0 then ⟨insE s.l ⟨x, d, s.seq + 1⟩, s.seq + 1⟩ else s
theorem idx_at {l : List LE} {t : Int × Int} : (∀ j, j < idx l t → ltM (l.getD j LE.zero).mk_ t) ∧ (idx l t < l.length → ¬ ltM (l.getD (idx l t) LE.zero).mk_ t) := by
  unfold idx
  induction l with
  | nil => exact ⟨fun j hj => by simp at hj, fun h => by simp at h⟩
  | cons a l ih =>
    by_cases h : ltM a.mk_ t
    · rw [List.takeWhile_cons_of_pos (by simpa using h)]
      refine ⟨fun j hj => ?_, fun hj => ?_⟩
      · cases j with
        | zero => exact h
        | succ j => rw [List.getD_cons_succ]; exact ih.1 j (by simpa using hj)
      · rw [List.length_cons, List.getD_cons_succ]; exact ih.2 (by simpa using hj)
    · rw [List.takeWhile_cons_of_neg (by simpa using h)]
      exact ⟨fun j hj => by simp at hj, fun _ => by simpa using h⟩
theorem take_lt {l : List LE} {t : Int × Int} : ∀ e ∈ l.take (idx l t), ltM e.mk_ t := fun e he => by
  obtain ⟨j, hj, rfl⟩ := List.mem_iff_getElem.1 he
  rw [List.length_take] at hj
  have := idx_at (l := l) (t := t) |>.1 j (by omega)
  rw [List.getElem_take]
  have e : l.getD j LE.zero = l[j]'(by omega) := by simp [show j < l.length by omega]
  rwa [e] at this
theorem drop_ge {s : LS} (h : s.ok) {t : Int × Int} : ∀ e ∈ s.l.drop (idx s.l t), ¬ ltM e.mk_ t := fun e he hlt => by
  obtain ⟨j, hj, rfl⟩ := List.mem_iff_getElem.1 he
  rw [List.length_drop] at hj
  rw [List.getElem_drop] at hlt
  have h0 := idx_at (l := s.l) (t := t) |>.2 (by omega)
  cases j with
  | zero =>
    have e : s.l.getD (idx s.l t) LE.zero = s.l[idx s.l t]'(by omega) := by simp [show idx s.l t < s.l.length by omega]
    rw [e] at h0
    exact h0 hlt
  | succ j =>
    have h1 := h.lt (i := idx s.l t) (j := idx s.l t + (j + 1)) (by omega) (by omega)
    have e : s.l.getD (idx s.l t + (j + 1)) LE.zero = s.l[idx s.l t + (j + 1)]'(by omega) := by simp [show idx s.l t + (j + 1) < s.l.length by omega]
    rw [e] at h1
    exact h0 (ltM_trans h1 hlt)
theorem insE_mem {l : List LE} {e z : LE} : z ∈ insE l e ↔ z = e ∨ z ∈ l := by
  unfold insE
  rw [List.mem_append, List.mem_cons]
  constructor
  · rintro (h | h | h)
    · exact .inr (List.mem_of_mem_take h)
    · exact .inl h
    · exact .inr (List.mem_of_mem_drop h)
  · rintro (h | h)
    · exact .inr (.inl h)
    · rw [← List.take_append_drop (idx l e.mk_) l] at h
      rcases List.mem_append.1 h with h | h
      · exact .inl h
      · exact .inr (.inr h)
theorem insE_len (l : List LE) (e : LE) : (insE l e).length = l.length + 1 := by
  have := idx_le l e.mk_
  unfold insE
  rw [List.length_append, List.length_cons, List.length_take, List.length_drop]; omega
theorem mkOf_ins {l : List LE} {e : LE} (h : mkOf l e.id = none) (x : Int) : mkOf (insE l e) x = if x = e.id then some e.mk_ else mkOf l x := by
  have hsp : mkOf l x = (mkOf (l.take (idx l e.mk_)) x).or (mkOf (l.drop (idx l e.mk_)) x) := by rw [← mkOf_app, List.take_append_drop]
  unfold insE
  rw [mkOf_app, mkOf_cons]
  by_cases hx : x = e.id
  · subst hx
    rw [if_pos rfl, if_pos rfl]
    have : mkOf (l.take (idx l e.mk_)) e.id = none := mkOf_eq_none.2 (fun z hz => mkOf_eq_none.1 h z (List.mem_of_mem_take hz))
    rw [this]; rfl
  · rw [if_neg hx, if_neg (fun h => hx h.symm), hsp]
theorem insE_ok {s : LS} (h : s.ok) {x d : Int} (hx : fits x) (hd : 0 ≤ d ∧ d ≤ 4611686018427387904) (hn : mkOf s.l x = none) (hs : s.seq + 1 ≤ 10000) : (⟨insE s.l ⟨x, d, s.seq + 1⟩, s.seq + 1⟩ : LS).ok := by
  have hid := mkOf_eq_none.1 hn
  obtain ⟨e, he⟩ : ∃ e : LE, e = ⟨x, d, s.seq + 1⟩ := ⟨_, rfl⟩
  have e1 : e.mk_ = (d, s.seq + 1) := by rw [he]; rfl
  rw [← he]
  refine ⟨?_, ?_, fun z hz => ?_, fun z hz => ?_, fun z hz => ?_, by have := h.s0; show 0 ≤ s.seq + 1; omega, hs, ?_⟩
  · show (insE s.l e).Pairwise _
    unfold insE
    rw [List.pairwise_append]
    refine ⟨h.inc.sublist (List.take_sublist _ _), ?_, fun a ha b hb => ?_⟩
    · rw [List.pairwise_cons]
      refine ⟨fun b hb => ?_, h.inc.sublist (List.drop_sublist _ _)⟩
      have h1 := drop_ge h b hb
      have h2 := h.sqs b (List.mem_of_mem_drop hb)
      rw [e1] at h1 ⊢
      unfold ltM LE.mk_ at *
      dsimp only at *
      omega
    · have h1 := take_lt a ha
      rcases List.mem_cons.1 hb with rfl | hb
      · exact h1
      · have h2 := drop_ge h b hb
        have h3 := h.sqs b (List.mem_of_mem_drop hb)
        rw [e1] at h1 h2
        unfold ltM LE.mk_ at *
        dsimp only at *
        omega
  · show (insE s.l e).Pairwise _
    unfold insE
    rw [List.pairwise_append]
    refine ⟨h.nodup.sublist (List.take_sublist _ _), ?_, fun a ha b hb => ?_⟩
    · rw [List.pairwise_cons]
      refine ⟨fun b hb => ?_, h.nodup.sublist (List.drop_sublist _ _)⟩
      have := hid b (List.mem_of_mem_drop hb)
      rw [he]; exact fun h => this h.symm
    · rcases List.mem_cons.1 hb with rfl | hb
      · have := hid a (List.mem_of_mem_take ha)
        rw [he]; exact this
      · have hp := h.nodup
        rw [← List.take_append_drop (idx s.l e.mk_) s.l, List.pairwise_append] at hp
        exact hp.2.2 a ha b hb
  · rcases insE_mem.1 hz with rfl | hz
    · rw [he]; exact hx
    · exact h.fit z hz
  · rcases insE_mem.1 hz with rfl | hz
    · rw [he]; exact hd
    · exact h.ats z hz
  · rcases insE_mem.1 hz with rfl | hz
    · rw [he]; have := h.s0; show 1 ≤ s.seq + 1 ∧ s.seq + 1 ≤ s.seq + 1; omega
    · have := h.sqs z hz; show 1 ≤ z.sq ∧ z.sq ≤ s.seq + 1; omega
  · show ((insE s.l e).length : Int) ≤ s.seq + 1
    rw [insE_len]; have := h.len; omega
theorem ids_ins (l : List LE) (e : LE) : cells .i64 (ids (insE l e)) = insL (cells .i64 (ids l)) (idx l e.mk_) (.int .i64 e.id) := by
  unfold insE insL cells ids
  simp [List.map_take, List.map_drop]

/-! ### remove -/
def remL (l : List LE) (x : Int) : List LE := l.filter (fun e => e.id != x)
def remE (s : LS) (x : Int) : Int := if getB s x = true then 0 else 5
def remS (s : LS) (x : Int) : LS := ⟨remL s.l x, s.seq⟩
theorem sub_ok {s : LS} (h : s.ok) {m : List LE} (hm : m.Sublist s.l) : (⟨m, s.seq⟩ : LS).ok :=
  ⟨h.inc.sublist hm, h.nodup.sublist hm, fun e he => h.fit e (hm.subset he), fun e he => h.ats e (hm.subset he), fun e he => h.sqs e (hm.subset he), h.s0, h.s1, by have h1 := hm.length_le; have h2 := h.len; show (m.length : Int) ≤ s.seq; omega⟩
theorem remL_at {s : LS} (h : s.ok) {i : Nat} (hi : i < s.l.length) : remL s.l (s.l.getD i LE.zero).id = s.l.take i ++ s.l.drop (i + 1) := by
  have e : s.l.getD i LE.zero = s.l[i] := by simp [hi]
  rw [e]
  have hp := h.nodup
  have hsp : s.l = s.l.take i ++ s.l[i] :: s.l.drop (i + 1) := by
    rw [← List.drop_eq_getElem_cons hi, List.take_append_drop]
  unfold remL
  conv => lhs; arg 2; rw [hsp]
  rw [List.filter_append, List.filter_cons_of_neg (by simp)]
  rw [List.pairwise_iff_getElem] at hp
  congr 1
  · rw [List.filter_eq_self]
    intro a ha
    obtain ⟨j, hj, rfl⟩ := List.mem_iff_getElem.1 ha
    rw [List.length_take] at hj
    rw [List.getElem_take]
    have := hp j i (by omega) hi (by omega)
    simpa using this
  · rw [List.filter_eq_self]
    intro a ha
    obtain ⟨j, hj, rfl⟩ := List.mem_iff_getElem.1 ha
    rw [List.length_drop] at hj
    rw [List.getElem_drop]
    have := hp i (i + 1 + j) hi (by omega) (by omega)
    simpa using fun h => this h.symm
theorem mkOf_rem (l : List LE) (x z : Int) : mkOf (remL l x) z = if z = x then none else mkOf l z := by
  induction l with
  | nil => simp [remL, mkOf]
  | cons a l ih =>
    unfold remL at ih ⊢
    by_cases h : a.id = x
    · rw [List.filter_cons_of_neg (by simpa using h), ih, mkOf_cons]
      by_cases hz : z = x
      · rw [if_pos hz, if_pos hz]
      · rw [if_neg hz, if_neg hz, if_neg (fun e => hz (by rw [← e, h]))]
    · rw [List.filter_cons_of_pos (by simpa using h), mkOf_cons, ih, mkOf_cons]
      by_cases hz : z = x
      · rw [if_pos hz, if_neg (fun e => h (by rw [e, hz]))]
        rw [if_pos hz]
      · rw [if_neg hz, if_neg hz]
theorem idx_self {s : LS} (h : s.ok) {i : Nat} (hi : i < s.l.length) : idx s.l (s.l.getD i LE.zero).mk_ = i :=
  idx_eq (by omega) (fun _ hj => h.lt hj hi) (fun _ hl => by unfold ltM at hl; omega)
theorem getB_at {s : LS} {x : Int} (h : getB s x = true) : ∃ i, i < s.l.length ∧ (s.l.getD i LE.zero).id = x := by
  unfold getB at h
  obtain ⟨p, hp⟩ := Option.isSome_iff_exists.1 h
  obtain ⟨e, he, hx, _⟩ := mkOf_some hp
  obtain ⟨i, hi, rfl⟩ := List.mem_iff_getElem.1 he
  exact ⟨i, hi, by simpa [hi] using hx⟩
theorem ids_del (l : List LE) (i j : Nat) : cells .i64 (ids (l.take i ++ l.drop j)) = delL (cells .i64 (ids l)) i j := by
  unfold delL cells ids
  simp [List.map_take, List.map_drop]

/-! ### past -/
def pastN (s : LS) (now : Int) : Nat := idx s.l (now, 0)
def pastS (s : LS) (now : Int) : LS := ⟨s.l.drop (pastN s now), s.seq⟩
def pastG (s : LS) (now : Int) : List Int := ids (s.l.take (pastN s now))
theorem mkOf_drop {s : LS} (h : s.ok) {k : Nat} (hk : k < s.l.length) (z : Int) : mkOf (s.l.drop (k + 1)) z = if z = (s.l.getD k LE.zero).id then none else mkOf (s.l.drop k) z := by
  have e : s.l.getD k LE.zero = s.l[k] := by simp [hk]
  rw [e, List.drop_eq_getElem_cons hk, mkOf_cons]
  by_cases hz : z = s.l[k].id
  · rw [if_pos hz]
    apply mkOf_none
    intro a ha
    obtain ⟨j, hj, rfl⟩ := List.mem_iff_getElem.1 ha
    rw [List.length_drop] at hj
    rw [List.getElem_drop, hz]
    have := List.pairwise_iff_getElem.1 h.nodup k (k + 1 + j) hk (by omega) (by omega)
    exact fun h => this h.symm
  · rw [if_neg hz, if_neg (fun h => hz h.symm)]
end Go.Proofs.Ytgkpmckbdagkcaa
