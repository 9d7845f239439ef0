/- The contracts over a list and the blocks that are its own. -/
import Derived.Test.YtgkpmckbdagkcaaM
namespace Go.Proofs.Ytgkpmckbdagkcaa
open Go.RowKit Go.Wk

/-- What a call that turns a list leaves: its blocks, and new ones. -/
def TurnedAt (w : World) (b : Nat) (D : Nat → Prop) (s : LS) (w' : World) : Prop := ∃ D', LateAt w' b D' s ∧ Fr D w w' ∧ ∀ k, D' k → D k ∨ w.heap.size ≤ k
theorem Turned.at_ {w w' : World} {b bm : Nat} {v r : Value} {s : LS} {e : Ending} (h : Turned w b bm v s r e w') : e = .returned r ∧ TurnedAt w b (dom b bm v) s w' := by
  obtain ⟨he, v', hl, hf, hn⟩ := h
  refine ⟨he, _, ⟨bm, v', hl, rfl⟩, hf, fun k hk => ?_⟩
  rcases hk with rfl | rfl | hk
  · exact .inl (.inl rfl)
  · exact .inl (.inr (.inl rfl))
  · rcases hn k hk with h1 | h1
    · exact .inl (.inr (.inr h1))
    · exact .inr h1
theorem Add_at (b : Nat) (D : Nat → Prop) (s : LS) (x d : Int) (hx : fits x) (hs : s.seq + 1 ≤ 10000) (w : World) (h : LateAt w b D s) : Calls Try.prog 14 #[.pointer (some ⟨b, 0, none⟩), .int .i64 x, .int .i64 d] w fun e w' => e = .returned (.int .i64 (addE s x d)) ∧ TurnedAt w b D (addS s x d) w' := by
  obtain ⟨bm, v, hv, rfl⟩ := h
  exact (Add_any b bm v s x d hx hs w hv).mono fun _ _ h => h.at_
theorem Remove_at (b : Nat) (D : Nat → Prop) (s : LS) (x : Int) (hx : fits x) (w : World) (h : LateAt w b D s) : Calls Try.prog 20 #[.pointer (some ⟨b, 0, none⟩), .int .i64 x] w fun e w' => e = .returned (.int .i64 (remE s x)) ∧ TurnedAt w b D (remS s x) w' := by
  obtain ⟨bm, v, hv, rfl⟩ := h
  have hs : (if getB s x = true then remS s x else s) = remS s x := by
    by_cases hg : getB s x = true
    · rw [if_pos hg]
    · rw [if_neg hg]
      have hn : mkOf s.l x = none := by
        unfold getB at hg
        simpa using hg
      have := mkOf_eq_none.1 hn
      have e1 : remL s.l x = s.l := by
        unfold remL
        rw [List.filter_eq_self]
        intro a ha
        simpa using this a ha
      show s = ⟨remL s.l x, s.seq⟩
      rw [e1]
  have := Remove_any b bm v s x hx w hv
  rw [hs] at this
  exact this.mono fun _ _ h => h.at_
/-- What Past leaves: the ids in a row of their own, beside the list. -/
def PastAt (w : World) (b : Nat) (D : Nat → Prop) (s : LS) (now : Int) (e : Ending) (w' : World) : Prop := ∃ G gc, e = .returned (.slice G (pastN s now) gc) ∧ w'.ownsRow w.heap.size 3 1 (.slice G (pastN s now) gc) (pastN s now) (cells .i64 (pastG s now)) ∧ pastN s now ≤ gc ∧ LateAt w' b D (pastS s now) ∧ Fr D w w'
theorem Past_at (b : Nat) (D : Nat → Prop) (s : LS) (now : Int) (w : World) (h : LateAt w b D s) : Calls Try.prog 23 #[.pointer (some ⟨b, 0, none⟩), .int .i64 now] w fun e w' => PastAt w b D s now e w' := by
  obtain ⟨bm, v, hv, rfl⟩ := h
  refine (Past_any b bm v s now w hv).mono ?_
  rintro e w' ⟨G, gc, v', he, ho, hc, hl, hb, hf⟩
  refine ⟨G, gc, he, ho, hc, ⟨bm, v', hl, ?_⟩, hf⟩
  funext k
  unfold dom
  rw [hb]
theorem Get_at (b : Nat) (D : Nat → Prop) (s : LS) (x : Int) (hx : fits x) (w : World) (h : LateAt w b D s) : Calls Try.prog 29 #[.pointer (some ⟨b, 0, none⟩), .int .i64 x] w fun e w' => e = .returned (.tuple #[.int .i64 (getV s x), .bool (getB s x)]) ∧ Fr No w w' := by
  obtain ⟨bm, v, hv, rfl⟩ := h; exact Get_any b bm v s x hx w hv
theorem Len_at (b : Nat) (D : Nat → Prop) (s : LS) (w : World) (h : LateAt w b D s) : Calls Try.prog 31 #[.pointer (some ⟨b, 0, none⟩)] w fun e w' => e = .returned (.int .i64 s.l.length) ∧ w = w' := by
  obtain ⟨bm, v, hv, rfl⟩ := h; exact Len_any b bm v s w hv
theorem Ids_at (b : Nat) (D : Nat → Prop) (s : LS) (w : World) (h : LateAt w b D s) : Calls Try.prog 15 #[.pointer (some ⟨b, 0, none⟩)] w fun e w' => Cloned w s.l.length (ids s.l) e w' := by
  obtain ⟨bm, v, hv, rfl⟩ := h; exact Ids_any b bm v s w hv
theorem Next_at (b : Nat) (D : Nat → Prop) (s : LS) (w : World) (h : LateAt w b D s) : Calls Try.prog 27 #[.pointer (some ⟨b, 0, none⟩)] w fun e w' => e = .returned (.tuple #[.int .i64 (nextV s), .bool (nextB s)]) ∧ Fr No w w' := by
  obtain ⟨bm, v, hv, rfl⟩ := h; exact Next_any b bm v s w hv
theorem Copy_at (b : Nat) (D : Nat → Prop) (s : LS) (w : World) (h : LateAt w b D s) : Calls Try.prog 25 #[.pointer (some ⟨b, 0, none⟩)] w fun e w' => NewLate w s e w' := by
  obtain ⟨bm, v, hv, rfl⟩ := h; exact Copy_any b bm v s w hv
end Go.Proofs.Ytgkpmckbdagkcaa
