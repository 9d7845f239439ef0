/- The program's queue beside the document's. No walk stands here. -/
import Derived.Test.YtcjcoigjedcieaaPa
namespace Go.Proofs.Ytcjcoigjedcieaa
open Go.RowKit Go.Wk

def RTurnedAt (w : World) (r : Nat) (E : Nat → Prop) (t : QS) (w' : World) : Prop := ∃ E', RAt w' r E' t ∧ Fr E w w' ∧ ∀ k, E' k → E k ∨ w.heap.size ≤ k
theorem RTurned.at_ {w w' : World} {r : Nat} {v x : Value} {t : QS} {e : Ending} (h : RTurned w r v t x e w') : e = .returned x ∧ RTurnedAt w r (domR r v) t w' := by
  obtain ⟨he, v', hl, hf, hn⟩ := h
  refine ⟨he, _, ⟨v', hl, rfl⟩, hf, fun k hk => ?_⟩
  rcases hk with rfl | hk
  · exact .inl (.inl rfl)
  · exact (hn k hk).imp_left .inr
/-- The program's queue beside the document's, both the call's own. -/
structure PairV (w wr : World) (b : Nat) (D : Nat → Prop) (s : QS) (r : Nat) (E : Nat → Prop) (t : QS) : Prop where
  q : QAt wr b D s
  r : RAt wr r E t
  fr : Fr No w wr
  hD : ∀ k, D k → w.heap.size ≤ k
  hE : ∀ k, E k → w.heap.size ≤ k
  ap : ∀ k, D k → ¬ E k
  rel : Rel s t
section
variable {w w1 w2 w3 : World} {b r b2 r2 : Nat} {D E D2 E2 K : Nat → Prop} {s t s' t' s2 t2 : QS}
theorem PairV.fr0 (h : PairV w w1 b D s r E t) (hf : Fr No w1 w2) : PairV w w2 b D s r E t := ⟨h.q.fr0 hf, h.r.fr0 hf, h.fr.then0 hf, h.hD, h.hE, h.ap, h.rel⟩
theorem PairV.beside (h : PairV w w1 b D s r E t) (hf : Fr K w1 w2) (hK : ∀ k, K k → w.heap.size ≤ k) (hd : ∀ k, D k → ¬ K k) (he : ∀ k, E k → ¬ K k) : PairV w w2 b D s r E t :=
  ⟨h.q.fr hf hd, h.r.fr hf he, h.fr.ownS hf hK, h.hD, h.hE, h.ap, h.rel⟩
theorem PairV.lt (h : PairV w w1 b D s r E t) {k : Nat} (hk : D k ∨ E k) : k < w1.heap.size := hk.elim h.q.lt h.r.lt
/-- Both turn, one after the other. -/
theorem PairV.turn (h : PairV w w1 b D s r E t) (hq : TurnedAt w1 b D s' w2) (hr : RTurnedAt w2 r E t' w3) (hrel : Rel s' t') :
    ∃ D' E', PairV w w3 b D' s' r E' t' ∧ (∀ k, D' k ∨ E' k → (D k ∨ E k) ∨ w1.heap.size ≤ k) ∧ Fr (fun k => D k ∨ E k) w1 w3 := by
  obtain ⟨D', hq2, hf1, hd1⟩ := hq
  obtain ⟨E', hr3, hf2, he2⟩ := hr
  have hs1 := hf1.size
  have hde : ∀ k, D' k → ¬ E k := fun k hk he => by
    rcases hd1 k hk with h1 | h1
    · exact h.ap k h1 he
    · have := h.r.lt he; omega
  have hf : Fr (fun k => D k ∨ E k) w1 w3 := (hf1.mono (T := fun k => D k ∨ E k) (fun k hk => .inl hk)).trans (hf2.mono (T := fun k => D k ∨ E k) (fun k hk => .inr hk)) (fun _ _ z => z)
  refine ⟨D', E', ⟨hq2.fr hf2 hde, hr3, h.fr.ownS hf (fun k hk => hk.elim (h.hD k) (h.hE k)), fun k hk => ?_, fun k hk => ?_, fun k hk he => ?_, hrel⟩, fun k hk => ?_, hf⟩
  · rcases hd1 k hk with h1 | h1
    · exact h.hD k h1
    · exact Nat.le_trans h.fr.size h1
  · rcases he2 k hk with h1 | h1
    · exact h.hE k h1
    · exact Nat.le_trans h.fr.size (Nat.le_trans hs1 h1)
  · rcases he2 k he with h1 | h1
    · exact hde k hk h1
    · have := hq2.lt hk; omega
  · rcases hk with hk | hk
    · exact (hd1 k hk).imp_left .inl
    · rcases he2 k hk with h1 | h1
      · exact .inl (.inr h1)
      · exact .inr (Nat.le_trans hs1 h1)
theorem PairV.copy (h : PairV w w1 b D s r E t) (hq : NewAt w1 b2 D2 s w2) (hr : RAt w3 r2 E2 t) (hE2 : ∀ k, E2 k → w2.heap.size ≤ k) (hf : Fr No w2 w3) :
    PairV w w3 b2 D2 s r2 E2 t ∧ PairV w w3 b D s r E t ∧ (∀ k, D k ∨ E k → ¬ (D2 k ∨ E2 k)) := by
  have hs := h.fr.size
  have hs1 := hq.2.2.size
  refine ⟨⟨hq.1.fr0 hf, hr, (h.fr.then0 hq.2.2).then0 hf, fun k hk => Nat.le_trans hs (hq.2.1 k hk), fun k hk => Nat.le_trans hs (Nat.le_trans hs1 (hE2 k hk)), fun k h1 h2 => ?_, h.rel⟩, h.fr0 (hq.2.2.then0 hf), fun k h1 h2 => ?_⟩
  · have := hq.1.lt h1
    have := hE2 k h2
    omega
  · have := h.lt h1
    rcases h2 with h2 | h2
    · have := hq.2.1 k h2; omega
    · have := hE2 k h2; omega
theorem Rel.push (h : Rel s t) {x p u : Int} (hx : fits x) (hs : s.added + 1 ≤ 1000000) : pushE t x p u = pushE s x p u ∧ Rel (pushS s x p u) (rpushS t x p u) := by
  have he : pushE t x p u = pushE s x p u := by unfold pushE; rw [h.has, h.size, h.len]
  refine ⟨he, ?_⟩
  unfold pushS rpushS
  rw [he]
  rcases pushE_cases s x p u with ⟨_, h0⟩ | ⟨_, _, h0⟩ | ⟨_, _, _, h0⟩ | ⟨_, _, _, _, h0⟩ | ⟨_, _, _, _, _, h0⟩ | ⟨_, _, _, _, _, _, h0⟩ | ⟨h1, h2, h3, h4, h5, h6, h0⟩
  case inr.inr.inr.inr.inr.inr =>
    rw [if_pos h0, if_pos h0]
    have hb : Go.Proofs.Ytcjcoigjedcieaa.byId s.l x = none := by
      have : (Go.Proofs.Ytcjcoigjedcieaa.byId s.l x).isSome = false := h5
      simpa using this
    exact h.app (add_ok h.ok hx ⟨by omega, by omega⟩ ⟨by omega, by omega⟩ hb h6 hs)
  all_goals
    rw [if_neg (by rw [h0]; decide), if_neg (by rw [h0]; decide)]
    exact h
theorem pushS_added (s : QS) (x p u : Int) : (pushS s x p u).added ≤ s.added + 1 := by
  unfold pushS
  split
  · exact Int.le_refl _
  · omega
theorem pickS_added (p : Int → Bool) (s : QS) : (pickS p s).added = s.added := by
  unfold pickS
  split <;> rfl
theorem rPush_at (hr : RAt w r E t) (x p u : Int) (hs : t.added + 1 ≤ 1000000) (hls : (t.l.length : Int) ≤ t.size) :
    Calls Try.prog 36 #[.pointer (some ⟨r, 0, none⟩), .int .i64 x, .int .i64 p, .int .i64 u] w fun e w' => e = .returned (.int .i64 (pushE t x p u)) ∧ RTurnedAt w r E (rpushS t x p u) w' := by
  obtain ⟨v, hv, rfl⟩ := hr
  exact (rPush_any r v t x p u hs hls w hv).mono fun _ _ h => h.at_
theorem rRemove_at (hr : RAt w r E t) (x : Int) (hn : t.l.Pairwise (fun a b => a.id ≠ b.id)) :
    Calls Try.prog 37 #[.pointer (some ⟨r, 0, none⟩), .int .i64 x] w fun e w' => e = .returned (.int .i64 (remE t x)) ∧ RTurnedAt w r E (remS t x) w' := by
  obtain ⟨v, hv, rfl⟩ := hr
  exact (rRemove_any r v t x hn w hv).mono fun _ _ h => h.at_
theorem rItems_at (h : Rel s t) (hr : RAt w r E t) : Calls Try.prog 39 #[.pointer (some ⟨r, 0, none⟩)] w fun e w' => Cloned w s.l.length s.l e w' := by
  obtain ⟨v, hv, _⟩ := hr
  exact rItems_rel h r v w hv
theorem rCopy_at (hr : RAt w r E t) : Calls Try.prog 43 #[.pointer (some ⟨r, 0, none⟩)] w fun e w' => ∃ b2 E2, e = .returned (.pointer (some ⟨b2, 0, none⟩)) ∧ RAt w' b2 E2 t ∧ (∀ k, E2 k → w.heap.size ≤ k) ∧ Fr No w w' := by
  obtain ⟨v, hv, _⟩ := hr
  refine (rCopy_any r v t w hv).mono ?_
  rintro e w' ⟨b2, v2, he, hv2, hd, hf⟩
  exact ⟨b2, _, he, ⟨v2, hv2, rfl⟩, hd, hf⟩
theorem rPick_at (h : Rel s t) (p : Int → Bool) (la : List Int) (hla : ∀ e ∈ s.l, p e.id = true ↔ e.id ∈ la) (A : Option Addr) (m c : Nat) (hr : RAt w r E t) (ha : Reads w w.heap.size 1 A m (la.map (Value.int .i64))) (hm : m ≤ 1024) :
    Calls Try.prog 41 #[.pointer (some ⟨r, 0, none⟩), .slice A m c] w fun e w' => ∃ GA ca, e = .returned (.tuple #[.int .i64 (pickV p s), .bool (pickB p s), .slice GA (min (pickN p s.l + 1) s.l.length) ca]) ∧
      w'.ownsRow w.heap.size 3 1 (.slice GA (min (pickN p s.l + 1) s.l.length) ca) (min (pickN p s.l + 1) s.l.length) (cells .i64 ((ids s.l).take (min (pickN p s.l + 1) s.l.length))) ∧ RTurnedAt w r E (rpickS p s t) w' := by
  obtain ⟨v, hv, rfl⟩ := hr
  refine (rPick_rel h p la hla A m c r v w hv ha hm).mono ?_
  rintro e w' ⟨GA, ca, v', he, ho, hv', hf, hd⟩
  refine ⟨GA, ca, he, ho, _, ⟨v', hv', rfl⟩, hf, fun k hk => ?_⟩
  rcases hk with rfl | hk
  · exact .inl (.inl rfl)
  · exact (hd k hk).imp_left .inr
theorem shows_pair (h : PairV w w1 b D s r E t) (id : Int) (hid : fits id) : Calls Try.prog 44 #[.pointer (some ⟨b, 0, none⟩), .pointer (some ⟨r, 0, none⟩), .int .i64 id] w1 fun e w' => e = .returned (.bool true) ∧ Fr No w1 w' :=
  shows_any b r D E s t id hid w1 h.q h.r h.rel
end
end Go.Proofs.Ytcjcoigjedcieaa
