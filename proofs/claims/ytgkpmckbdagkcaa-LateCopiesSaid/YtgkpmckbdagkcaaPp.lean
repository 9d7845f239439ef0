/- What passes: plain facts; two lists beside each other. -/
import Derived.Test.YtgkpmckbdagkcaaAl
namespace Go.Proofs.Ytgkpmckbdagkcaa
open Go.RowKit Go.Wk

def atN (s : LS) (i : Nat) : Int := (s.l.getD i LE.zero).at_
def idN (s : LS) (i : Nat) : Int := (s.l.getD i LE.zero).id
theorem mem_get {s : LS} {i : Nat} (hi : i < s.l.length) : s.l.getD i LE.zero ∈ s.l := by
  have e : s.l.getD i LE.zero = s.l[i] := by simp [hi]
  rw [e]; exact List.getElem_mem _
theorem atN_rng {s : LS} (h : s.ok) {i : Nat} (hi : i < s.l.length) : 0 ≤ atN s i ∧ atN s i ≤ 4611686018427387904 := h.ats _ (mem_get hi)
theorem atN_le {s : LS} (h : s.ok) {i j : Nat} (hij : i ≤ j) (hj : j < s.l.length) : atN s i ≤ atN s j := by
  rcases Nat.lt_or_ge i j with hlt | hge
  · have := h.lt hlt hj
    unfold ltM LE.mk_ at this
    dsimp only at this
    unfold atN; omega
  · rw [show i = j by omega]; exact Int.le_refl _
theorem pastN_le' (s : LS) (now : Int) : pastN s now ≤ s.l.length := idx_le _ _
theorem pastN_lt {s : LS} (h : s.ok) {now : Int} {j : Nat} (hj : j < pastN s now) : atN s j < now := by
  have h1 := (idx_at (l := s.l) (t := (now, 0))).1 j hj
  have h2 := h.sqs _ (mem_get (s := s) (i := j) (by have := pastN_le' s now; omega))
  unfold ltM LE.mk_ at h1
  dsimp only at h1
  unfold atN
  omega
theorem pastN_ge {s : LS} (h : s.ok) {now : Int} {j : Nat} (hj : pastN s now ≤ j) (hl : j < s.l.length) : now ≤ atN s j := by
  have h1 := (idx_at (l := s.l) (t := (now, 0))).2 (by show pastN s now < _; omega)
  have h3 := atN_le h hj hl
  unfold ltM LE.mk_ at h1
  dsimp only at h1
  have e : idx s.l (now, 0) = pastN s now := rfl
  rw [e] at h1
  unfold atN at *
  omega
theorem pastN_eq {s : LS} (h : s.ok) {now : Int} {n : Nat} (h0 : n ≤ s.l.length) (h1 : ∀ j, j < n → atN s j < now) (h2 : n < s.l.length → now ≤ atN s n) : pastN s now = n := by
  rcases Nat.lt_trichotomy (pastN s now) n with hl | he | hg
  · have a := pastN_ge h (now := now) (Nat.le_refl _) (by omega)
    have b := h1 _ hl
    omega
  · exact he
  · have a := pastN_lt h hg
    have b := h2 (Nat.lt_of_lt_of_le hg (pastN_le' s now))
    omega
theorem pastS_ok {s : LS} (h : s.ok) (now : Int) : (pastS s now).ok := sub_ok h (List.drop_sublist _ _)
theorem pastG_len (s : LS) (now : Int) : (pastG s now).length = pastN s now := by
  unfold pastG
  rw [ids_len, List.length_take]
  have := pastN_le' s now
  omega
theorem getD_take (l : List LE) {i n : Nat} (h : i < n) : (l.take n).getD i LE.zero = l.getD i LE.zero := by
  rw [List.getD_eq_getElem?_getD, List.getElem?_take_of_lt h, ← List.getD_eq_getElem?_getD]
theorem getD_drop (l : List LE) (i n : Nat) : (l.drop n).getD i LE.zero = l.getD (n + i) LE.zero := by
  rw [List.getD_eq_getElem?_getD, List.getElem?_drop, ← List.getD_eq_getElem?_getD]
theorem pastG_get {s : LS} {now : Int} {k : Nat} (hk : k < pastN s now) : (pastG s now).getD k 0 = idN s k := by
  have := pastN_le' s now
  unfold pastG
  rw [ids_get _ _ (by rw [List.length_take]; omega), getD_take _ hk]
  rfl
theorem pastS_len (s : LS) (now : Int) : (pastS s now).l.length = s.l.length - pastN s now := List.length_drop ..
theorem pastS_at (s : LS) (now : Int) (i : Nat) : atN (pastS s now) i = atN s (pastN s now + i) := by unfold atN pastS; rw [getD_drop]
theorem pastS_id (s : LS) (now : Int) (i : Nat) : idN (pastS s now) i = idN s (pastN s now + i) := by unfold idN pastS; rw [getD_drop]
theorem vw_at {s s' : LS} (h : vw s.l = vw s'.l) (i : Nat) : atN s i = atN s' i := by
  have : ∀ l : List LE, (l.getD i LE.zero).at_ = ((vw l).getD i (0, 0)).2 := fun l => by
    unfold vw
    rw [List.getD_eq_getElem?_getD, List.getD_eq_getElem?_getD, List.getElem?_map]
    cases l[i]? <;> rfl
  unfold atN
  rw [this, this, h]
theorem vw_id {s s' : LS} (h : vw s.l = vw s'.l) (i : Nat) : idN s i = idN s' i := by
  have : ∀ l : List LE, (l.getD i LE.zero).id = ((vw l).getD i (0, 0)).1 := fun l => by
    unfold vw
    rw [List.getD_eq_getElem?_getD, List.getD_eq_getElem?_getD, List.getElem?_map]
    cases l[i]? <;> rfl
  unfold idN
  rw [this, this, h]
theorem vw_pastN {s s' : LS} (hs : s.ok) (hs' : s'.ok) (h : vw s.l = vw s'.l) (now : Int) : pastN s now = pastN s' now := by
  have hl := len_eq h
  exact pastN_eq hs (by rw [hl]; exact pastN_le' s' now) (fun j hj => by rw [vw_at h]; exact pastN_lt hs' hj) (fun hj => by rw [vw_at h]; exact pastN_ge hs' (Nat.le_refl _) (by rw [← hl]; exact hj))
theorem vw_pastS {s s' : LS} (hs : s.ok) (hs' : s'.ok) (h : vw s.l = vw s'.l) (now : Int) : vw (pastS s now).l = vw (pastS s' now).l := by
  show vw (s.l.drop _) = vw (s'.l.drop _)
  rw [vw_pastN hs hs' h]
  unfold vw at *
  rw [List.map_drop, List.map_drop, h]
theorem vw_pastG {s s' : LS} (hs : s.ok) (hs' : s'.ok) (h : vw s.l = vw s'.l) (now : Int) : pastG s now = pastG s' now := by
  unfold pastG
  rw [vw_pastN hs hs' h]
  have e := ids_eq h
  unfold ids at *
  rw [List.map_take, List.map_take, e]
/-- Twice. -/
theorem past_two {s : LS} (h : s.ok) {a b : Int} (hab : a ≤ b) : pastN s a ≤ pastN s b ∧ pastN (pastS s a) b = pastN s b - pastN s a ∧ pastS (pastS s a) b = pastS s b ∧ pastG s a ++ pastG (pastS s a) b = pastG s b ∧ pastN (pastS s b) a = 0 ∧ pastS (pastS s b) a = pastS s b := by
  have hle : pastN s a ≤ pastN s b := by
    rcases Nat.lt_or_ge (pastN s b) (pastN s a) with hlt | hge
    · have h1 := pastN_lt h hlt
      have h2 := pastN_ge h (now := b) (Nat.le_refl _) (by have := pastN_le' s a; omega)
      omega
    · exact hge
  have hb := pastN_le' s b
  have e1 : pastN (pastS s a) b = pastN s b - pastN s a := by
    refine pastN_eq (pastS_ok h a) (by rw [pastS_len]; omega) (fun j hj => ?_) (fun hj => ?_)
    · rw [pastS_at]; exact pastN_lt h (by omega)
    · rw [pastS_len] at hj
      rw [pastS_at]; exact pastN_ge h (by omega) (by omega)
  have e0 : pastN (pastS s b) a = 0 := by
    refine pastN_eq (pastS_ok h b) (Nat.zero_le _) (fun j hj => by omega) (fun hj => ?_)
    rw [pastS_len] at hj
    rw [pastS_at]
    have := pastN_ge h (now := b) (j := pastN s b + 0) (by omega) (by omega)
    omega
  refine ⟨hle, e1, ?_, ?_, e0, ?_⟩
  · show (⟨(s.l.drop (pastN s a)).drop (pastN (pastS s a) b), s.seq⟩ : LS) = ⟨s.l.drop (pastN s b), s.seq⟩
    rw [e1, List.drop_drop]
    congr 2
    omega
  · have e2 : pastG (pastS s a) b = ids ((s.l.drop (pastN s a)).take (pastN (pastS s a) b)) := rfl
    rw [e2, e1]
    unfold pastG ids
    rw [← List.map_append]
    congr 1
    have : pastN s b = pastN s a + (pastN s b - pastN s a) := by omega
    conv => rhs; rw [this, List.take_add]
  · show (⟨(pastS s b).l.drop (pastN (pastS s b) a), s.seq⟩ : LS) = pastS s b
    rw [e0]; rfl

/-! ### two lists -/
structure Two (w wr : World) (b : Nat) (D : Nat → Prop) (s : LS) (b' : Nat) (D' : Nat → Prop) (s' : LS) : Prop where
  x : Mine w wr b D s
  y : Mine w wr b' D' s'
  ap : ∀ k, D k → ¬ D' k
theorem Two.swap {w wr : World} {b b' : Nat} {D D' : Nat → Prop} {s s' : LS} (h : Two w wr b D s b' D' s') : Two w wr b' D' s' b D s := ⟨h.y, h.x, fun k h1 h2 => h.ap k h2 h1⟩
theorem Two.of {w w1 w2 : World} {b b' : Nat} {D D' : Nat → Prop} {s s' : LS} (h : Mine w w1 b D s) (hl : LateAt w2 b' D' s') (hD : ∀ k, D' k → w1.heap.size ≤ k) (hf : Fr No w1 w2) : Two w w2 b D s b' D' s' :=
  ⟨h.fr0 hf, ⟨hl, h.fr.then0 hf, fun k hk => Nat.le_trans h.fr.size (hD k hk)⟩, fun k h1 h2 => by have := h.at_.lt h1; have := hD k h2; omega⟩
theorem Two.fr0 {w w1 w2 : World} {b b' : Nat} {D D' : Nat → Prop} {s s' : LS} (h : Two w w1 b D s b' D' s') (hf : Fr No w1 w2) : Two w w2 b D s b' D' s' := ⟨h.x.fr0 hf, h.y.fr0 hf, h.ap⟩
theorem Two.past {w w1 w2 : World} {b b' : Nat} {D D' : Nat → Prop} {s s1 s' : LS} (h : Two w w1 b D s b' D' s') (hl : LateAt w2 b D s1) (hf : Fr D w1 w2) : Two w w2 b D s1 b' D' s' :=
  ⟨h.x.past hl hf, h.y.beside hf h.x.hD (fun k h1 h2 => h.ap k h2 h1), h.ap⟩
theorem Two.past2 {w w1 w2 : World} {b b' : Nat} {D D' : Nat → Prop} {s s1 s' : LS} (h : Two w w1 b D s b' D' s') (hl : LateAt w2 b' D' s1) (hf : Fr D' w1 w2) : Two w w2 b D s b' D' s1 := (h.swap.past hl hf).swap
theorem Two.next {w w1 w2 : World} {b b' : Nat} {D D' : Nat → Prop} {s s1 s' : LS} (h : Two w w1 b D s b' D' s') (ht : TurnedAt w1 b D s1 w2) : ∃ E, Two w w2 b E s1 b' D' s' ∧ (∀ k, E k → D k ∨ w1.heap.size ≤ k) ∧ Fr D w1 w2 := by
  obtain ⟨E, hx, hd, hf⟩ := h.x.next ht
  refine ⟨E, ⟨hx, h.y.beside hf h.x.hD (fun k h1 h2 => h.ap k h2 h1), fun k h1 h2 => ?_⟩, hd, hf⟩
  rcases hd k h1 with h3 | h3
  · exact h.ap k h3 h2
  · have := h.y.at_.lt h2; omega
theorem Two.next2 {w w1 w2 : World} {b b' : Nat} {D D' : Nat → Prop} {s s1 s' : LS} (h : Two w w1 b D s b' D' s') (ht : TurnedAt w1 b' D' s1 w2) : ∃ E, Two w w2 b D s b' E s1 ∧ (∀ k, E k → D' k ∨ w1.heap.size ≤ k) ∧ Fr D' w1 w2 := by
  obtain ⟨E, h1, h2, h3⟩ := h.swap.next ht
  exact ⟨E, h1.swap, h2, h3⟩
/-- A row that a call laid, beside a list's own blocks. -/
theorem own_nd {w1 : World} {D : Nat → Prop} {v : Value} {n : Nat} {xs : List Value} {w2 : World} (ho : w2.ownsRow w1.heap.size 3 1 v n xs) (hD : ∀ k, D k → k < w1.heap.size) : ∀ k, v.ownBlock = some k → ¬ D k := fun k hk hd => by
  have h1 := (ho.lt k hk).1
  have h2 := hD k hd
  omega
end Go.Proofs.Ytgkpmckbdagkcaa
