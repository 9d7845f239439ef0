/- Blocks of a row, each in order. No program stands here. -/
import Derived.Test.YtbndmelkdamgjaaVSym
namespace Go.Proofs.Ytbndmelkdamgjaa.So

/-- The end of a block. -/
def bend (sz n u : Nat) : Nat := min (u + sz) n
/-- Each block of sz items that begins from lo on and in front of hi is in order, and has its own items. -/
structure Bl (y : KY) (sz n lo hi : Nat) (L M : List TI) : Prop where
  srt : ∀ k, lo ≤ k * sz → k * sz < hi → Srt y (k * sz) (bend sz n (k * sz)) M
  inn : ∀ k i, lo ≤ k * sz → k * sz < hi → k * sz ≤ i → i < bend sz n (k * sz) → ∃ j, k * sz ≤ j ∧ j < bend sz n (k * sz) ∧ ati M i = ati L j
theorem Bl.none_ (y : KY) (sz n u : Nat) (L M : List TI) : Bl y sz n u u L M := ⟨fun k h1 h2 => by omega, fun k i h1 h2 => by omega⟩
/-- Loop 1. -/
theorem Bl.ins {y : KY} {n k e : Nat} {L M M' : List TI} (h : Bl y 20 n 0 (k * 20) L M) (hs : ∀ i, k * 20 ≤ i → ati M i = ati L i) (he : e = bend 20 n (k * 20)) (ht : Turn (k * 20) e M M') (h1 : Srt y (k * 20) e M') : Bl y 20 n 0 (k * 20 + 20) L M' := by
  have hb : bend 20 n (k * 20) ≤ k * 20 + 20 := Nat.min_le_left _ _
  refine ⟨fun r r1 r2 => ?_, fun r i r1 r2 r3 r4 => ?_⟩
  · by_cases c : r = k
    · subst c; rw [← he]; exact h1
    · have hb2 : bend 20 n (r * 20) ≤ r * 20 + 20 := Nat.min_le_left _ _
      exact (h.srt r r1 (by omega)).same (fun i i1 i2 => ht.out i (by omega))
  · by_cases c : r = k
    · subst c
      rw [← he] at r4 ⊢
      obtain ⟨j, j1, j2, e1⟩ := ht.inn i r3 r4
      exact ⟨j, j1, j2, e1.trans (hs j j1)⟩
    · have hb2 : bend 20 n (r * 20) ≤ r * 20 + 20 := Nat.min_le_left _ _
      obtain ⟨j, j1, j2, e1⟩ := h.inn r i r1 (by omega) r3 r4
      exact ⟨j, j1, j2, (ht.out i (by omega)).trans e1⟩
theorem Bl.less {y : KY} {sz n lo hi hi' : Nat} {L M : List TI} (h : Bl y sz n lo hi L M) (hh : hi' ≤ hi) : Bl y sz n lo hi' L M :=
  ⟨fun k h1 h2 => h.srt k h1 (by omega), fun k i h1 h2 => h.inn k i h1 (by omega)⟩
/-- Inside loop 3: a = k * (2 * sz). -/
structure Bl2 (y : KY) (sz n k : Nat) (L M : List TI) : Prop where
  done : Bl y (2 * sz) n 0 (k * (2 * sz)) L M
  todo : Bl y sz n (k * (2 * sz)) n L M
theorem Bl2.start {y : KY} {sz n : Nat} {L M : List TI} (h : Bl y sz n 0 n L M) : Bl2 y sz n 0 L M := by
  constructor
  · rw [Nat.zero_mul]; exact Bl.none_ _ _ _ _ _ _
  · rw [Nat.zero_mul]; exact h
theorem dbl (k sz : Nat) : (2 * k) * sz = k * (2 * sz) := by rw [Nat.mul_comm 2 k, Nat.mul_assoc]
theorem dbl1 (k sz : Nat) : (2 * k + 1) * sz = k * (2 * sz) + sz := by rw [Nat.add_mul, dbl, Nat.one_mul]
theorem step2 (k sz : Nat) : (k + 1) * (2 * sz) = k * (2 * sz) + 2 * sz := by rw [Nat.add_mul, Nat.one_mul]
theorem Bl2.mrg {y : KY} {sz n k : Nat} {L M : List TI} (h : Bl2 y sz n k L M) (hz : 0 < sz) (hn : k * (2 * sz) + sz < n) (hl : M.length = n) (ht : Tags 0 n L) : Mrg y (k * (2 * sz)) (k * (2 * sz) + sz) (bend (2 * sz) n (k * (2 * sz))) M := by
  obtain ⟨_, ts, ti⟩ := h
  have a1 := ts (2 * k) (by rw [dbl]; omega) (by rw [dbl]; omega)
  have a2 := ts (2 * k + 1) (by rw [dbl1]; omega) (by rw [dbl1]; omega)
  have b1 := fun i => ti (2 * k) i (by rw [dbl]; omega) (by rw [dbl]; omega)
  have b2 := fun i => ti (2 * k + 1) i (by rw [dbl1]; omega) (by rw [dbl1]; omega)
  rw [dbl] at a1 b1
  rw [dbl1] at a2 b2
  generalize k * (2 * sz) = a at *
  have e1 : bend sz n a = a + sz := by unfold bend; omega
  have e2 : bend sz n (a + sz) = bend (2 * sz) n a := by unfold bend; omega
  rw [e1] at a1 b1
  rw [e2] at a2 b2
  have e3 : bend (2 * sz) n a ≤ n := Nat.min_le_right _ _
  refine ⟨by omega, by unfold bend; omega, by omega, a1, a2, fun i j i1 i2 j1 j2 => ?_⟩
  obtain ⟨i', p1, p2, p3⟩ := b1 i i1 i2
  obtain ⟨j', q1, q2, q3⟩ := b2 j j1 j2
  rw [p3, q3]
  exact ht i' j' (Nat.zero_le _) (by omega) (by omega)
theorem Bl2.next {y : KY} {sz n k : Nat} {L M M' : List TI} (h : Bl2 y sz n k L M) (hz : 0 < sz) (hn : k * (2 * sz) + sz < n) (ht : Turn (k * (2 * sz)) (bend (2 * sz) n (k * (2 * sz))) M M') (h1 : Srt y (k * (2 * sz)) (bend (2 * sz) n (k * (2 * sz))) M') : Bl2 y sz n (k + 1) L M' := by
  obtain ⟨hd, ts, ti⟩ := h
  have b1 := fun i => ti (2 * k) i (by rw [dbl]; omega) (by rw [dbl]; omega)
  have b2 := fun i => ti (2 * k + 1) i (by rw [dbl1]; omega) (by rw [dbl1]; omega)
  rw [dbl] at b1
  rw [dbl1] at b2
  have hb : bend (2 * sz) n (k * (2 * sz)) ≤ k * (2 * sz) + 2 * sz := Nat.min_le_left _ _
  have hwh : ∀ r, r * (2 * sz) < k * (2 * sz) + 2 * sz → r = k ∨ (r * (2 * sz) < k * (2 * sz) ∧ r * (2 * sz) + 2 * sz ≤ k * (2 * sz)) := fun r hr => by
    by_cases c : r = k
    · exact .inl c
    · right
      have hr2 : r * (2 * sz) < (k + 1) * (2 * sz) := by rw [step2]; exact hr
      have h3 : r < k + 1 := Nat.lt_of_mul_lt_mul_right hr2
      have h4 : (r + 1) * (2 * sz) ≤ k * (2 * sz) := Nat.mul_le_mul_right _ (by omega)
      rw [step2] at h4
      omega
  constructor
  · rw [step2]
    refine ⟨fun r r1 r2 => ?_, fun r i r1 r2 r3 r4 => ?_⟩
    · rcases hwh r r2 with rfl | ⟨c1, c2⟩
      · exact h1
      · have hb2 : bend (2 * sz) n (r * (2 * sz)) ≤ r * (2 * sz) + 2 * sz := Nat.min_le_left _ _
        exact (hd.srt r r1 c1).same (fun i i1 i2 => ht.out i (by omega))
    · rcases hwh r r2 with rfl | ⟨c1, c2⟩
      · obtain ⟨j, j1, j2, e1⟩ := ht.inn i r3 r4
        have e2 : bend sz n (r * (2 * sz)) = r * (2 * sz) + sz := by unfold bend; omega
        have e3 : bend sz n (r * (2 * sz) + sz) = bend (2 * sz) n (r * (2 * sz)) := by unfold bend; omega
        rw [e2] at b1
        rw [e3] at b2
        have e4 : r * (2 * sz) + sz ≤ bend (2 * sz) n (r * (2 * sz)) := by unfold bend; omega
        by_cases c : j < r * (2 * sz) + sz
        · obtain ⟨m, m1, m2, m3⟩ := b1 j j1 c
          exact ⟨m, m1, by omega, e1.trans m3⟩
        · obtain ⟨m, m1, m2, m3⟩ := b2 j (by omega) j2
          exact ⟨m, by omega, m2, e1.trans m3⟩
      · have hb2 : bend (2 * sz) n (r * (2 * sz)) ≤ r * (2 * sz) + 2 * sz := Nat.min_le_left _ _
        obtain ⟨j, j1, j2, e1⟩ := hd.inn r i r1 c1 r3 r4
        exact ⟨j, j1, j2, (ht.out i (by omega)).trans e1⟩
  · rw [step2]
    refine ⟨fun r r1 r2 => (ts r (by omega) r2).same (fun i i1 i2 => ht.out i (by omega)), fun r i r1 r2 r3 r4 => ?_⟩
    obtain ⟨j, j1, j2, e1⟩ := ti r i (by omega) r2 r3 r4
    exact ⟨j, j1, j2, (ht.out i (by omega)).trans e1⟩
theorem Bl2.over {y : KY} {sz n k : Nat} {L M : List TI} (h : Bl2 y sz n k L M) (hn : n ≤ k * (2 * sz)) : Bl y (2 * sz) n 0 n L M := h.done.less hn
/-- A last block that has no second half. -/
theorem Bl2.last {y : KY} {sz n k : Nat} {L M : List TI} (h : Bl2 y sz n k L M) (hn : n ≤ k * (2 * sz) + sz) : Bl y (2 * sz) n 0 n L M := by
  obtain ⟨hd, ts, ti⟩ := h
  have hwh : ∀ r, r * (2 * sz) < n → r * (2 * sz) < k * (2 * sz) ∨ (r = k ∧ k * (2 * sz) < n) := fun r hr => by
    by_cases c : r * (2 * sz) < k * (2 * sz)
    · exact .inl c
    · right
      by_cases c2 : r = k
      · subst c2; exact ⟨rfl, hr⟩
      · exfalso
        by_cases c3 : r < k
        · exact c (by
            have h4 : (r + 1) * (2 * sz) ≤ k * (2 * sz) := Nat.mul_le_mul_right _ (by omega)
            rw [step2] at h4
            by_cases hz : sz = 0
            · subst hz; omega
            · omega)
        · have h4 : (k + 1) * (2 * sz) ≤ r * (2 * sz) := Nat.mul_le_mul_right _ (by omega)
          rw [step2] at h4
          omega
  refine ⟨fun r r1 r2 => ?_, fun r i r1 r2 r3 r4 => ?_⟩
  · rcases hwh r r2 with c | ⟨rfl, c⟩
    · exact hd.srt r r1 c
    · have := ts (2 * r) (by rw [dbl]; omega) (by rw [dbl]; exact c)
      rw [dbl] at this
      have e1 : bend sz n (r * (2 * sz)) = bend (2 * sz) n (r * (2 * sz)) := by unfold bend; omega
      rwa [e1] at this
  · rcases hwh r r2 with c | ⟨rfl, c⟩
    · exact hd.inn r i r1 c r3 r4
    · have := ti (2 * r) i (by rw [dbl]; omega) (by rw [dbl]; exact c)
      rw [dbl] at this
      have e1 : bend sz n (r * (2 * sz)) = bend (2 * sz) n (r * (2 * sz)) := by unfold bend; omega
      rw [e1] at this
      exact this r3 r4
theorem Bl.whole {y : KY} {sz n : Nat} {L M : List TI} (h : Bl y sz n 0 n L M) (hn : n ≤ sz) : Srt y 0 n M := by
  by_cases c : n = 0
  · subst c; exact fun i j h1 h2 h3 => by omega
  · have := h.srt 0 (by omega) (by omega)
    rw [Nat.zero_mul] at this
    have e1 : bend sz n 0 = n := by unfold bend; omega
    rwa [e1] at this
end Go.Proofs.Ytbndmelkdamgjaa.So
