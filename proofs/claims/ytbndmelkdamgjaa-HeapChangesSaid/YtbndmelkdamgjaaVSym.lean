/- What merges in place need: rotations, the binary searches of a symmetric merge. No program stands here. -/
import Derived.Test.YtbndmelkdamgjaaVSrt
namespace Go.Proofs.Ytbndmelkdamgjaa.So

/-- Two ranges of n items exchanged: the first k of them. -/
structure Xch (a b k : Nat) (L M : List TI) : Prop where
  len : M.length = L.length
  perm : M.Perm L
  fst : ∀ t, t < k → ati M (a + t) = ati L (b + t)
  snd : ∀ t, t < k → ati M (b + t) = ati L (a + t)
  out : ∀ i, (i < a ∨ a + k ≤ i) → (i < b ∨ b + k ≤ i) → ati M i = ati L i
theorem Xch.start (a b : Nat) (L : List TI) : Xch a b 0 L L := ⟨rfl, List.Perm.refl _, fun t h => by omega, fun t h => by omega, fun _ _ _ => rfl⟩
theorem Xch.step {a b k n : Nat} {L M : List TI} (h : Xch a b k L M) (hab : a + n ≤ b) (hk : k < n) (hb : b + n ≤ L.length) : Xch a b (k + 1) L (swp M (a + k) (b + k)) := by
  have hl := h.len
  have hat := fun i => swp_at (L := M) (i := a + k) (j := b + k) (by omega) (by omega) i
  refine ⟨by rw [swp_len]; exact hl, (swp_perm (by omega) (by omega)).trans h.perm, fun t ht => ?_, fun t ht => ?_, fun i h1 h2 => ?_⟩
  · rw [hat]
    by_cases e : t = k
    · subst e; rw [if_pos rfl]; exact h.out _ (by omega) (by omega)
    · rw [if_neg (by omega), if_neg (by omega)]; exact h.fst t (by omega)
  · rw [hat, if_neg (by omega)]
    by_cases e : t = k
    · subst e; rw [if_pos rfl]; exact h.out _ (by omega) (by omega)
    · rw [if_neg (by omega)]; exact h.snd t (by omega)
  · rw [hat, if_neg (by omega), if_neg (by omega)]; exact h.out i (by omega) (by omega)

/-- The two ranges [a, m) and [m, b) rotated. -/
structure Rot (a m b : Nat) (L M : List TI) : Prop where
  turn : Turn a b L M
  fst : ∀ t, t < b - m → ati M (a + t) = ati L (m + t)
  snd : ∀ t, t < m - a → ati M (a + (b - m) + t) = ati L (a + t)
theorem Rot.same {a m b : Nat} {L : List TI} (h : a = m ∨ m = b) (ham : a ≤ m) (hmb : m ≤ b) : Rot a m b L L :=
  ⟨Turn.refl _ _ _, fun t ht => by
    rcases h with rfl | rfl
    · rfl
    · omega, fun t ht => by
    rcases h with rfl | rfl
    · omega
    · rw [Nat.sub_self, Nat.add_zero]⟩
/-- Inside a rotation: i items in front of m and j behind it are left. -/
structure RotI (a m b i j : Nat) (L N : List TI) : Prop where
  turn : Turn a b L N
  hi : a + i ≤ m
  hj : m + j ≤ b
  i1 : 1 ≤ i
  j1 : 1 ≤ j
  rest : ∀ M : List TI, Rot (m - i) m (m + j) N M → Rot a m b L M
theorem RotI.start {a m b : Nat} {L : List TI} (h1 : a < m) (h2 : m < b) : RotI a m b (m - a) (b - m) L L :=
  ⟨Turn.refl _ _ _, by omega, by omega, by omega, by omega, fun M h => by
    rwa [show m - (m - a) = a by omega, show m + (b - m) = b by omega] at h⟩
theorem Xch.turn {a b k p q : Nat} {L M : List TI} (h : Xch a b k L M) (ha : p ≤ a) (hab : a + k ≤ b) (hb : b + k ≤ q) : Turn p q L M :=
  ⟨h.perm, fun i hi => h.out i (by omega) (by omega), fun i h1 h2 => by
    by_cases e1 : a ≤ i ∧ i < a + k
    · exact ⟨b + (i - a), by omega, by omega, by have := h.fst (i - a) (by omega); rwa [show a + (i - a) = i by omega] at this⟩
    · by_cases e2 : b ≤ i ∧ i < b + k
      · exact ⟨a + (i - b), by omega, by omega, by have := h.snd (i - b) (by omega); rwa [show b + (i - b) = i by omega] at this⟩
      · exact ⟨i, h1, h2, h.out i (by omega) (by omega)⟩⟩
theorem RotI.more {a m b i j : Nat} {L N K : List TI} (h : RotI a m b i j L N) (hij : j < i) (hx : Xch (m - i) m j N K) : RotI a m b (i - j) j L K := by
  obtain ⟨ht, hi, hj, i1, j1, hr⟩ := h
  refine ⟨ht.trans (hx.turn (by omega) (by omega) (by omega)), by omega, by omega, by omega, by omega, fun M hM => hr M ?_⟩
  have e0 : m - (i - j) = m - i + j := by omega
  rw [e0] at hM
  obtain ⟨mt, m1, m2⟩ := hM
  refine ⟨(hx.turn (p := m - i) (q := m + j) (Nat.le_refl _) (by omega) (Nat.le_refl _)).trans (mt.wide (by omega) (Nat.le_refl _)), fun t h1 => ?_, fun t h1 => ?_⟩
  · rw [mt.out _ (by omega)]; exact hx.fst t (by omega)
  · rw [show m + j - m = j by omega]
    by_cases c : t < j
    · have := m1 t (by omega)
      rw [this]; exact hx.snd t c
    · have := m2 (t - j) (by omega)
      rw [show m - i + j + (m + j - m) + (t - j) = m - i + j + t by omega, show m - i + j + (t - j) = m - i + t by omega] at this
      rw [this]; exact hx.out _ (by omega) (by omega)
theorem RotI.less {a m b i j : Nat} {L N K : List TI} (h : RotI a m b i j L N) (hij : i < j) (hx : Xch (m - i) (m + j - i) i N K) : RotI a m b i (j - i) L K := by
  obtain ⟨ht, hi, hj, i1, j1, hr⟩ := h
  refine ⟨ht.trans (hx.turn (by omega) (by omega) (by omega)), by omega, by omega, by omega, by omega, fun M hM => hr M ?_⟩
  have e0 : m + (j - i) = m + j - i := by omega
  rw [e0] at hM
  obtain ⟨mt, m1, m2⟩ := hM
  refine ⟨(hx.turn (p := m - i) (q := m + j) (Nat.le_refl _) (by omega) (by omega)).trans (mt.wide (Nat.le_refl _) (by omega)), fun t h1 => ?_, fun t h1 => ?_⟩
  · by_cases c : t < j - i
    · rw [m1 t (by omega)]; exact hx.out _ (by omega) (by omega)
    · have := m2 (t - (j - i)) (by omega)
      rw [show m - i + (m + j - i - m) + (t - (j - i)) = m - i + t by omega] at this
      rw [this, hx.fst (t - (j - i)) (by omega)]
      congr 1; omega
  · have := hx.snd t (by omega)
    rw [mt.out _ (by omega), show m - i + (m + j - m) + t = m + j - i + t by omega]
    exact this
theorem RotI.last {a m b i : Nat} {L N K : List TI} (h : RotI a m b i i L N) (hx : Xch (m - i) m i N K) : Rot a m b L K := by
  obtain ⟨ht, hi, hj, i1, j1, hr⟩ := h
  refine hr K ⟨hx.turn (Nat.le_refl _) (by omega) (Nat.le_refl _), fun t h1 => hx.fst t (by omega), fun t h1 => ?_⟩
  rw [show m - i + (m + i - m) + t = m + t by omega]
  exact hx.snd t (by omega)

/-- What a merge asks. -/
structure Mrg (y : KY) (a m b : Nat) (L : List TI) : Prop where
  am : a < m
  mb : m < b
  bl : b ≤ L.length
  left : Srt y a m L
  right : Srt y m b L
  tags : ∀ i j, a ≤ i → i < m → m ≤ j → j < b → (ati L i).2 < (ati L j).2
/-- One item moved up from a to k. -/
structure MvU (a k : Nat) (L M : List TI) : Prop where
  perm : M.Perm L
  low : ∀ p, p < a → ati M p = ati L p
  mid : ∀ p, a ≤ p → p < k → ati M p = ati L (p + 1)
  one : ati M k = ati L a
  high : ∀ p, k < p → ati M p = ati L p
theorem MvU.start (a : Nat) (L : List TI) : MvU a a L L := ⟨List.Perm.refl _, fun _ _ => rfl, fun p h1 h2 => by omega, rfl, fun _ _ => rfl⟩
theorem MvU.step {a k : Nat} {L M : List TI} (h : MvU a k L M) (ha : a ≤ k) (hk : k + 1 < M.length) : MvU a (k + 1) L (swp M k (k + 1)) := by
  have hat := fun i => swp_at (L := M) (i := k) (j := k + 1) (by omega) (by omega) i
  refine ⟨(swp_perm (by omega) (by omega)).trans h.perm, fun p hp => ?_, fun p h1 h2 => ?_, ?_, fun p hp => ?_⟩
  · rw [hat, if_neg (by omega), if_neg (by omega)]; exact h.low p hp
  · rw [hat]
    by_cases e : p = k
    · subst e; rw [if_pos rfl]; exact h.high _ (by omega)
    · rw [if_neg e, if_neg (by omega)]; exact h.mid p h1 (by omega)
  · rw [hat, if_neg (by omega), if_pos rfl]; exact h.one
  · rw [hat, if_neg (by omega), if_neg (by omega)]; exact h.high p (by omega)
theorem MvU.turn {a k b : Nat} {L M : List TI} (h : MvU a k L M) (ha : a ≤ k) (hk : k < b) : Turn a b L M :=
  ⟨h.perm, fun i hi => by
    rcases hi with hi | hi
    · exact h.low i hi
    · exact h.high i (by omega), fun i h1 h2 => by
    by_cases e : i < k
    · exact ⟨i + 1, by omega, by omega, h.mid i h1 e⟩
    · by_cases e2 : i = k
      · subst e2; exact ⟨a, Nat.le_refl _, by omega, h.one⟩
      · exact ⟨i, h1, h2, h.high i (by omega)⟩⟩
/-- The first of the left range has its place in the right one. -/
theorem Mrg.up {y : KY} {a b i : Nat} {L M : List TI} (h : Mrg y a (a + 1) b L) (h1 : a + 1 ≤ i) (hb : i ≤ b) (hl : ∀ p, a + 1 ≤ p → p < i → tlt y (ati L p) (ati L a)) (hr : ∀ p, i ≤ p → p < b → tlt y (ati L a) (ati L p)) (hm : MvU a (i - 1) L M) : Srt y a b M := by
  intro p q p1 pq q1
  have hR := h.right
  have hmid : ∀ p, a ≤ p → p < i - 1 → ati M p = ati L (p + 1) := hm.mid
  by_cases c1 : q < i - 1
  · rw [hmid p p1 (by omega), hmid q (by omega) c1]; exact hR _ _ (by omega) (by omega) (by omega)
  · by_cases c2 : q = i - 1
    · rw [c2, hm.one, hmid p p1 (by omega)]; exact hl _ (by omega) (by omega)
    · rw [hm.high q (by omega)]
      by_cases c3 : p < i - 1
      · rw [hmid p p1 c3]; exact hR _ _ (by omega) (by omega) q1
      · by_cases c4 : p = i - 1
        · rw [c4, hm.one]; exact hr q (by omega) q1
        · rw [hm.high p (by omega)]; exact hR _ _ (by omega) pq q1
/-- One item moved down from m to k. -/
structure MvD (m k : Nat) (L M : List TI) : Prop where
  perm : M.Perm L
  low : ∀ p, p < k → ati M p = ati L p
  one : ati M k = ati L m
  mid : ∀ p, k < p → p ≤ m → ati M p = ati L (p - 1)
  high : ∀ p, m < p → ati M p = ati L p
theorem MvD.start (m : Nat) (L : List TI) : MvD m m L L := ⟨List.Perm.refl _, fun _ _ => rfl, rfl, fun p h1 h2 => by omega, fun _ _ => rfl⟩
theorem MvD.step {m k : Nat} {L M : List TI} (h : MvD m k L M) (h0 : 0 < k) (hk : k ≤ m) (hm : m < M.length) : MvD m (k - 1) L (swp M k (k - 1)) := by
  have hat := fun i => swp_at (L := M) (i := k) (j := k - 1) (by omega) (by omega) i
  refine ⟨(swp_perm (by omega) (by omega)).trans h.perm, fun p hp => ?_, ?_, fun p h1 h2 => ?_, fun p hp => ?_⟩
  · rw [hat, if_neg (by omega), if_neg (by omega)]; exact h.low p (by omega)
  · rw [hat, if_neg (by omega), if_pos rfl]; exact h.one
  · rw [hat]
    by_cases e : p = k
    · subst e; rw [if_pos rfl]; exact h.low _ (by omega)
    · rw [if_neg e, if_neg (by omega)]; exact h.mid p (by omega) h2
  · rw [hat, if_neg (by omega), if_neg (by omega)]; exact h.high p hp
theorem MvD.turn {m k a b : Nat} {L M : List TI} (h : MvD m k L M) (ha : a ≤ k) (hk : k ≤ m) (hb : m < b) : Turn a b L M :=
  ⟨h.perm, fun i hi => by
    rcases hi with hi | hi
    · exact h.low i (by omega)
    · exact h.high i (by omega), fun i h1 h2 => by
    by_cases e : i < k
    · exact ⟨i, h1, h2, h.low i e⟩
    · by_cases e2 : i = k
      · subst e2; exact ⟨m, by omega, hb, h.one⟩
      · by_cases e3 : i ≤ m
        · exact ⟨i - 1, by omega, by omega, h.mid i (by omega) e3⟩
        · exact ⟨i, h1, h2, h.high i (by omega)⟩⟩
theorem Mrg.down {y : KY} {a m i : Nat} {L M : List TI} (h : Mrg y a m (m + 1) L) (h1 : a ≤ i) (hb : i ≤ m) (hl : ∀ p, a ≤ p → p < i → tlt y (ati L p) (ati L m)) (hr : ∀ p, i ≤ p → p < m → tlt y (ati L m) (ati L p)) (hm : MvD m i L M) : Srt y a (m + 1) M := by
  intro p q p1 pq q1
  have hR := h.left
  by_cases c1 : q < i
  · rw [hm.low p (by omega), hm.low q c1]; exact hR _ _ p1 pq (by omega)
  · by_cases c2 : q = i
    · rw [c2, hm.one, hm.low p (by omega)]; exact hl _ p1 (by omega)
    · rw [hm.mid q (by omega) (by omega)]
      by_cases c3 : p < i
      · rw [hm.low p c3]; exact hR _ _ p1 (by omega) (by omega)
      · by_cases c4 : p = i
        · rw [c4, hm.one]; exact hr _ (by omega) (by omega)
        · rw [hm.mid p (by omega) (by omega)]; exact hR _ _ (by omega) (by omega) (by omega)

/-- The middle search: where it stands. -/
structure Mid (y : KY) (m d lo hi s r : Nat) (L : List TI) : Prop where
  ls : lo ≤ s
  sr : s ≤ r
  rh : r ≤ hi
  low : ∀ c, lo ≤ c → c < s → tlt y (ati L c) (ati L (d + m - 1 - c))
  high : ∀ c, r ≤ c → c < hi → tlt y (ati L (d + m - 1 - c)) (ati L c)
theorem Mid.start {y : KY} {m d lo hi : Nat} {L : List TI} (h : lo ≤ hi) : Mid y m d lo hi lo hi L := ⟨Nat.le_refl _, h, Nat.le_refl _, fun c h1 h2 => by omega, fun c h1 h2 => by omega⟩
/-- The bounds of the search. -/
def Bnd (a m b d lo hi : Nat) : Prop := (a + b = 2 * d ∨ a + b = 2 * d + 1) ∧ ((m > d ∧ lo = d + m - b ∧ hi = d) ∨ (m ≤ d ∧ lo = a ∧ hi = m))
theorem Mid.up {y : KY} {a m b d lo hi s r c : Nat} {L : List TI} (g : Mrg y a m b L) (hB : Bnd a m b d lo hi) (h : Mid y m d lo hi s r L) (h1 : s ≤ c) (h2 : c < r) (hc : tlt y (ati L c) (ati L (d + m - 1 - c))) : Mid y m d lo hi (c + 1) r L := by
  obtain ⟨am, mb, bl, hL, hR, _⟩ := g
  obtain ⟨ls, sr, rh, l1, l2⟩ := h
  refine ⟨by omega, by omega, rh, fun d d1 d2 => ?_, l2⟩
  by_cases e : d = c
  · rw [e]; exact hc
  · rcases hB with ⟨hd2, ⟨b1, b2, b3⟩ | ⟨b1, b2, b3⟩⟩
    · exact tlt_trans (hL d c (by omega) (by omega) (by omega)) (tlt_trans hc (hR _ _ (by omega) (by omega) (by omega)))
    · exact tlt_trans (hL d c (by omega) (by omega) (by omega)) (tlt_trans hc (hR _ _ (by omega) (by omega) (by omega)))
theorem Mid.down {y : KY} {a m b d lo hi s r c : Nat} {L : List TI} (g : Mrg y a m b L) (hB : Bnd a m b d lo hi) (h : Mid y m d lo hi s r L) (h1 : s ≤ c) (h2 : c < r) (hc : tlt y (ati L (d + m - 1 - c)) (ati L c)) : Mid y m d lo hi s c L := by
  obtain ⟨am, mb, bl, hL, hR, _⟩ := g
  obtain ⟨ls, sr, rh, l1, l2⟩ := h
  refine ⟨ls, by omega, by omega, l1, fun d d1 d2 => ?_⟩
  by_cases e : d = c
  · rw [e]; exact hc
  · rcases hB with ⟨hd2, ⟨b1, b2, b3⟩ | ⟨b1, b2, b3⟩⟩
    · exact tlt_trans (hR _ _ (by omega) (by omega) (by omega)) (tlt_trans hc (hL c d (by omega) (by omega) (by omega)))
    · exact tlt_trans (hR _ _ (by omega) (by omega) (by omega)) (tlt_trans hc (hL c d (by omega) (by omega) (by omega)))
/-- Behind the rotation: the halves, and that the left one is below the right one. -/
structure Halves (y : KY) (a b d s e : Nat) (L M : List TI) : Prop where
  turn : Turn a b L M
  has : a ≤ s
  sm : s ≤ d
  me : d ≤ e
  eb : e ≤ b
  one : a < s → s < d → Mrg y a s (d) M
  one0 : ¬ (a < s ∧ s < d) → Srt y a (d) M
  two : d < e → e < b → Mrg y (d) e b M
  two0 : ¬ (d < e ∧ e < b) → Srt y (d) b M
  cross : ∀ i j, a ≤ i → i < d → d ≤ j → j < b → tlt y (ati M i) (ati M j)
theorem Mid.halves {y : KY} {a m b d lo hi s : Nat} {L M : List TI} (g : Mrg y a m b L) (hB : Bnd a m b d lo hi) (h : Mid y m d lo hi s s L) (h2 : a + 2 ≤ b) (hr : Rot s m (d + m - s) L M) : Halves y a b d s (d + m - s) L M := by
  obtain ⟨am, mb, bl, hL, hR, hT⟩ := g
  obtain ⟨ls, _, sh, l1, l2⟩ := h
  obtain ⟨rt, r1, r2⟩ := hr
  obtain ⟨e, he⟩ : ∃ e, d + m - s = e := ⟨_, rfl⟩
  have q1 : a ≤ s ∧ s ≤ d ∧ s ≤ m ∧ d ≤ e ∧ e ≤ b ∧ m ≤ e := by
    rcases hB with ⟨hd2, ⟨b1, b2, b3⟩ | ⟨b1, b2, b3⟩⟩ <;> omega
  rw [he] at rt ⊢
  simp only [he] at r1 r2
  have es : e - m = d - s := by omega
  have ms : m - s = e - d := by omega
  have A1 : ∀ i, i < s → ati M i = ati L i := fun i hi => rt.out i (.inl hi)
  have A2 : ∀ i, s ≤ i → i < d → ati M i = ati L (m + (i - s)) := fun i h1 h2 => by
    have := r1 (i - s) (by omega); rwa [show s + (i - s) = i by omega] at this
  have A3 : ∀ i, d ≤ i → i < e → ati M i = ati L (s + (i - d)) := fun i h1 h2 => by
    have := r2 (i - d) (by omega); rwa [show s + (e - m) + (i - d) = i by omega] at this
  have A4 : ∀ i, e ≤ i → ati M i = ati L i := fun i hi => rt.out i (.inr hi)
  have blM : b ≤ M.length := by rw [rt.len]; exact bl
  have S1 : Srt y a s M := fun i j h1 h2 h3 => by rw [A1 i (by omega), A1 j h3]; exact hL i j h1 h2 (by omega)
  have S2 : Srt y s d M := fun i j h1 h2 h3 => by rw [A2 i h1 (by omega), A2 j (by omega) h3]; exact hR _ _ (by omega) (by omega) (by omega)
  have S3 : Srt y d e M := fun i j h1 h2 h3 => by rw [A3 i h1 (by omega), A3 j (by omega) h3]; exact hL _ _ (by omega) (by omega) (by omega)
  have S4 : Srt y e b M := fun i j h1 h2 h3 => by rw [A4 i h1, A4 j (by omega)]; exact hR i j (by omega) h2 h3
  refine ⟨rt.wide q1.1 q1.2.2.2.2.1, q1.1, q1.2.1, q1.2.2.2.1, q1.2.2.2.2.1, fun h1 h2 => ⟨h1, h2, by omega, S1, S2, fun i j i1 i2 j1 j2 => ?_⟩, fun hn => ?_, fun h1 h2 => ?_, fun hn => ?_, fun i j i1 i2 j1 j2 => ?_⟩
  · rw [A1 i i2, A2 j j1 j2]; exact hT _ _ i1 (by omega) (by omega) (by omega)
  · by_cases c : a < s
    · have : s = d := by omega
      rw [← this]; exact S1
    · have : s = a := by omega
      rw [← this]; exact S2
  · exact ⟨h1, h2, blM, S3, S4, fun i j i1 i2 j1 j2 => by rw [A3 i i1 i2, A4 j j1]; exact hT _ _ (by omega) (by omega) (by omega) j2⟩
  · by_cases c : d < e
    · have : e = b := by omega
      rw [← this]; exact S3
    · have : e = d := by omega
      rw [← this]; exact S4
  · have low : ∀ c, lo ≤ c → c < s → tlt y (ati L c) (ati L (d + m - 1 - c)) := l1
    have high : ∀ c, s ≤ c → c < hi → tlt y (ati L (d + m - 1 - c)) (ati L c) := l2
    by_cases ci : i < s
    · rw [A1 i ci]
      by_cases cj : j < e
      · rw [A3 j j1 cj]; exact hL _ _ i1 (by omega) (by omega)
      · rw [A4 j (by omega)]
        have hlo : lo < s := by rcases hB with ⟨hd2, ⟨b1, b2, b3⟩ | ⟨b1, b2, b3⟩⟩ <;> omega
        have h5 := low (s - 1) (by omega) (by omega)
        rw [show d + m - 1 - (s - 1) = e by omega] at h5
        have h6 : tlt y (ati L i) (ati L e) := by
          by_cases c : i = s - 1
          · rw [c]; exact h5
          · exact tlt_trans (hL i (s - 1) i1 (by omega) (by omega)) h5
        by_cases c : j = e
        · rw [c]; exact h6
        · exact tlt_trans h6 (hR e j (by omega) (by omega) j2)
    · rw [A2 i (by omega) i2]
      by_cases cj : j < e
      · rw [A3 j j1 cj]
        have hhi : s < hi := by rcases hB with ⟨hd2, ⟨b1, b2, b3⟩ | ⟨b1, b2, b3⟩⟩ <;> omega
        have h5 := high s (Nat.le_refl _) hhi
        rw [show d + m - 1 - s = e - 1 by omega] at h5
        have h6 : tlt y (ati L (m + (i - s))) (ati L s) := by
          by_cases c : m + (i - s) = e - 1
          · rw [c]; exact h5
          · exact tlt_trans (hR _ (e - 1) (by omega) (by omega) (by omega)) h5
        by_cases c : s + (j - d) = s
        · rw [c]; exact h6
        · exact tlt_trans h6 (hL s _ (by omega) (by omega) (by omega))
      · rw [A4 j (by omega)]; exact hR _ _ (by omega) (by omega) j2
/-- Both halves in order: all is. -/
theorem Halves.join {y : KY} {a b d s e : Nat} {L M M1 M2 : List TI} (h : Halves y a b d s e L M) (t1 : Turn a (d) M M1) (s1 : Srt y a (d) M1) (t2 : Turn (d) b M1 M2) (s2 : Srt y (d) b M2) : Turn a b L M2 ∧ Srt y a b M2 := by
  have h1 := h.has
  have h2 := h.sm
  have h3 := h.me
  have h4 := h.eb
  refine ⟨h.turn.trans ((t1.wide (Nat.le_refl _) (by omega)).trans (t2.wide (by omega) (Nat.le_refl _))), fun i j i1 ij j1 => ?_⟩
  by_cases ci : d ≤ i
  · exact s2 i j ci ij j1
  · by_cases cj : j < d
    · rw [t2.out i (by omega), t2.out j (by omega)]; exact s1 i j i1 ij cj
    · obtain ⟨i', p1, p2, e1⟩ := t1.inn i i1 (by omega)
      obtain ⟨j', p3, p4, e2⟩ := t2.inn j (by omega) j1
      rw [t2.out i (by omega), e1, e2, t1.out j' (by omega)]
      exact h.cross i' j' p1 p2 p3 p4
end Go.Proofs.Ytbndmelkdamgjaa.So
