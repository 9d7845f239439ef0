/- The contracts of package gap: Gaps, Cover; slices.Min, Equal. -/
import Derived.Test.YtclhdhgagjpicaaA
namespace Go.Proofs.Ytclhdhgagjpicaa
open Go.RowKit Go.Wk

/-- A list of times that are valid and in order. -/
structure Good (l : List Int) : Prop where
  len : l.length ≤ 100000
  val : ∀ i, i < l.length → 0 ≤ l.getD i 0 ∧ l.getD i 0 ≤ 253402300799
  inc : ∀ i, i + 1 < l.length → l.getD i 0 < l.getD (i + 1) 0
theorem ob_false {l : List Int} : ∀ {k : Nat}, ob l k = false → ∀ j, 0 < j → j < k → l.getD (j - 1) 0 < l.getD j 0
  | 0, _, j, _, hj => by omega
  | k + 1, h, j, h0, hj => by
    unfold ob at h
    rw [Bool.or_eq_false_iff] at h
    rcases (show j < k ∨ j = k by omega) with hk | rfl
    · exact ob_false h.1 j h0 hk
    · have := h.2
      simp [h0] at this
      simpa using this
theorem good_of {l : List Int} (h1 : many l = false) (h2 : inv l = false) (h3 : ord l = false) : Good l := by
  refine ⟨by simpa [many] using h1, fun i hi => ?_, fun i hi => ?_⟩
  · have := List.any_eq_false.1 h2 l[i] (List.getElem_mem _)
    rw [show l.getD i 0 = l[i] by simp [hi]]
    simpa [vld] using this
  · have := ob_false h3 (i + 1) (by omega) hi
    simpa using this
theorem chk_ok {ls : List (List Int)} (h : chk ls = 0) : ∀ l ∈ ls, Good l := by
  unfold chk at h
  by_cases h1 : ls.any many = true
  · rw [if_pos h1] at h; omega
  · rw [if_neg h1] at h
    by_cases h2 : ls.any inv = true
    · rw [if_pos h2] at h; omega
    · rw [if_neg h2] at h
      by_cases h3 : ls.any ord = true
      · rw [if_pos h3] at h; omega
      · intro l hl
        have g1 := List.any_eq_false.1 (by simpa using h1) l hl
        have g2 := List.any_eq_false.1 (by simpa using h2) l hl
        have g3 := List.any_eq_false.1 (by simpa using h3) l hl
        exact good_of (by simpa using g1) (by simpa using g2) (by simpa using g3)

/-- The greedy windows: how many, and where the last one ends. -/
def covStep (v : Int) (s : Int × Int) (t : Int) : Int × Int := if s.2 ≤ t then (s.1 + 1, t + v) else s
def cov (l : List Int) (v : Int) : Int × Int := l.foldl (covStep v) (0, -1)
def covN (l : List Int) (v : Int) : Int := if wnd l v = 0 then (cov l v).1 else 0
theorem cov_succ {l : List Int} (v : Int) {k : Nat} (h : k < l.length) : cov (l.take (k + 1)) v = covStep v (cov (l.take k) v) (l.getD k 0) := by
  unfold cov
  rw [take_snoc l k h, List.foldl_append]
  rfl
theorem cov_bnd (v : Int) (hv : 1 ≤ v ∧ v ≤ 68719476736) : ∀ (l : List Int), (∀ x ∈ l, 0 ≤ x ∧ x ≤ 253402300799) → ∀ s : Int × Int, (0 ≤ s.1 ∧ -1 ≤ s.2 ∧ s.2 ≤ 253402300799 + 68719476736) → 0 ≤ (l.foldl (covStep v) s).1 ∧ (l.foldl (covStep v) s).1 ≤ s.1 + l.length ∧ -1 ≤ (l.foldl (covStep v) s).2 ∧ (l.foldl (covStep v) s).2 ≤ 253402300799 + 68719476736
  | [], _, s, hs => by simp; omega
  | t :: l, h, s, hs => by
    have ht := h t (by simp)
    have hst : 0 ≤ (covStep v s t).1 ∧ (covStep v s t).1 ≤ s.1 + 1 ∧ -1 ≤ (covStep v s t).2 ∧ (covStep v s t).2 ≤ 253402300799 + 68719476736 := by
      unfold covStep
      split
      · simp only; omega
      · omega
    have := cov_bnd v hv l (fun x hx => h x (by simp [hx])) (covStep v s t) ⟨hst.1, hst.2.2.1, hst.2.2.2⟩
    simp only [List.foldl_cons, List.length_cons]
    omega
theorem Good.mem {l : List Int} (h : Good l) : ∀ x ∈ l, 0 ≤ x ∧ x ≤ 253402300799 := fun x hx => by
  obtain ⟨i, hi, rfl⟩ := List.mem_iff_getElem.1 hx
  have := h.val i hi
  rwa [show l.getD i 0 = l[i] by simp [hi]] at this
theorem wnd_ok {l : List Int} {v : Int} (h : wnd l v = 0) : Good l ∧ 1 ≤ v ∧ v ≤ 68719476736 := by
  unfold wnd at h
  by_cases h1 : chk [l] = 0
  · rw [if_neg (by simpa using h1)] at h
    by_cases h2 : v < 1 ∨ 68719476736 < v
    · rw [if_pos h2] at h; omega
    · exact ⟨chk_ok h1 l (by simp), by omega⟩
  · rw [if_pos h1] at h; exact absurd h h1

theorem cover_any (A : Option Addr) (n c B : Nat) (l : List Int) (v : Int) (w : World) (h : Reads w B 1 A n (l.map (Value.int .i64))) (hB : B ≤ w.heap.size) :
    Calls Try.prog 15 #[.slice A n c, .int .i64 v] w fun e w' => e = .returned (.tuple #[.int .i64 (covN l v), .int .i64 (wnd l v)]) ∧ Fr No w w' := by
  have HW := Lib.hid (window_any A n c B l v w h hB)
  have HR := Lib.hid h
  have HN := Lib.hid h.length_ints
  clear h
  unfold covN
  by_cases hk : wnd l v = 0
  · obtain ⟨hg, hv1, hv2⟩ := wnd_ok hk
    have HG := Lib.hid hg
    have hn := hg.len
    rw [HN.out] at hn
    rw [hk] at HW ⊢
    rw [if_pos rfl]
    clear hg hk
    go_enter Try.func15, Try.ntmps15
    go_wp2_with (go_at_call 40; refine HW.out.mono ?_; rintro e w1 ⟨rfl, hf⟩)
    have HF := Lib.hid hf
    clear hf
    go_loopw [7, 8, 19] (fun q en i wr => ∃ k : Nat, i = .int .i64 k ∧ k ≤ n ∧ w1 = wr ∧ q = .int .i64 (cov (l.take k) v).1 ∧ en = .int .i64 (cov (l.take k) v).2) (fun _ _ i _ => n - (intOf i).toNat)
    case atStart => exact ⟨0, rfl, Nat.zero_le _, rfl, rfl, rfl⟩
    case round =>
      obtain ⟨k, rfl, hk, rfl, rfl, rfl⟩ := hrel
      by_cases hlt : k < n
      · obtain ⟨b, off, rfl, hb, hc⟩ := HR.out.int_at hlt
        have hc' := (HF.out.cell (p := ⟨b, off + k, none⟩) (Nat.lt_of_lt_of_le hb hB) (fun x => x)).trans hc
        have hvl := HG.out.val k (by rw [HN.out]; exact hlt)
        have HS := Lib.hid (cov_succ v (show k < l.length by rw [HN.out]; exact hlt))
        obtain ⟨hq1, hq2, hq3, hq4⟩ := cov_bnd v ⟨hv1, hv2⟩ (l.take k) (fun x hx => HG.out.mem x (List.mem_of_mem_take hx)) (0, -1) (by simp)
        rw [show (l.take k).foldl (covStep v) (0, -1) = cov (l.take k) v from rfl] at hq1 hq2 hq3 hq4
        have hl2 := List.length_take_le k l
        have hq5 : (cov (l.take k) v).1 ≤ 100000 := by simp at hq2; omega
        clear hc hq2 hl2
        obtain ⟨hvl1, hvl2⟩ := hvl
        generalize l.getD k 0 = t at *
        generalize cov (l.take k) v = s at *
        by_cases hts : s.2 ≤ t
        · have HE := Lib.hid (show covStep v s t = (s.1 + 1, t + v) by unfold covStep; rw [if_pos hts])
          go_wp2
          go_roundw
          case rel => exact ⟨k + 1, by go_num, by omega, (by trivial), by rw [HS.out, HE.out], by rw [HS.out, HE.out]⟩
          case measure => simp [intOf]; omega
        · have HE := Lib.hid (show covStep v s t = s by unfold covStep; rw [if_neg hts])
          go_wp2
          go_roundw
          case rel => exact ⟨k + 1, by go_num, by omega, (by trivial), by rw [HS.out, HE.out], by rw [HS.out, HE.out]⟩
          case measure => simp [intOf]; omega
      · rw [show l.take k = l from List.take_of_length_le (by rw [HN.out]; omega)]
        go_wp2
        go_ret2
        exact ⟨rfl, HF.out⟩
  · rw [if_neg hk]
    have hkb : (wnd l v != 0) = true := by simpa using hk
    generalize wnd l v = k at *
    go_enter Try.func15, Try.ntmps15
    go_wp2_with (go_at_call 40; refine HW.out.mono ?_; rintro e w1 ⟨rfl, hf⟩)
    go_ret2
    exact ⟨rfl, hf⟩

theorem equal_yes (A A' : Option Addr) (n c c' B B' : Nat) (xs : List Int) (w : World) (hn : n ≤ 9223372036854775807) (h : Reads w B 1 A n (xs.map (Value.int .i64))) (h' : Reads w B' 1 A' n (xs.map (Value.int .i64))) :
    Calls Try.prog 32 #[.slice A n c, .slice A' n c'] w fun x w' => x = .returned (.bool true) ∧ Fr No w w' := by
  have HR := Lib.hid h
  have HR' := Lib.hid h'
  clear h h'
  go_enter Try.func32, Try.ntmps32
  go_wp2
  go_loopw [13] (fun i wr => ∃ k m : Nat, k ≤ n ∧ i = .int .i64 k ∧ wr = w.drewN m) (fun i _ => n - (intOf i).toNat)
  case atStart => exact ⟨0, 0, Nat.zero_le _, rfl, rfl⟩
  case round =>
    obtain ⟨k, m, hk, rfl, rfl⟩ := hrel
    by_cases hlt : k < n
    · obtain ⟨b, off, rfl, _, hc⟩ := HR.out.int_at hlt
      obtain ⟨b', off', rfl, _, hc'⟩ := HR'.out.int_at hlt
      generalize xs.getD k 0 = y at *
      have hi1 : (k : Int) < (n : Int) := by omega
      go_wp2
      go_quiet (fail)
      go_wp2
      go_roundw
      case rel => exact ⟨k + 1, _, by omega, by go_num, rfl⟩
      case measure => simp [intOf]; omega
    · go_wp2
      go_ret
      exact ⟨rfl, (Fr.refl No w).drewN m⟩

/-- The smallest number. -/
def minL : List Int → Int
  | [] => 0
  | a :: l => l.foldl min a
theorem min_any (A : Option Addr) (n c B : Nat) (l : List Int) (w : World) (h : Reads w B 1 A n (l.map (Value.int .i64))) (h0 : 0 < n) (hn : n ≤ 9223372036854775807) :
    Calls Try.prog 29 #[.slice A n c] w fun e w' => e = .returned (.int .i64 (minL l)) ∧ w = w' := by
  have HR := Lib.hid h
  have HN := Lib.hid h.length_ints
  obtain ⟨b, off, rfl, hb, hc0⟩ := h.int_at h0
  rw [Nat.add_zero] at hc0
  clear h
  have HM := Lib.hid (show ∀ k, k < n → 0 < k → minL (l.take (k + 1)) = min (minL (l.take k)) (l.getD k 0) from fun k hk h1 => by
    rw [take_snoc l k (by rw [HN.out]; exact hk)]
    match hl : l.take k with
    | [] => have := congrArg List.length hl; simp [HN.out] at this; omega
    | a :: t => simp [minL])
  have HM1 := Lib.hid (show minL (l.take 1) = l.getD 0 0 from by
    rw [take_snoc l 0 (by rw [HN.out]; exact h0)]; rfl)
  have HMF := Lib.hid (show l.take n = l from List.take_of_length_le (by rw [HN.out]; exact Nat.le_refl _))
  have hn1 : ¬ n = 0 := by omega
  have hn2 : decide ((n : Int) < 1) = false := by simp; omega
  go_enter Try.func29, Try.ntmps29
  go_wp2
  go_loopw [3, 4] (fun m i wr => ∃ k : Nat, i = .int .i64 k ∧ k ≤ n ∧ 0 < k ∧ w = wr ∧ m = .int .i64 (minL (l.take k))) (fun _ i _ => n - (intOf i).toNat)
  case atStart => exact ⟨1, rfl, h0, by omega, rfl, by rw [HM1.out]; simp⟩
  case round =>
    obtain ⟨k, rfl, hk, hk0, rfl, rfl⟩ := hrel
    by_cases hlt : k < n
    · obtain ⟨b', off', hbb, _, hc⟩ := HR.out.int_at hlt
      injection hbb with hbb
      injection hbb with hb1 hb2
      subst hb1
      subst hb2
      have HS := Lib.hid (HM.out k hlt hk0)
      generalize l.getD k 0 = t at *
      generalize minL (l.take k) = m at *
      by_cases hmt : m ≤ t
      all_goals
        go_wp2
        go_roundw
        case rel => exact ⟨k + 1, by go_num, by omega, by omega, (by trivial), by rw [HS.out]; congr 1; omega⟩
        case measure => simp [intOf]; omega
    · have hkn : k = n := by omega
      rw [hkn, HMF.out]
      clear hk hk0 hlt hkn
      go_wp2
      go_ret
      exact ⟨rfl, rfl⟩
end Go.Proofs.Ytclhdhgagjpicaa
