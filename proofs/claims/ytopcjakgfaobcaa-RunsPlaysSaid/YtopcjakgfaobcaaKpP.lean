/- RunsKeeps: plain; right. -/
import Derived.Test.YtopcjakgfaobcaaOld
import Derived.Test.YtopcjakgfaobcaaRfs
namespace Go.Proofs.Ytopcjakgfaobcaa
open Go.RowKit Go.Wk

/-- The law's search for a run: the last place with this number. -/
def atk (l : List RV) (r : Int) : Nat → Int
  | 0 => -1
  | k + 1 => if (l.getD k RV.zero).id = r then k else atk l r k
theorem atk_none {s : TS} {r : Int} (h : s.pos r = none) : ∀ k, k ≤ s.live.length → atk s.live r k = -1
  | 0, _ => rfl
  | k + 1, hk => by
    unfold TS.pos at h
    rw [List.findIdx?_eq_none_iff] at h
    have := h _ (mem_getD (l := s.live) (i := k) (by omega))
    unfold atk
    rw [if_neg (by simpa using this)]
    exact atk_none (by unfold TS.pos; rw [List.findIdx?_eq_none_iff]; exact h) k (by omega)
theorem pos_lt {s : TS} {r : Int} {i : Nat} (h : s.pos r = some i) : i < s.live.length ∧ (s.live.getD i RV.zero).id = r := by
  unfold TS.pos at h
  rw [List.findIdx?_eq_some_iff_getElem] at h
  obtain ⟨h1, h2, _⟩ := h
  exact ⟨h1, by simpa [h1] using h2⟩
theorem atk_some {s : TS} (hok : s.ok) {r : Int} {i : Nat} (h : s.pos r = some i) : ∀ k, k ≤ s.live.length → atk s.live r k = if i < k then (i : Int) else -1
  | 0, _ => by simp [atk]
  | k + 1, hk => by
    obtain ⟨hi, he⟩ := pos_lt h
    have ih := atk_some hok h k (by omega)
    unfold atk
    by_cases hik : i = k
    · subst hik
      rw [if_pos he, if_pos (by omega)]
    · have hne : ¬ (s.live.getD k RV.zero).id = r := by
        rw [← he]
        have e1 : s.live.getD k RV.zero = s.live[k] := by simp [show k < s.live.length by omega]
        have e2 : s.live.getD i RV.zero = s.live[i] := by simp [hi]
        rw [e1, e2]
        have := List.pairwise_iff_getElem.1 hok.inc
        rcases Nat.lt_or_gt_of_ne hik with h | h
        · have := this i k hi (by omega) h; omega
        · have := this k i (by omega) hi h; omega
      rw [if_neg hne, ih]
      by_cases h1 : i < k
      · rw [if_pos h1, if_pos (by omega)]
      · rw [if_neg h1, if_neg (by omega)]

theorem finS_size (s : TS) (r : Int) : (s.finS r).size = s.size := by
  unfold TS.finS
  split <;> rfl

/-- The table, and the law's own list of what should be in it. -/
structure KpI (w wr : World) (b : Nat) (D : Nat → Prop) (s : TS) (z : Int) (A : Option Addr) (c m : Nat) : Prop where
  own : Own w wr b D s
  row : RowOwn w wr D A c m s.live
  len : s.live.length = m
  size : s.size = z
theorem KpI.fr0 {w w1 w2 : World} {b : Nat} {D : Nat → Prop} {s : TS} {z : Int} {A : Option Addr} {c m : Nat} (h : KpI w w1 b D s z A c m) (hf : Fr No w1 w2) : KpI w w2 b D s z A c m := ⟨h.own.fr0 hf, h.row.fr0 hf, h.len, h.size⟩

theorem right_any (d j u a t r : Int) (w : World) :
    Calls Try.prog 19 #[.agg #[.int .i64 d, .int .i64 j, .int .i64 u, .int .i64 a, .int .i64 t, .int .i64 r]] w fun e w' => e = .returned (.bool (okA j a && okT u t)) ∧ Fr No w w' := by
  have HX := Lib.hid (Blk.new w 42 #[.int .i64 d, .int .i64 j, .int .i64 u, .int .i64 a, .int .i64 t, .int .i64 r])
  have HF := Lib.hid ((Fr.refl No w).alloc (.cells #[.int .i64 d, .int .i64 j, .int .i64 u, .int .i64 a, .int .i64 t, .int .i64 r] 42))
  obtain ⟨x0, x1, x2, x3, x4, x5⟩ := cells6 HX.out
  have hh : ¬ 0 ≤ j ∨ (0 ≤ j ∧ ¬ 1 ≤ a) ∨ (0 ≤ j ∧ 1 ≤ a ∧ ¬ 0 ≤ u) ∨ (0 ≤ j ∧ 1 ≤ a ∧ 0 ≤ u ∧ ¬ u ≤ 253402300799) ∨ (0 ≤ j ∧ 1 ≤ a ∧ 0 ≤ u ∧ u ≤ 253402300799 ∧ ¬ 0 ≤ t) ∨ (0 ≤ j ∧ 1 ≤ a ∧ 0 ≤ u ∧ u ≤ 253402300799 ∧ 0 ≤ t ∧ ¬ t ≤ 253402300799) ∨ (0 ≤ j ∧ 1 ≤ a ∧ 0 ≤ u ∧ u ≤ 253402300799 ∧ 0 ≤ t ∧ t ≤ 253402300799) := by omega
  rcases hh with h1 | ⟨h1, h2⟩ | ⟨h1, h2, h3⟩ | ⟨h1, h2, h3, h4⟩ | ⟨h1, h2, h3, h4, h5⟩ | ⟨h1, h2, h3, h4, h5, h6⟩ | ⟨h1, h2, h3, h4, h5, h6⟩
  all_goals
    go_enter Try.func19, Try.ntmps19
    go_wp2
    go_ret
    exact ⟨ret1b (by simp [okA, okT]; omega), HF.out⟩
end Go.Proofs.Ytopcjakgfaobcaa
