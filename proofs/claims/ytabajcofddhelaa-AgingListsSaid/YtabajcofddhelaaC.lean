/- The contracts of cmp's functions at integers, of key and order. -/
import Derived.Test.YtabajcofddhelaaB
import Derived.Deep.RegionHeld3
namespace Go.Proofs.Ytabajcofddhelaa
open Go.RowKit Go.Wk

theorem nan52 (x : Int) (w : World) : Calls Try.prog 52 #[.int .i64 x] w fun e w' => e = .returned (.bool false) ∧ w = w' := by
  have hh : (x != x) = false := by simp
  go_enter Try.func52, Try.ntmps52
  go_wp2
  go_ret
  exact ⟨rfl, rfl⟩
theorem nan53 (x : Int) (w : World) : Calls Try.prog 53 #[.int .i64 x] w fun e w' => e = .returned (.bool false) ∧ w = w' := by
  have hh : (x != x) = false := by simp
  go_enter Try.func53, Try.ntmps53
  go_wp2
  go_ret
  exact ⟨rfl, rfl⟩
def cmpI (a b : Int) : Int := if a < b then -1 else if b < a then 1 else 0
theorem cmpI_cases (a b : Int) : (a < b ∧ ¬ b < a ∧ cmpI a b = -1) ∨ (¬ a < b ∧ b < a ∧ cmpI a b = 1) ∨ (¬ a < b ∧ ¬ b < a ∧ cmpI a b = 0) := by
  unfold cmpI
  by_cases h : a < b
  · left; exact ⟨h, by omega, by rw [if_pos h]⟩
  · by_cases h2 : b < a
    · right; left; exact ⟨h, h2, by rw [if_neg h, if_pos h2]⟩
    · right; right; exact ⟨h, h2, by rw [if_neg h, if_neg h2]⟩
theorem cmp47 (a b : Int) (w : World) : Calls Try.prog 47 #[.int .i64 a, .int .i64 b] w fun e w' => e = .returned (.int .i64 (cmpI a b)) ∧ w = w' := by
  rcases cmpI_cases a b with ⟨h1, h2, h3⟩ | ⟨h1, h2, h3⟩ | ⟨h1, h2, h3⟩
  all_goals
    rw [h3]
    clear h3
    go_enter Try.func47, Try.ntmps47
    go_wp2_with (go_at_call 52; refine (nan52 _ _).mono ?_; rintro e w1 ⟨rfl, rfl⟩)
    go_ret
    exact ⟨rfl, rfl⟩
theorem cmp48 (a b : Int) (w : World) : Calls Try.prog 48 #[.int .i64 a, .int .i64 b] w fun e w' => e = .returned (.int .i64 (cmpI a b)) ∧ w = w' := by
  rcases cmpI_cases a b with ⟨h1, h2, h3⟩ | ⟨h1, h2, h3⟩ | ⟨h1, h2, h3⟩
  all_goals
    rw [h3]
    clear h3
    go_enter Try.func48, Try.ntmps48
    go_wp2_with (go_at_call 53; refine (nan53 _ _).mono ?_; rintro e w1 ⟨rfl, rfl⟩)
    go_ret
    exact ⟨rfl, rfl⟩

/-- The first number that is not 0. -/
def or3 (a b c : Int) : Int := if a ≠ 0 then a else if b ≠ 0 then b else c
def ornth (l : List Int) : Int := (l.filter (fun x => x != 0)).headD 0
theorem or_any (g m : Nat) (l : List Int) (w : World) (hl : l.length = m) (hm : m ≤ 1000) (h : ∀ i, i < m → w.cell? ⟨g, i, none⟩ = some (.int .i64 (l.getD i 0))) :
    Calls Try.prog 46 #[.slice (some ⟨g, 0, none⟩) m m] w fun e w' => e = .returned (.int .i64 (ornth l)) ∧ w = w' := by
  have HH := Lib.hid h
  have HL := Lib.hid hl
  have HY := Lib.hid (show ∀ k, k < m → l.getD k 0 ≠ 0 → (∀ j, j < k → l.getD j 0 = 0) → ornth l = l.getD k 0 from fun k hk hne hz => by
    unfold ornth
    have e1 : (l.take k).filter (fun x => x != 0) = [] := List.filter_eq_nil_iff.2 (fun x hx => by
      obtain ⟨i, hi, rfl⟩ := List.mem_iff_getElem.1 hx
      rw [List.length_take] at hi
      have := hz i (by omega)
      simp [show i < l.length by omega] at this
      simp [this])
    conv => lhs; rw [← List.take_append_drop k l]
    rw [List.filter_append, e1, List.nil_append, List.drop_eq_getElem_cons (by rw [hl]; exact hk)]
    have e2 : l.getD k 0 = l[k]'(by rw [hl]; exact hk) := by simp [show k < l.length by rw [hl]; exact hk]
    rw [e2] at hne ⊢
    rw [List.filter_cons_of_pos (by simpa using hne)]
    rfl)
  have HN := Lib.hid (show (∀ j, j < m → l.getD j 0 = 0) → ornth l = 0 from fun hz => by
    unfold ornth
    rw [List.filter_eq_nil_iff.2 (fun x hx => by
      obtain ⟨i, hi, rfl⟩ := List.mem_iff_getElem.1 hx
      have := hz i (by omega)
      simp [hi] at this
      simp [this])]
    rfl)
  clear h hl
  generalize ornth l = r at *
  go_enter Try.func46, Try.ntmps46
  go_wp2
  go_loopw [8] (fun i wr => ∃ k : Nat, i = .int .i64 k ∧ k ≤ m ∧ w = wr ∧ Hid (∀ j, j < k → l.getD j 0 = 0)) (fun i _ => m - (intOf i).toNat)
  case atStart => exact ⟨0, rfl, Nat.zero_le _, rfl, Lib.hid (fun j hj => absurd hj (by omega))⟩
  case round =>
    obtain ⟨k, rfl, hk, rfl, HA⟩ := hrel
    by_cases hlt : k < m
    · have hc := HH.out k hlt
      obtain ⟨x, hx⟩ : ∃ x, x = l.getD k 0 := ⟨_, rfl⟩
      rw [← hx] at hc
      have HX := Lib.hid hx
      clear hx
      have hlt2 : (k : Int) < (m : Int) := by omega
      by_cases h0 : x = 0
      · have HA2 := Lib.hid (show ∀ j, j < k + 1 → l.getD j 0 = 0 from fun j hj => by
          rcases (show j < k ∨ j = k by omega) with h | rfl
          · exact HA.out j h
          · rw [← HX.out]; exact h0)
        have hb : (x != 0) = false := by simpa using h0
        clear h0
        go_wp2
        go_roundw
        case rel => exact ⟨k + 1, by go_num, by omega, (by trivial), HA2⟩
        case measure => simp [intOf]; omega
      · have HR := Lib.hid (HY.out k hlt (by rw [← HX.out]; exact h0) HA.out)
        rw [← HX.out] at HR
        have hb : (x != 0) = true := by simpa using h0
        clear h0
        go_wp2
        go_ret
        exact ⟨ret1i HR.out.symm, rfl⟩
    · obtain rfl := HN.out (fun j hj => HA.out j (by omega))
      go_wp2
      go_ret
      exact ⟨rfl, rfl⟩
theorem ornth3 (a b c : Int) : ornth [a, b, c] = or3 a b c := by
  unfold ornth or3
  by_cases ha : a = 0
  · by_cases hb : b = 0
    · by_cases hc : c = 0
      · simp [ha, hb, hc]
      · simp [ha, hb, hc]
    · simp [ha, hb]
  · simp [ha]
theorem or3_any (a b c : Int) (w : World) : Calls Try.prog 46 #[.slice (some ⟨w.heap.size, 0, none⟩) 3 3] (w.alloc (.cells #[.int .i64 a, .int .i64 b, .int .i64 c] 3)) fun e w' => e = .returned (.int .i64 (or3 a b c)) ∧ w.alloc (.cells #[.int .i64 a, .int .i64 b, .int .i64 c] 3) = w' := by
  rw [← ornth3]
  refine or_any w.heap.size 3 [a, b, c] _ rfl (by omega) (fun i hi => ?_)
  rw [(Blk.new w 3 #[.int .i64 a, .int .i64 b, .int .i64 c]).cell]
  rcases (show i = 0 ∨ i = 1 ∨ i = 2 by omega) with rfl | rfl | rfl <;> rfl

/-- An item is allowed. -/
structure Ok (x : IV) : Prop where
  p0 : 0 ≤ x.pr
  p1 : x.pr ≤ 100
  s0 : 0 ≤ x.since
  s1 : x.since ≤ 253402300799
def keyV (y : Int) (x : IV) : Int := x.since - x.pr * y
theorem mul_bnd {p y : Int} (h0 : 0 ≤ p) (h1 : p ≤ 100) (y0 : 1 ≤ y) (y1 : y ≤ 68719476736) : 0 ≤ p * y ∧ p * y ≤ 6871947673600 := by
  constructor
  · exact Int.mul_nonneg h0 (by omega)
  · have := Int.mul_le_mul h1 y1 (by omega) (by omega)
    omega
theorem keyV_bnd {y : Int} {x : IV} (h : Ok x) (y0 : 1 ≤ y) (y1 : y ≤ 68719476736) : -6871947673600 ≤ keyV y x ∧ keyV y x ≤ 253402300799 := by
  have := mul_bnd h.p0 h.p1 y0 y1
  have := h.s0
  have := h.s1
  unfold keyV
  omega
theorem key_any (x : IV) (y : Int) (w : World) (h : Ok x) (y0 : 1 ≤ y) (y1 : y ≤ 68719476736) :
    Calls Try.prog 33 #[.agg #[.int .i64 x.id, .int .i64 x.pr, .int .i64 x.since, .int .i64 x.seq], .int .i64 y] w fun e w' => e = .returned (.int .i64 (keyV y x)) ∧ Fr No w w' := by
  have hb := mul_bnd h.p0 h.p1 y0 y1
  obtain ⟨hb0, hb1⟩ := hb
  have hs0 := h.s0
  have hs1 := h.s1
  have hp0 := h.p0
  have hp1 := h.p1
  have HK := Lib.hid (show keyV y x = x.since - x.pr * y from rfl)
  clear h
  obtain ⟨id, pr, since, seq⟩ := x
  dsimp only at *
  obtain ⟨q, hq⟩ : ∃ q, pr * y = q := ⟨_, rfl⟩
  rw [hq] at HK hb0 hb1
  have hw1 : IntKind.i64.wrap q = q := by simp only [IntKind.wrap_i64]; omega
  have hw2 : wrap64 q = q := by unfold wrap64; omega
  go_enter Try.func33, Try.ntmps33
  go_wp2
  go_ret
  exact ⟨ret1i HK.out.symm, (Fr.refl No w).alloc _⟩
theorem order_any (y : Int) (w : World) : Calls Try.prog 35 #[.int .i64 y] w fun e w' => e = .returned (.func (.func 45) #[] #[.pointer (some ⟨w.heap.size, 0, none⟩)]) ∧ w' = w.alloc (.cells #[.int .i64 y] 2) := by
  go_enter Try.func35, Try.ntmps35
  go_wp2
  go_ret
  exact ⟨rfl, rfl⟩
def ordI (y : Int) (a b : IV) : Int := or3 (cmpI (keyV y a) (keyV y b)) (cmpI a.seq b.seq) (cmpI a.id b.id)
end Go.Proofs.Ytabajcofddhelaa
