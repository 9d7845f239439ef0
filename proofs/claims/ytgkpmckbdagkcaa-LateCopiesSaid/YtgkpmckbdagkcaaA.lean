/- The contracts of cmp's functions at integers, and of a mark's before. -/
import Derived.Test.YtgkpmckbdagkcaaMp
import Derived.Test.YtgkpmckbdagkcaaChecked
import Derived.Deep.RegionHeld3
import Derived.Shelf.Abstract
import Derived.Shelf.RegionOpen
namespace Go.Proofs.Ytgkpmckbdagkcaa
open Go.RowKit Go.Wk

theorem nan54 (x : Int) (w : World) : Calls Try.prog 54 #[.int .i64 x] w fun e w' => e = .returned (.bool false) ∧ w = w' := by
  have hh : (x != x) = false := by simp
  go_enter Try.func54, Try.ntmps54
  go_wp2
  go_ret
  exact ⟨rfl, rfl⟩
theorem nan55 (x : Int) (w : World) : Calls Try.prog 55 #[.int .i64 x] w fun e w' => e = .returned (.bool false) ∧ w = w' := by
  have hh : (x != x) = false := by simp
  go_enter Try.func55, Try.ntmps55
  go_wp2
  go_ret
  exact ⟨rfl, rfl⟩
def cmpI (a b : Int) : Int := if a < b then -1 else if b < a then 1 else 0
theorem cmpI_cases (a b : Int) : (a < b ∧ ¬ b < a ∧ cmpI a b = -1) ∨ (¬ a < b ∧ b < a ∧ cmpI a b = 1) ∨ (¬ a < b ∧ ¬ b < a ∧ cmpI a b = 0) := by
  unfold cmpI
  by_cases h : a < b
  · left; exact ⟨h, by omega, by rw [if_pos h]⟩
  · by_cases h2 : b < a
    · right; left; exact ⟨h, h2, by rw [if_neg h, if_pos h2]⟩
    · right; right; exact ⟨h, h2, by rw [if_neg h, if_neg h2]⟩
theorem cmp51 (a b : Int) (w : World) : Calls Try.prog 51 #[.int .i64 a, .int .i64 b] w fun e w' => e = .returned (.int .i64 (cmpI a b)) ∧ w = w' := by
  rcases cmpI_cases a b with ⟨h1, h2, h3⟩ | ⟨h1, h2, h3⟩ | ⟨h1, h2, h3⟩
  all_goals
    rw [h3]
    clear h3
    go_enter Try.func51, Try.ntmps51
    go_wp2_with (go_at_call 54; refine (nan54 _ _).mono ?_; rintro e w1 ⟨rfl, rfl⟩)
    go_ret
    exact ⟨rfl, rfl⟩
theorem cmp52 (a b : Int) (w : World) : Calls Try.prog 52 #[.int .i64 a, .int .i64 b] w fun e w' => e = .returned (.int .i64 (cmpI a b)) ∧ w = w' := by
  rcases cmpI_cases a b with ⟨h1, h2, h3⟩ | ⟨h1, h2, h3⟩ | ⟨h1, h2, h3⟩
  all_goals
    rw [h3]
    clear h3
    go_enter Try.func52, Try.ntmps52
    go_wp2_with (go_at_call 55; refine (nan55 _ _).mono ?_; rintro e w1 ⟨rfl, rfl⟩)
    go_ret
    exact ⟨rfl, rfl⟩

/-- The first number that is not 0. -/
def or2 (a b : Int) : Int := if a ≠ 0 then a else b
def ornth (l : List Int) : Int := (l.filter (fun x => x != 0)).headD 0
theorem or_any (g m : Nat) (l : List Int) (w : World) (hl : l.length = m) (hm : m ≤ 1000) (h : ∀ i, i < m → w.cell? ⟨g, i, none⟩ = some (.int .i64 (l.getD i 0))) :
    Calls Try.prog 50 #[.slice (some ⟨g, 0, none⟩) m m] w fun e w' => e = .returned (.int .i64 (ornth l)) ∧ w = w' := by
  have HH := Lib.hid h
  have HL := Lib.hid hl
  have HY := Lib.hid (show ∀ k, k < m → l.getD k 0 ≠ 0 → (∀ j, j < k → l.getD j 0 = 0) → ornth l = l.getD k 0 from fun k hk hne hz => by
    unfold ornth
    have e1 : (l.take k).filter (fun x => x != 0) = [] := List.filter_eq_nil_iff.2 (fun x hx => by
      obtain ⟨i, hi, rfl⟩ := List.mem_iff_getElem.1 hx
      rw [List.length_take] at hi
      have := hz i (by omega)
      simp [show i < l.length by omega] at this
      simp [this])
    conv => lhs; rw [← List.take_append_drop k l]
    rw [List.filter_append, e1, List.nil_append, List.drop_eq_getElem_cons (by rw [hl]; exact hk)]
    have e2 : l.getD k 0 = l[k]'(by rw [hl]; exact hk) := by simp [show k < l.length by rw [hl]; exact hk]
    rw [e2] at hne ⊢
    rw [List.filter_cons_of_pos (by simpa using hne)]
    rfl)
  have HN := Lib.hid (show (∀ j, j < m → l.getD j 0 = 0) → ornth l = 0 from fun hz => by
    unfold ornth
    rw [List.filter_eq_nil_iff.2 (fun x hx => by
      obtain ⟨i, hi, rfl⟩ := List.mem_iff_getElem.1 hx
      have := hz i (by omega)
      simp [hi] at this
      simp [this])]
    rfl)
  clear h hl
  generalize ornth l = r at *
  go_enter Try.func50, Try.ntmps50
  go_wp2
  go_loopw [8] (fun i wr => ∃ k : Nat, i = .int .i64 k ∧ k ≤ m ∧ w = wr ∧ Hid (∀ j, j < k → l.getD j 0 = 0)) (fun i _ => m - (intOf i).toNat)
  case atStart => exact ⟨0, rfl, Nat.zero_le _, rfl, Lib.hid (fun j hj => absurd hj (by omega))⟩
  case round =>
    obtain ⟨k, rfl, hk, rfl, HA⟩ := hrel
    by_cases hlt : k < m
    · have hc := HH.out k hlt
      obtain ⟨x, hx⟩ : ∃ x, x = l.getD k 0 := ⟨_, rfl⟩
      rw [← hx] at hc
      have HX := Lib.hid hx
      clear hx
      have hlt2 : (k : Int) < (m : Int) := by omega
      by_cases h0 : x = 0
      · have HA2 := Lib.hid (show ∀ j, j < k + 1 → l.getD j 0 = 0 from fun j hj => by
          rcases (show j < k ∨ j = k by omega) with h | rfl
          · exact HA.out j h
          · rw [← HX.out]; exact h0)
        have hb : (x != 0) = false := by simpa using h0
        clear h0
        go_wp2
        go_roundw
        case rel => exact ⟨k + 1, by go_num, by omega, (by trivial), HA2⟩
        case measure => simp [intOf]; omega
      · have HR := Lib.hid (HY.out k hlt (by rw [← HX.out]; exact h0) HA.out)
        rw [← HX.out] at HR
        have hb : (x != 0) = true := by simpa using h0
        clear h0
        go_wp2
        go_ret
        exact ⟨ret1i HR.out.symm, rfl⟩
    · obtain rfl := HN.out (fun j hj => HA.out j (by omega))
      go_wp2
      go_ret
      exact ⟨rfl, rfl⟩
theorem ornth2 (a b : Int) : ornth [a, b] = or2 a b := by
  unfold ornth or2
  by_cases ha : a = 0
  · by_cases hb : b = 0
    · simp [ha, hb]
    · simp [ha, hb]
  · simp [ha]
theorem or2_any (a b : Int) (w : World) : Calls Try.prog 50 #[.slice (some ⟨w.heap.size, 0, none⟩) 2 2] (w.alloc (.cells #[.int .i64 a, .int .i64 b] 3)) fun e w' => e = .returned (.int .i64 (or2 a b)) ∧ w.alloc (.cells #[.int .i64 a, .int .i64 b] 3) = w' := by
  rw [← ornth2]
  refine or_any w.heap.size 2 [a, b] _ rfl (by omega) (fun i hi => ?_)
  rw [(Blk.new w 3 #[.int .i64 a, .int .i64 b]).cell]
  rcases (show i = 0 ∨ i = 1 by omega) with rfl | rfl <;> rfl
theorem or2_drew (a b : Int) (w : World) : Calls Try.prog 50 #[.slice (some ⟨w.heap.size, 0, none⟩) 2 2] (w.alloc (.cells #[.int .i64 a, .int .i64 b] 3)).drew fun e w' => e = .returned (.int .i64 (or2 a b)) ∧ (w.alloc (.cells #[.int .i64 a, .int .i64 b] 3)).drew = w' := by
  rw [← ornth2]
  refine or_any w.heap.size 2 [a, b] _ rfl (by omega) (fun i hi => ?_)
  rw [(Blk.new w 3 #[.int .i64 a, .int .i64 b]).drew.cell]
  rcases (show i = 0 ∨ i = 1 by omega) with rfl | rfl <;> rfl

/-- Which mark comes before which. -/
def ltM (a b : Int × Int) : Prop := a.1 < b.1 ∨ (a.1 = b.1 ∧ a.2 < b.2)
instance (a b : Int × Int) : Decidable (ltM a b) := by unfold ltM; infer_instance
def ordM (a b : Int × Int) : Int := or2 (cmpI a.1 b.1) (cmpI a.2 b.2)
theorem ordM_lt (a b : Int × Int) : ordM a b < 0 ↔ ltM a b := by
  unfold ordM or2 ltM
  rcases cmpI_cases a.1 b.1 with ⟨h1, h2, h3⟩ | ⟨h1, h2, h3⟩ | ⟨h1, h2, h3⟩ <;>
  rcases cmpI_cases a.2 b.2 with ⟨k1, k2, k3⟩ | ⟨k1, k2, k3⟩ | ⟨k1, k2, k3⟩ <;>
  rw [h3, k3] <;> simp <;> omega

theorem blk2 {X : World} {b : Nat} {t : TypeId} {p q : Int} (h : Blk X b t #[.int .i64 p, .int .i64 q]) : X.cell? ⟨b, 0, none⟩ = some (.int .i64 p) ∧ X.cell? ⟨b, 1, none⟩ = some (.int .i64 q) := ⟨h.cell 0, h.cell 1⟩
set_option maxRecDepth 100000 in
set_option maxHeartbeats 8000000 in
theorem before_any (a b : Int × Int) (w : World) : Calls Try.prog 47 #[val2 a, val2 b] w fun e w' => e = .returned (.int .i64 (ordM a b)) ∧ Fr No w w' := by
  obtain ⟨a1, a2⟩ := a
  obtain ⟨b1, b2⟩ := b
  have HO := Lib.hid (show ordM (a1, a2) (b1, b2) = or2 (cmpI a1 b1) (cmpI a2 b2) from rfl)
  generalize ordM (a1, a2) (b1, b2) = r at *
  have HOR := Lib.hid (fun X => or2_any (cmpI a1 b1) (cmpI a2 b2) X)
  have HOD := Lib.hid (fun X => or2_drew (cmpI a1 b1) (cmpI a2 b2) X)
  rw [← HO.out] at HOR HOD
  generalize hc1 : cmpI a1 b1 = c1 at *
  generalize hc2 : cmpI a2 b2 = c2 at *
  have C1 := Lib.hid (fun X => cmp51 a1 b1 X)
  have C2 := Lib.hid (fun X => cmp52 a2 b2 X)
  rw [hc1] at C1
  rw [hc2] at C2
  clear hc1 hc2 HO
  obtain ⟨w0, hw0⟩ : ∃ w0, w0 = (w.alloc (.cells #[.int .i64 a1, .int .i64 a2] 60)).alloc (.cells #[.int .i64 b1, .int .i64 b2] 60) := ⟨_, rfl⟩
  have F0 : Fr No w w0 := by rw [hw0]; exact ((Fr.refl No w).alloc _).alloc _
  have B3 : Blk w0 w.heap.size 60 #[.int .i64 a1, .int .i64 a2] := by rw [hw0]; exact (Blk.new _ _ _).alloc _
  have B4 : Blk w0 (w.heap.size + 1) 60 #[.int .i64 b1, .int .i64 b2] := by
    rw [hw0]
    have := Blk.new (w.alloc (.cells #[.int .i64 a1, .int .i64 a2] 60)) 60 #[.int .i64 b1, .int .i64 b2]
    rwa [World.size_alloc] at this
  have SK := Lib.hid (fun (X : World) (hX : Fr No w0 X) => (show (X.cell? ⟨w.heap.size, 0, none⟩ = some (.int .i64 a1) ∧ X.cell? ⟨w.heap.size, 1, none⟩ = some (.int .i64 a2)
      ∧ X.cell? ⟨w.heap.size + 1, 0, none⟩ = some (.int .i64 b1) ∧ X.cell? ⟨w.heap.size + 1, 1, none⟩ = some (.int .i64 b2)) from
    ⟨(blk2 (B3.fr hX (fun x => x))).1, (blk2 (B3.fr hX (fun x => x))).2, (blk2 (B4.fr hX (fun x => x))).1, (blk2 (B4.fr hX (fun x => x))).2⟩))
  obtain ⟨s1, s2, s3, s4⟩ := SK.out w0 (Fr.refl No w0)
  have HW0 := Lib.hid hw0
  have FD := Lib.hid (Fr.refl No w0).drew
  have HF0 := Lib.hid F0
  clear B3 B4 hw0 F0
  unfold val2
  go_enter Try.func47, Try.ntmps47
  go_wp2_with fail
  rw [← HW0.out]
  go_region_held3 (fun w' => w'.cell? ⟨w.heap.size, 0, none⟩ = some (.int .i64 a1) ∧ w'.cell? ⟨w.heap.size, 1, none⟩ = some (.int .i64 a2)
      ∧ w'.cell? ⟨w.heap.size + 1, 0, none⟩ = some (.int .i64 b1) ∧ w'.cell? ⟨w.heap.size + 1, 1, none⟩ = some (.int .i64 b2))
    (first | exact SK.out _ FD.out | go_keep)
    (first
      | (go_at_call 51; ((with_reducible refine (C1.out _).mono ?_); rintro e wA ⟨rfl, rfl⟩))
      | (go_at_call 52; ((with_reducible refine (C2.out _).mono ?_); rintro e wA ⟨rfl, rfl⟩))
      | (go_at_call 50; ((with_reducible refine (HOD.out _).mono ?_); rintro e wA ⟨rfl, rfl⟩))
      | (go_at_call 50; ((refine (HOR.out _).mono ?_); rintro e wA ⟨rfl, rfl⟩)))
  all_goals
    go_wp2
    go_ret
    first | exact ⟨rfl, (HF0.out.drew).alloc _⟩ | exact ⟨rfl, (HF0.out.alloc _).drew⟩
end Go.Proofs.Ytgkpmckbdagkcaa
