/- The contracts of cmp's functions at integers, of key, of the order's closure. -/
import Derived.Test.YtcjcoigjedcieaaQs
import Derived.Test.YtcjcoigjedcieaaChecked
import Derived.Deep.RegionHeld3
import Derived.Shelf.Abstract
import Derived.Shelf.RegionOpen
namespace Go.Proofs.Ytcjcoigjedcieaa
open Go.RowKit Go.Wk

theorem nan_any (x : Int) (w : World) : Calls Try.prog 69 #[.int .i64 x] w fun e w' => e = .returned (.bool false) ∧ w = w' := by
  have hh : (x != x) = false := by simp
  go_enter Try.func69, Try.ntmps69
  go_wp2
  go_ret
  exact ⟨rfl, rfl⟩
def cmpI (a b : Int) : Int := if a < b then -1 else if b < a then 1 else 0
theorem cmpI_cases (a b : Int) : (a < b ∧ ¬ b < a ∧ cmpI a b = -1) ∨ (¬ a < b ∧ b < a ∧ cmpI a b = 1) ∨ (¬ a < b ∧ ¬ b < a ∧ cmpI a b = 0) := by
  unfold cmpI
  by_cases h : a < b
  · left; exact ⟨h, by omega, by rw [if_pos h]⟩
  · by_cases h2 : b < a
    · right; left; exact ⟨h, h2, by rw [if_neg h, if_pos h2]⟩
    · right; right; exact ⟨h, h2, by rw [if_neg h, if_neg h2]⟩
theorem cmp_any (a b : Int) (w : World) : Calls Try.prog 63 #[.int .i64 a, .int .i64 b] w fun e w' => e = .returned (.int .i64 (cmpI a b)) ∧ w = w' := by
  rcases cmpI_cases a b with ⟨h1, h2, h3⟩ | ⟨h1, h2, h3⟩ | ⟨h1, h2, h3⟩
  all_goals
    rw [h3]
    clear h3
    go_enter Try.func63, Try.ntmps63
    go_wp2_with (go_at_call 69; refine (nan_any _ _).mono ?_; rintro e w1 ⟨rfl, rfl⟩)
    go_ret
    exact ⟨rfl, rfl⟩
/-- The first number that is not 0. -/
def or2 (a b : Int) : Int := if a ≠ 0 then a else b
def ornth (l : List Int) : Int := (l.filter (fun x => x != 0)).headD 0
theorem or_any (g m : Nat) (l : List Int) (w : World) (hl : l.length = m) (hm : m ≤ 1000) (h : ∀ i, i < m → w.cell? ⟨g, i, none⟩ = some (.int .i64 (l.getD i 0))) :
    Calls Try.prog 62 #[.slice (some ⟨g, 0, none⟩) m m] w fun e w' => e = .returned (.int .i64 (ornth l)) ∧ w = w' := by
  have HH := Lib.hid h
  have HL := Lib.hid hl
  have HY := Lib.hid (show ∀ k, k < m → l.getD k 0 ≠ 0 → (∀ j, j < k → l.getD j 0 = 0) → ornth l = l.getD k 0 from fun k hk hne hz => by
    unfold ornth
    have e1 : (l.take k).filter (fun x => x != 0) = [] := List.filter_eq_nil_iff.2 (fun x hx => by
      obtain ⟨i, hi, rfl⟩ := List.mem_iff_getElem.1 hx
      rw [List.length_take] at hi
      have := hz i (by omega)
      simp [show i < l.length by omega] at this
      simp [this])
    conv => lhs; rw [← List.take_append_drop k l]
    rw [List.filter_append, e1, List.nil_append, List.drop_eq_getElem_cons (by rw [hl]; exact hk)]
    have e2 : l.getD k 0 = l[k]'(by rw [hl]; exact hk) := by simp [show k < l.length by rw [hl]; exact hk]
    rw [e2] at hne ⊢
    rw [List.filter_cons_of_pos (by simpa using hne)]
    rfl)
  have HN := Lib.hid (show (∀ j, j < m → l.getD j 0 = 0) → ornth l = 0 from fun hz => by
    unfold ornth
    rw [List.filter_eq_nil_iff.2 (fun x hx => by
      obtain ⟨i, hi, rfl⟩ := List.mem_iff_getElem.1 hx
      have := hz i (by omega)
      simp [hi] at this
      simp [this])]
    rfl)
  clear h hl
  generalize ornth l = r at *
  go_enter Try.func62, Try.ntmps62
  go_wp2
  go_loopw [8] (fun i wr => ∃ k : Nat, i = .int .i64 k ∧ k ≤ m ∧ w = wr ∧ Hid (∀ j, j < k → l.getD j 0 = 0)) (fun i _ => m - (intOf i).toNat)
  case atStart => exact ⟨0, rfl, Nat.zero_le _, rfl, Lib.hid (fun j hj => absurd hj (by omega))⟩
  case round =>
    obtain ⟨k, rfl, hk, rfl, HA⟩ := hrel
    by_cases hlt : k < m
    · have hc := HH.out k hlt
      obtain ⟨x, hx⟩ : ∃ x, x = l.getD k 0 := ⟨_, rfl⟩
      rw [← hx] at hc
      have HX := Lib.hid hx
      clear hx
      have hlt2 : (k : Int) < (m : Int) := by omega
      by_cases h0 : x = 0
      · have HA2 := Lib.hid (show ∀ j, j < k + 1 → l.getD j 0 = 0 from fun j hj => by
          rcases (show j < k ∨ j = k by omega) with h | rfl
          · exact HA.out j h
          · rw [← HX.out]; exact h0)
        have hb : (x != 0) = false := by simpa using h0
        clear h0
        go_wp2
        go_roundw
        case rel => exact ⟨k + 1, by go_num, by omega, (by trivial), HA2⟩
        case measure => simp [intOf]; omega
      · have HR := Lib.hid (HY.out k hlt (by rw [← HX.out]; exact h0) HA.out)
        rw [← HX.out] at HR
        have hb : (x != 0) = true := by simpa using h0
        clear h0
        go_wp2
        go_ret
        exact ⟨ret1i HR.out.symm, rfl⟩
    · obtain rfl := HN.out (fun j hj => HA.out j (by omega))
      go_wp2
      go_ret
      exact ⟨rfl, rfl⟩
theorem ornth2 (a b : Int) : ornth [a, b] = or2 a b := by
  unfold ornth or2
  by_cases ha : a = 0
  · by_cases hb : b = 0
    · simp [ha, hb]
    · simp [ha, hb]
  · simp [ha]
theorem or2_any (a b : Int) (w : World) : Calls Try.prog 62 #[.slice (some ⟨w.heap.size, 0, none⟩) 2 2] (w.alloc (.cells #[.int .i64 a, .int .i64 b] 3)) fun e w' => e = .returned (.int .i64 (or2 a b)) ∧ w.alloc (.cells #[.int .i64 a, .int .i64 b] 3) = w' := by
  rw [← ornth2]
  refine or_any w.heap.size 2 [a, b] _ rfl (by omega) (fun i hi => ?_)
  rw [(Blk.new w 3 #[.int .i64 a, .int .i64 b]).cell]
  rcases (show i = 0 ∨ i = 1 by omega) with rfl | rfl <;> rfl
theorem or2_drew (a b : Int) (w : World) : Calls Try.prog 62 #[.slice (some ⟨w.heap.size, 0, none⟩) 2 2] (w.alloc (.cells #[.int .i64 a, .int .i64 b] 3)).drew fun e w' => e = .returned (.int .i64 (or2 a b)) ∧ (w.alloc (.cells #[.int .i64 a, .int .i64 b] 3)).drew = w' := by
  rw [← ornth2]
  refine or_any w.heap.size 2 [a, b] _ rfl (by omega) (fun i hi => ?_)
  rw [(Blk.new w 3 #[.int .i64 a, .int .i64 b]).drew.cell]
  rcases (show i = 0 ∨ i = 1 by omega) with rfl | rfl <;> rfl

/-- The order of two marks as a number. -/
def ordM (a b : Int × Int) : Int := or2 (cmpI a.1 b.1) (cmpI a.2 b.2)
theorem ordM_lt (a b : Int × Int) : ordM a b < 0 ↔ ltM a b := by
  unfold ordM or2 ltM
  rcases cmpI_cases a.1 b.1 with ⟨h1, h2, h3⟩ | ⟨h1, h2, h3⟩ | ⟨h1, h2, h3⟩ <;>
  rcases cmpI_cases a.2 b.2 with ⟨k1, k2, k3⟩ | ⟨k1, k2, k3⟩ | ⟨k1, k2, k3⟩ <;>
  rw [h3, k3] <;> simp <;> omega
theorem mul_bnd {p y : Int} (h0 : 0 ≤ p) (h1 : p ≤ 100) (y0 : 1 ≤ y) (y1 : y ≤ 68719476736) : 0 ≤ p * y ∧ p * y ≤ 6871947673600 := by
  constructor
  · exact Int.mul_nonneg h0 (by omega)
  · have := Int.mul_le_mul h1 y1 (by omega) (by omega)
    omega
/-- The four cells of an item. -/
def C4 (w : World) (g o : Nat) (x : IV) : Prop := w.cell? ⟨g, o, none⟩ = some (.int .i64 x.id) ∧ w.cell? ⟨g, o + 1, none⟩ = some (.int .i64 x.pr) ∧ w.cell? ⟨g, o + 2, none⟩ = some (.int .i64 x.since) ∧ w.cell? ⟨g, o + 3, none⟩ = some (.int .i64 x.seq)
theorem C4.fr {S : Nat → Prop} {w w' : World} {g o : Nat} {x : IV} (h : C4 w g o x) (hf : Fr S w w') (hg : g < w.heap.size) (hS : ¬ S g) : C4 w' g o x :=
  ⟨(hf.cell (p := ⟨g, o, none⟩) hg hS).trans h.1, (hf.cell (p := ⟨g, o + 1, none⟩) hg hS).trans h.2.1, (hf.cell (p := ⟨g, o + 2, none⟩) hg hS).trans h.2.2.1, (hf.cell (p := ⟨g, o + 3, none⟩) hg hS).trans h.2.2.2⟩
theorem blk4 {X : World} {b : Nat} {t : TypeId} {x : IV} (h : Blk X b t #[.int .i64 x.id, .int .i64 x.pr, .int .i64 x.since, .int .i64 x.seq]) : X.cell? ⟨b, 0, none⟩ = some (.int .i64 x.id) ∧ X.cell? ⟨b, 1, none⟩ = some (.int .i64 x.pr) ∧ X.cell? ⟨b, 2, none⟩ = some (.int .i64 x.since) ∧ X.cell? ⟨b, 3, none⟩ = some (.int .i64 x.seq) := ⟨h.cell 0, h.cell 1, h.cell 2, h.cell 3⟩

theorem key_any (b : Nat) (g : Int) (x : IV) (hx : x.Ok) (hg : 1 ≤ g ∧ g ≤ 68719476736) (w : World) (hc : w.cell? ⟨b, 3, none⟩ = some (.int .i64 g)) (hb : b < w.heap.size) :
    Calls Try.prog 64 #[.pointer (some ⟨b, 0, none⟩), valI x] w fun e w' => e = .returned (.int .i64 (keyI g x)) ∧ Fr No w w' := by
  obtain ⟨hb0, hb1⟩ := mul_bnd hx.pr.1 hx.pr.2 hg.1 hg.2
  have h0 := hx.since.1
  have h1 := hx.since.2
  obtain ⟨id, pr, since, seq⟩ := x
  dsimp only at hb0 hb1 h0 h1
  unfold keyI valI
  dsimp only
  obtain ⟨q, hq⟩ : ∃ q, pr * g = q := ⟨_, rfl⟩
  rw [hq] at hb0 hb1
  rw [hq]
  have hw1 : IntKind.i64.wrap q = q := by simp only [IntKind.wrap_i64]; omega
  have hw2 : IntKind.i64.wrap (since - q) = since - q := by simp only [IntKind.wrap_i64]; omega
  have F0 := Lib.hid ((Fr.refl No w).alloc (.cells #[.int .i64 id, .int .i64 pr, .int .i64 since, .int .i64 seq] 31))
  clear hx hg
  go_enter Try.func64, Try.ntmps64
  go_wp2
  go_quiet (fail)
  go_wp2
  go_ret
  exact ⟨rfl, F0.out.drewN _⟩

/-- The order of two items of a queue. -/
def ordQ (g : Int) (a x : IV) : Int := ordM (mkI g a) (mkI g x)
theorem ordQ_lt (g : Int) (a x : IV) : ordQ g a x < 0 ↔ ltM (mkI g a) (mkI g x) := ordM_lt _ _
set_option maxRecDepth 100000 in
set_option maxHeartbeats 8000000 in
theorem ord_any (b p : Nat) (g : Int) (a x : IV) (ha : a.Ok) (hx : x.Ok) (hg : 1 ≤ g ∧ g ≤ 68719476736) (w : World) (hc : w.cell? ⟨b, 3, none⟩ = some (.int .i64 g)) (hb : b < w.heap.size) (hp : Blk w p 24 #[.pointer (some ⟨b, 0, none⟩)]) :
    Calls Try.prog 61 #[valI a, valI x, .pointer (some ⟨p, 0, none⟩)] w fun e w' => e = .returned (.int .i64 (ordQ g a x)) ∧ Fr No w w' := by
  obtain ⟨w0, hw0⟩ : ∃ w0, w0 = (w.alloc (.cells #[.int .i64 a.id, .int .i64 a.pr, .int .i64 a.since, .int .i64 a.seq] 31)).alloc (.cells #[.int .i64 x.id, .int .i64 x.pr, .int .i64 x.since, .int .i64 x.seq] 31) := ⟨_, rfl⟩
  have F0 : Fr No w w0 := by rw [hw0]; exact ((Fr.refl No w).alloc _).alloc _
  have B3 : Blk w0 w.heap.size 31 #[.int .i64 a.id, .int .i64 a.pr, .int .i64 a.since, .int .i64 a.seq] := by rw [hw0]; exact (Blk.new _ _ _).alloc _
  have B4 : Blk w0 (w.heap.size + 1) 31 #[.int .i64 x.id, .int .i64 x.pr, .int .i64 x.since, .int .i64 x.seq] := by
    rw [hw0]
    have := Blk.new (w.alloc (.cells #[.int .i64 a.id, .int .i64 a.pr, .int .i64 a.since, .int .i64 a.seq] 31)) 31 #[.int .i64 x.id, .int .i64 x.pr, .int .i64 x.since, .int .i64 x.seq]
    rwa [World.size_alloc] at this
  have KA := Lib.hid (fun X (hX : Fr No w0 X) => key_any b g a ha hg X (((F0.then0 hX).cell (p := ⟨b, 3, none⟩) hb (fun z => z)).trans hc) (Nat.lt_of_lt_of_le hb (F0.then0 hX).size))
  have KX := Lib.hid (fun X (hX : Fr No w0 X) => key_any b g x hx hg X (((F0.then0 hX).cell (p := ⟨b, 3, none⟩) hb (fun z => z)).trans hc) (Nat.lt_of_lt_of_le hb (F0.then0 hX).size))
  have HO := Lib.hid (show ordQ g a x = or2 (cmpI (keyI g a) (keyI g x)) (cmpI a.seq x.seq) from rfl)
  generalize ordQ g a x = r at *
  have HOR := Lib.hid (fun X => or2_any (cmpI (keyI g a) (keyI g x)) (cmpI a.seq x.seq) X)
  have HOD := Lib.hid (fun X => or2_drew (cmpI (keyI g a) (keyI g x)) (cmpI a.seq x.seq) X)
  rw [← HO.out] at HOR HOD
  have C1 := Lib.hid (fun X => cmp_any (keyI g a) (keyI g x) X)
  have C2 := Lib.hid (fun X => cmp_any a.seq x.seq X)
  generalize cmpI (keyI g a) (keyI g x) = c1 at *
  generalize cmpI a.seq x.seq = c2 at *
  generalize keyI g a = ka at *
  generalize keyI g x = kx at *
  have SK := Lib.hid (fun (X : World) (hX : Fr No w0 X) => (show (X.cell? ⟨p, 0, none⟩ = some (.pointer (some ⟨b, 0, none⟩)) ∧ (X.cell? ⟨w.heap.size, 0, none⟩ = some (.int .i64 a.id) ∧ X.cell? ⟨w.heap.size, 1, none⟩ = some (.int .i64 a.pr) ∧ X.cell? ⟨w.heap.size, 2, none⟩ = some (.int .i64 a.since) ∧ X.cell? ⟨w.heap.size, 3, none⟩ = some (.int .i64 a.seq))
      ∧ (X.cell? ⟨w.heap.size + 1, 0, none⟩ = some (.int .i64 x.id) ∧ X.cell? ⟨w.heap.size + 1, 1, none⟩ = some (.int .i64 x.pr) ∧ X.cell? ⟨w.heap.size + 1, 2, none⟩ = some (.int .i64 x.since) ∧ X.cell? ⟨w.heap.size + 1, 3, none⟩ = some (.int .i64 x.seq))) from
    ⟨((hp.fr F0 (fun z => z)).fr hX (fun z => z)).cell 0, blk4 (B3.fr hX (fun z => z)), blk4 (B4.fr hX (fun z => z))⟩))
  obtain ⟨s0, ⟨s1, s2, s3, s4⟩, s5, s6, s7, s8⟩ := SK.out w0 (Fr.refl No w0)
  have HW0 := Lib.hid hw0
  have FD := Lib.hid (Fr.refl No w0).drew
  have HF0 := Lib.hid F0
  obtain ⟨a1, a2, a3, a4⟩ := a
  obtain ⟨x1, x2, x3, x4⟩ := x
  unfold valI at *
  dsimp only at *
  clear B3 B4 hw0 F0 HO hp ha hx hg
  go_enter Try.func61, Try.ntmps61
  go_wp2_with fail
  rw [← HW0.out]
  go_region_held3 (fun X => X.cell? ⟨p, 0, none⟩ = some (.pointer (some ⟨b, 0, none⟩)) ∧ (X.cell? ⟨w.heap.size, 0, none⟩ = some (.int .i64 a1) ∧ X.cell? ⟨w.heap.size, 1, none⟩ = some (.int .i64 a2) ∧ X.cell? ⟨w.heap.size, 2, none⟩ = some (.int .i64 a3) ∧ X.cell? ⟨w.heap.size, 3, none⟩ = some (.int .i64 a4))
      ∧ (X.cell? ⟨w.heap.size + 1, 0, none⟩ = some (.int .i64 x1) ∧ X.cell? ⟨w.heap.size + 1, 1, none⟩ = some (.int .i64 x2) ∧ X.cell? ⟨w.heap.size + 1, 2, none⟩ = some (.int .i64 x3) ∧ X.cell? ⟨w.heap.size + 1, 3, none⟩ = some (.int .i64 x4)))
    (first | exact SK.out _ FC.out | exact SK.out _ FD.out | go_keep)
    (first
      | (go_at_call 64; first
        | ((with_reducible refine (KA.out _ FC.out).mono ?_); rintro e wA ⟨rfl, hf⟩; replace FC := Lib.hid (FC.out.then0 hf); clear hf)
        | ((with_reducible refine (KX.out _ FC.out).mono ?_); rintro e wA ⟨rfl, hf⟩; replace FC := Lib.hid (FC.out.then0 hf); clear hf)
        | ((with_reducible refine (KA.out _ FD.out).mono ?_); rintro e wA ⟨rfl, hf⟩; have FC := Lib.hid (FD.out.then0 hf); clear hf)
        | ((with_reducible refine (KX.out _ FD.out).mono ?_); rintro e wA ⟨rfl, hf⟩; have FC := Lib.hid (FD.out.then0 hf); clear hf))
      | (go_at_call 63; first
        | ((with_reducible refine (C1.out _).mono ?_); rintro e wA ⟨rfl, rfl⟩)
        | ((with_reducible refine (C2.out _).mono ?_); rintro e wA ⟨rfl, rfl⟩))
      | (go_at_call 62; ((with_reducible refine (HOD.out _).mono ?_); rintro e wA ⟨rfl, rfl⟩))
      | (go_at_call 62; ((refine (HOR.out _).mono ?_); rintro e wA ⟨rfl, rfl⟩)))
  all_goals
    go_wp2
    go_ret
    first | exact ⟨rfl, (HF0.out.then0 FC.out).alloc _⟩ | exact ⟨rfl, ((HF0.out.then0 FC.out).alloc _).drew⟩
end Go.Proofs.Ytcjcoigjedcieaa
