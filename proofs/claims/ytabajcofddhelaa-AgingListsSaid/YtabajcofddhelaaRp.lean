/- The document's Span. -/
import Derived.Test.YtabajcofddhelaaRs
namespace Go.Proofs.Ytabajcofddhelaa
open Go.RowKit Go.Wk

theorem leI_key {y : Int} {a b : IV} (h : leI y a b) : keyV y a ≤ keyV y b := by unfold leI at h; rw [ordI_lt] at h; omega
theorem SortOf.span {y : Int} {l s : List IV} (h : SortOf y l s) (he : listE y l [] = 0) (h0 : 0 < s.length) : SpanR y l (keyV y (s.getD (s.length - 1) IV.zero) - keyV y (s.getD 0 IV.zero)) := by
  have hp := h.perm
  have hin := h.inOrder
  have idx : ∀ z ∈ s, ∃ i, i < l.length ∧ l.getD i IV.zero = z := fun z hz => by
    obtain ⟨i, hi, e⟩ := List.mem_iff_getElem.1 (hp.mem_iff.1 hz)
    exact ⟨i, hi, by simp [hi, e]⟩
  have back : ∀ k, k < l.length → ∃ i, i < s.length ∧ s.getD i IV.zero = l.getD k IV.zero := fun k hk => by
    obtain ⟨i, hi, e⟩ := List.mem_iff_getElem.1 (hp.mem_iff.2 (getD_mem' hk))
    exact ⟨i, hi, by simp [hi, e]⟩
  refine ⟨fun hb => absurd he hb, fun hb => ?_, fun _ _ => ?_⟩
  · have := h.len; rw [hb] at this; simp at this; rw [this] at h0; simp at h0
  · obtain ⟨i, hi, ei⟩ := idx _ (getD_mem' (show s.length - 1 < s.length by omega))
    obtain ⟨j, hj, ej⟩ := idx _ (getD_mem' h0)
    refine ⟨i, j, hi, hj, by rw [ei, ej], fun k hk => ?_, fun k hk => ?_⟩
    · obtain ⟨m, hm, em⟩ := back k hk
      rw [ei, ← em]
      by_cases e : m = s.length - 1
      · rw [e]; exact Int.le_refl _
      · exact leI_key (hin m (s.length - 1) (by omega) (by omega))
    · obtain ⟨m, hm, em⟩ := back k hk
      rw [ej, ← em]
      by_cases e : m = 0
      · rw [e]; exact Int.le_refl _
      · exact leI_key (hin 0 m (by omega) hm)
theorem rKey_ok {y : Int} (x : IV) (hx : Ok x) (y0 : 1 ≤ y) (y1 : y ≤ 68719476736) (X : World) : Calls Try.prog 13 #[.int .i64 x.pr, .int .i64 x.since, .int .i64 y] X fun e w' => e = .returned (.tuple #[.int .i64 (keyV y x), .int .i64 0]) ∧ Fr No X w' := by
  have h1 : chkE y [⟨0, x.pr, x.since, 0⟩] = 0 := chkE_good y0 y1 (fun z hz => by rw [List.mem_singleton.1 hz]; exact ⟨hx.p0, hx.p1, hx.s0, hx.s1⟩)
  have h2 : keyK y ⟨0, x.pr, x.since, 0⟩ = keyV y x := by unfold keyK; rw [if_pos h1]; rfl
  have := rKey_any x.pr x.since y X
  rw [h1, h2] at this
  exact this
set_option maxRecDepth 100000 in
set_option maxHeartbeats 8000000 in
theorem rSpan_any (A : Option Addr) (n c : Nat) (l : List IV) (y : Int) (w : World) (h : Reads w w.heap.size 4 A n (icells l)) (hn : n ≤ 9223372036854775807) :
    Calls Try.prog 29 #[.slice A n c, .int .i64 y] w fun x w' => (∃ v, x = .returned (.tuple #[.int .i64 v, .int .i64 (listE y l [])]) ∧ SpanR y l v) ∧ Fr No w w' := by
  have HL := Lib.hid (reads_ilen h)
  have HS := Lib.hid (rSort_any A n c l y w h hn)
  clear h
  obtain ⟨r, hr⟩ : ∃ r, r = listE y l [] := ⟨_, rfl⟩
  unfold SortR at HS
  rw [← hr] at HS ⊢
  have HE := Lib.hid hr
  clear hr
  go_enter Try.func29, Try.ntmps29
  go_wp2_with fail
  refine HS.out.mono ?_
  rintro x w1 ⟨hf1, ⟨he, rfl⟩ | ⟨he, As, cs, s, rfl, hso, hcs, ho⟩⟩
  · have hb : (r != 0) = true := by simpa using he
    have HQ := Lib.hid (show SpanR y l 0 from ⟨fun _ => rfl, fun _ => rfl, fun h => absurd h (by rw [← HE.out]; exact he)⟩)
    clear he HS
    go_wp2
    go_ret2
    exact ⟨⟨0, rfl, HQ.out⟩, hf1⟩
  · subst he
    have he := HE.out.symm
    obtain ⟨hy, hl0, hokl, _⟩ := listE_ok he
    obtain ⟨y0, y1⟩ := hy
    have hsl : s.length = n := by rw [hso.len, HL.out]
    by_cases h0 : n = 0
    · have HQ := Lib.hid (show SpanR y l 0 from ⟨fun _ => rfl, fun _ => rfl, fun _ h => absurd (List.length_eq_zero_iff.1 (by rw [HL.out]; exact h0)) h⟩)
      clear he hso ho hokl hsl HS HE
      subst h0
      go_wp2
      go_ret2
      exact ⟨⟨0, rfl, HQ.out⟩, hf1⟩
    · have hpos : 0 < n := by omega
      have HQ := Lib.hid (hso.span he (by omega))
      rw [hsl] at HQ
      have HOKS := Lib.hid (show ∀ z ∈ s, Ok z from fun z hz => hokl z (hso.perm.mem_iff.1 hz))
      have R1 := Lib.hid (Reads.of_own ho)
      have h1n : n - 1 < n := by omega
      have SA := Lib.hid (fun X (hX : Fr No w1 X) => reads_item' R1.out hpos hX)
      have SB := Lib.hid (fun X (hX : Fr No w1 X) => reads_item' R1.out h1n hX)
      have KA := Lib.hid (fun X => rKey_ok (s.getD 0 IV.zero) (HOKS.out _ (getD_mem' (by omega))) y0 y1 X)
      have KB := Lib.hid (fun X => rKey_ok (s.getD (n - 1) IV.zero) (HOKS.out _ (getD_mem' (by omega))) y0 y1 X)
      have ba := keyV_bnd (HOKS.out _ (getD_mem' (l := s) (i := 0) (by omega))) y0 y1
      have bb := keyV_bnd (HOKS.out _ (getD_mem' (l := s) (i := n - 1) (by omega))) y0 y1
      have hn1 : n ≤ 1024 := by rw [← HL.out]; exact hl0
      clear he hso ho hokl hsl HS
      obtain ⟨g, o, rfl, _, _, a0, a1, a2, a3⟩ := SA.out w1 (Fr.refl _ _)
      have SAB := Lib.hid (show ∀ X, Fr No w1 X → X.cell? ⟨g, o + 1, none⟩ = some (.int .i64 (s.getD 0 IV.zero).pr) ∧ X.cell? ⟨g, o + 2, none⟩ = some (.int .i64 (s.getD 0 IV.zero).since) ∧ X.cell? ⟨g, o + (n - 1) * 4 + 1, none⟩ = some (.int .i64 (s.getD (n - 1) IV.zero).pr) ∧ X.cell? ⟨g, o + (n - 1) * 4 + 2, none⟩ = some (.int .i64 (s.getD (n - 1) IV.zero).since) from fun X hX => by
        obtain ⟨_, _, e1, _, _, u0, u1, u2, u3⟩ := SA.out X hX
        obtain ⟨_, _, e2, _, _, v0, v1, v2, v3⟩ := SB.out X hX
        cases e1; cases e2
        simp only [Nat.zero_mul, Nat.add_zero] at u1 u2
        exact ⟨u1, u2, v1, v2⟩)
      clear a0 a1 a2 a3 SA SB
      generalize keyV y (s.getD 0 IV.zero) = ka at *
      generalize keyV y (s.getD (n - 1) IV.zero) = kb at *
      generalize s.getD 0 IV.zero = xa at *
      generalize s.getD (n - 1) IV.zero = xb at *
      obtain ⟨xi, xp, xs, xq⟩ := xa
      obtain ⟨zi, zp, zs, zq⟩ := xb
      dsimp only at KA KB SAB
      have hw0 : IntKind.i64.wrap ((n : Int) - 1) = ((n - 1 : Nat) : Int) := by simp only [IntKind.wrap_i64]; omega
      have hp1 : ((n - 1 : Nat) : Int) < (n : Int) := by omega
      have hp2 : (0 : Int) ≤ ((n - 1 : Nat) : Int) := by omega
      have hp3 : (0 : Int) < (n : Int) := by omega
      have hne : ((n : Int) == 0) = false := by simp; omega
      have F4 : Fr No w1 w1.drew := (Fr.refl No w1).drew
      have K0 := SAB.out _ F4
      go_wp2
      go_region_held3 (fun w' => w'.cell? ⟨g, o + 1, none⟩ = some (.int .i64 xp) ∧ w'.cell? ⟨g, o + 2, none⟩ = some (.int .i64 xs) ∧ w'.cell? ⟨g, o + (n - 1) * 4 + 1, none⟩ = some (.int .i64 zp) ∧ w'.cell? ⟨g, o + (n - 1) * 4 + 2, none⟩ = some (.int .i64 zs)) (first | exact K1 | exact K0 | go_keep)
        (first | (go_at_call 13; refine (KA.out _).mono ?_; rintro e w2 ⟨rfl, hf⟩; have F5 : Fr No w1 w2 := F4.then0 hf; have K1 := SAB.out w2 F5))
      have F6 : Fr No w1 w2.drew := F5.drew
      have F6h := Lib.hid F5
      clear F4 F5 K0 K1
      have K0 := SAB.out _ F6
      go_wp2
      go_region_held3 (fun w' => w'.cell? ⟨g, o + 1, none⟩ = some (.int .i64 xp) ∧ w'.cell? ⟨g, o + 2, none⟩ = some (.int .i64 xs) ∧ w'.cell? ⟨g, o + (n - 1) * 4 + 1, none⟩ = some (.int .i64 zp) ∧ w'.cell? ⟨g, o + (n - 1) * 4 + 2, none⟩ = some (.int .i64 zs)) (first | exact K1 | exact K0 | go_keep)
        (first | (go_at_call 13; refine (KB.out _).mono ?_; rintro e w3 ⟨rfl, hf⟩; have F7 : Fr No w1 w3 := F6.then0 hf; have K1 := SAB.out w3 F7))
      have F8 := Lib.hid (hf1.then0 F7)
      clear F6 F7 K0 K1 hw0
      have hwv : IntKind.i64.wrap (kb - ka) = kb - ka := by simp only [IntKind.wrap_i64]; omega
      go_wp2
      go_ret2
      exact ⟨⟨_, rfl, HQ.out⟩, F8.out⟩
end Go.Proofs.Ytabajcofddhelaa
