/- Push, every way. -/
import Derived.Test.YtcjcoigjedcieaaM
namespace Go.Proofs.Ytcjcoigjedcieaa
open Go.RowKit Go.Wk

theorem Push_any (b bm : Nat) (v : Value) (s : QS) (x p u : Int) (hx : fits x) (hs : s.added + 1 ≤ 1000000) (w : World) (h : QV w b bm v s) :
    Calls Try.prog 19 #[.pointer (some ⟨b, 0, none⟩), .int .i64 x, .int .i64 p, .int .i64 u] w fun e w' => Turned w b bm v (pushS s x p u) (.int .i64 (pushE s x p u)) e w' := by
  have HAS := Lib.hid (show pushS s x p u = if pushE s x p u = 0 then s.add x p u else s from rfl)
  have HV := Lib.hid (made_any b bm _ s w h)
  have HH := Lib.hid h
  rcases pushE_cases s x p u with ⟨h1, he⟩ | ⟨h1, h2, he⟩ | ⟨h1, h2, h3, he⟩ | ⟨h1, h2, h3, h4, he⟩ | ⟨h1, h2, h3, h4, h5, he⟩ | ⟨h1, h2, h3, h4, h5, h6, he⟩ | ⟨h1, h2, h3, h4, h5, h6, he⟩
  case inr.inr.inr.inr.inr.inr =>
    rw [if_pos he] at HAS
    rw [he, HAS.out]
    exact Push_ok b bm v s x p u hx hs w h h1 h2 h3 h4 h5 h6
  case inl =>
    rw [he, if_neg (by omega)] at HAS
    rw [he, HAS.out]
    have b1 : decide (p < 0) = true := by simp; omega
    clear h he h1
    go_enter Try.func19, Try.ntmps19
    go_wp2_with fail
    refine HV.out.mono ?_
    rintro e w0 ⟨rfl, rfl⟩
    go_wp2
    go_ret
    exact ⟨rfl, _, HH.out, Fr.refl _ _, fun k hk => .inl hk⟩
  case inr.inl =>
    rw [he, if_neg (by omega)] at HAS
    rw [he, HAS.out]
    have b1 : decide (p < 0) = false := by simp; omega
    have b2 : decide (100 < p) = true := by simp; omega
    clear h he h1 h2
    go_enter Try.func19, Try.ntmps19
    go_wp2_with fail
    refine HV.out.mono ?_
    rintro e w0 ⟨rfl, rfl⟩
    go_wp2
    go_ret
    exact ⟨rfl, _, HH.out, Fr.refl _ _, fun k hk => .inl hk⟩
  case inr.inr.inl =>
    rw [he, if_neg (by omega)] at HAS
    rw [he, HAS.out]
    have b1 : decide (p < 0) = false := by simp; omega
    have b2 : decide (100 < p) = false := by simp; omega
    have b3 : decide (u < 0) = true := by simp; omega
    clear h he h1 h2 h3
    go_enter Try.func19, Try.ntmps19
    go_wp2_with fail
    refine HV.out.mono ?_
    rintro e w0 ⟨rfl, rfl⟩
    go_wp2
    go_ret
    exact ⟨rfl, _, HH.out, Fr.refl _ _, fun k hk => .inl hk⟩
  case inr.inr.inr.inl =>
    rw [he, if_neg (by omega)] at HAS
    rw [he, HAS.out]
    have b1 : decide (p < 0) = false := by simp; omega
    have b2 : decide (100 < p) = false := by simp; omega
    have b3 : decide (u < 0) = false := by simp; omega
    have b4 : decide (253402300799 < u) = true := by simp; omega
    clear h he h1 h2 h3 h4
    go_enter Try.func19, Try.ntmps19
    go_wp2_with fail
    refine HV.out.mono ?_
    rintro e w0 ⟨rfl, rfl⟩
    go_wp2
    go_ret
    exact ⟨rfl, _, HH.out, Fr.refl _ _, fun k hk => .inl hk⟩
  case inr.inr.inr.inr.inl =>
    rw [he, if_neg (by omega)] at HAS
    rw [he, HAS.out]
    have HHAS := Lib.hid (Has_any b bm _ s x hx w h)
    rw [h5] at HHAS
    have b1 : decide (p < 0) = false := by simp; omega
    have b2 : decide (100 < p) = false := by simp; omega
    have b3 : decide (u < 0) = false := by simp; omega
    have b4 : decide (253402300799 < u) = false := by simp; omega
    clear h he h1 h2 h3 h4 h5
    go_enter Try.func19, Try.ntmps19
    go_wp2_with fail
    refine HV.out.mono ?_
    rintro e w0 ⟨rfl, rfl⟩
    go_wp2_with fail
    refine HHAS.out.mono ?_
    rintro e w1 ⟨rfl, hf⟩
    go_wp2
    go_ret
    exact ⟨rfl, _, HH.out.fr0 hf, hf.mono (fun _ z => z.elim), fun k hk => .inl hk⟩
  case inr.inr.inr.inr.inr.inl =>
    rw [he, if_neg (by omega)] at HAS
    rw [he, HAS.out]
    have HHAS := Lib.hid (Has_any b bm _ s x hx w h)
    rw [h5] at HHAS
    obtain ⟨A, c, rfl, _⟩ := h.form
    have b1 : decide (p < 0) = false := by simp; omega
    have b2 : decide (100 < p) = false := by simp; omega
    have b3 : decide (u < 0) = false := by simp; omega
    have b4 : decide (253402300799 < u) = false := by simp; omega
    have b5 : decide (s.size ≤ (s.l.length : Int)) = true := by simp; omega
    have hlen := h.ok.n
    clear h he h1 h2 h3 h4 h5 h6
    go_enter Try.func19, Try.ntmps19
    go_wp2_with fail
    refine HV.out.mono ?_
    rintro e w0 ⟨rfl, rfl⟩
    go_wp2_with fail
    refine HHAS.out.mono ?_
    rintro e w1 ⟨rfl, hf⟩
    have HQ := Lib.hid (HH.out.fr0 hf)
    have HF := Lib.hid hf
    obtain ⟨c0, c1, c2, c3, c4⟩ := HQ.out.cells
    clear hf
    go_wp2
    go_quiet (fail)
    go_wp2
    go_ret
    exact ⟨rfl, _, HQ.out.fr0 ((Fr.refl No _).drewN nq), (HF.out.drewN nq).mono (fun _ z => z.elim), fun k hk => .inl hk⟩

/-! ### The contracts over a queue and the blocks that are its own -/
/-- What a call that turns a queue leaves: its blocks, and new ones. -/
def TurnedAt (w : World) (b : Nat) (D : Nat → Prop) (s : QS) (w' : World) : Prop := ∃ D', QAt w' b D' s ∧ Fr D w w' ∧ ∀ k, D' k → D k ∨ w.heap.size ≤ k
theorem Turned.at_ {w w' : World} {b bm : Nat} {v r : Value} {s : QS} {e : Ending} (h : Turned w b bm v s r e w') : e = .returned r ∧ TurnedAt w b (dom b bm v) s w' := by
  obtain ⟨he, v', hl, hf, hn⟩ := h
  refine ⟨he, _, ⟨bm, v', hl, rfl⟩, hf, fun k hk => ?_⟩
  rcases hk with rfl | rfl | hk
  · exact .inl (.inl rfl)
  · exact .inl (.inr (.inl rfl))
  · rcases hn k hk with h1 | h1
    · exact .inl (.inr (.inr h1))
    · exact .inr h1
section
variable (b : Nat) (D : Nat → Prop) (s : QS) (w : World) (h : QAt w b D s)
include h
theorem Push_at (x p u : Int) (hx : fits x) (hs : s.added + 1 ≤ 1000000) : Calls Try.prog 19 #[.pointer (some ⟨b, 0, none⟩), .int .i64 x, .int .i64 p, .int .i64 u] w fun e w' => e = .returned (.int .i64 (pushE s x p u)) ∧ TurnedAt w b D (pushS s x p u) w' := by
  obtain ⟨bm, v, hv, rfl⟩ := h
  exact (Push_any b bm v s x p u hx hs w hv).mono fun _ _ h => h.at_
theorem Remove_at (x : Int) (hx : fits x) : Calls Try.prog 21 #[.pointer (some ⟨b, 0, none⟩), .int .i64 x] w fun e w' => e = .returned (.int .i64 (remE s x)) ∧ TurnedAt w b D (remS s x) w' := by
  obtain ⟨bm, v, hv, rfl⟩ := h
  exact (Remove_any b bm v s x hx w hv).mono fun _ _ h => h.at_
theorem take_at (i : Nat) (hi : i < s.l.length) : Calls Try.prog 49 #[.pointer (some ⟨b, 0, none⟩), .int .i64 i] w fun e w' => e = .returned (.tuple #[]) ∧ TurnedAt w b D (s.cut i) w' := by
  obtain ⟨bm, v, hv, rfl⟩ := h
  exact (take_any b bm v s i hi w hv).mono fun _ _ h => h.at_
theorem made_at : Calls Try.prog 45 #[.pointer (some ⟨b, 0, none⟩)] w fun e w' => e = .returned (.bool true) ∧ w = w' := by
  obtain ⟨bm, v, hv, rfl⟩ := h; exact made_any b bm v s w hv
theorem Len_at : Calls Try.prog 13 #[.pointer (some ⟨b, 0, none⟩)] w fun e w' => e = .returned (.int .i64 s.l.length) ∧ w = w' := by
  obtain ⟨bm, v, hv, rfl⟩ := h; exact Len_any b bm v s w hv
theorem Room_at : Calls Try.prog 14 #[.pointer (some ⟨b, 0, none⟩)] w fun e w' => e = .returned (.int .i64 (roomV s)) ∧ ∃ q, w' = w.drewN q := by
  obtain ⟨bm, v, hv, rfl⟩ := h; exact Room_any b bm v s w hv
theorem Has_at (x : Int) (hx : fits x) : Calls Try.prog 15 #[.pointer (some ⟨b, 0, none⟩), .int .i64 x] w fun e w' => e = .returned (.bool (hasB s x)) ∧ Fr No w w' := by
  obtain ⟨bm, v, hv, rfl⟩ := h; exact Has_any b bm v s x hx w hv
theorem Head_at : Calls Try.prog 20 #[.pointer (some ⟨b, 0, none⟩)] w fun e w' => e = .returned (.tuple #[.int .i64 (headV s), .bool (headB s)]) ∧ w = w' := by
  obtain ⟨bm, v, hv, rfl⟩ := h; exact Head_any b bm v s w hv
theorem Items_at : Calls Try.prog 12 #[.pointer (some ⟨b, 0, none⟩)] w fun e w' => Cloned w s.l.length s.l e w' := by
  obtain ⟨bm, v, hv, rfl⟩ := h; exact Items_any b bm v s w hv
theorem Copy_at : Calls Try.prog 33 #[.pointer (some ⟨b, 0, none⟩)] w fun e w' => NewQ w s e w' := by
  obtain ⟨bm, v, hv, rfl⟩ := h; exact Copy_any b bm v s w hv
end

/-- A queue of the call's own. -/
structure Mine (w wr : World) (b : Nat) (D : Nat → Prop) (s : QS) : Prop where
  at_ : QAt wr b D s
  fr : Fr No w wr
  hD : ∀ k, D k → w.heap.size ≤ k
theorem Mine.of {w w0 w1 : World} {b : Nat} {D : Nat → Prop} {s : QS} (h : NewAt w0 b D s w1) (hf : Fr No w w0) : Mine w w1 b D s := ⟨h.1, hf.then0 h.2.2, fun k hk => Nat.le_trans hf.size (h.2.1 k hk)⟩
theorem Mine.fr0 {w w1 w2 : World} {b : Nat} {D : Nat → Prop} {s : QS} (h : Mine w w1 b D s) (hf : Fr No w1 w2) : Mine w w2 b D s := ⟨h.at_.fr0 hf, h.fr.then0 hf, h.hD⟩
theorem Mine.next {w w1 w2 : World} {b : Nat} {D : Nat → Prop} {s s' : QS} (h : Mine w w1 b D s) (ht : TurnedAt w1 b D s' w2) : ∃ D', Mine w w2 b D' s' ∧ (∀ k, D' k → D k ∨ w1.heap.size ≤ k) ∧ Fr D w1 w2 := by
  obtain ⟨D', hl, hf, hd⟩ := ht
  exact ⟨D', ⟨hl, h.fr.ownS hf h.hD, fun k hk => (hd k hk).elim (h.hD k) (fun h' => Nat.le_trans h.fr.size h')⟩, hd, hf⟩
theorem Mine.not {w wr : World} {b : Nat} {D : Nat → Prop} {s : QS} (h : Mine w wr b D s) {k : Nat} (hk : k < w.heap.size) : ¬ D k := fun x => by
  have := h.hD k x
  omega
theorem Mine.back {w w0 wr : World} {b : Nat} {D : Nat → Prop} {s : QS} (h : Mine w0 wr b D s) (hf : Fr No w w0) : Mine w wr b D s :=
  ⟨h.at_, hf.then0 h.fr, fun k hk => Nat.le_trans hf.size (h.hD k hk)⟩
/-- Another one's turn. -/
theorem Mine.beside {w w1 w2 : World} {b : Nat} {D E : Nat → Prop} {s : QS} (h : Mine w w1 b D s) (hf : Fr E w1 w2) (hE : ∀ k, E k → w.heap.size ≤ k) (ha : ∀ k, D k → ¬ E k) : Mine w w2 b D s :=
  ⟨h.at_.fr hf ha, h.fr.ownS hf hE, h.hD⟩
end Go.Proofs.Ytcjcoigjedcieaa
