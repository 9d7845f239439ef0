/- The contracts of package caps, more: Used, Free, Take, Give, Total, Copy, New. -/
import Derived.Test.YtjgjbjigghfnbaaA
namespace Go.Proofs.Ytjgjbjigghfnbaa
open Go.RowKit Go.Wk

theorem used_in (b : Nat) (s : CS) (w : World) (j : Nat) (hjobs : j < s.jobs) (h : CapsAt w b s) :
    Calls Try.prog 18 #[.pointer (some ⟨b, 0, none⟩), .int .i64 j] w fun e w' => e = .returned (.tuple #[.int .i64 (s.r j), .int .i64 0]) ∧ Fr No w w' := by
  have hj : j < 64 := Nat.lt_of_lt_of_le hjobs h.ok.jobs
  have c0 := (h.blk.cell 0).trans s.c0
  have c2 := (h.blk.cell 2).trans s.c2
  have cr := (h.blk.cell (67 + j)).trans (s.cr h.ok.lm h.ok.lr j hj)
  have hlt := h.blk.lt
  clear h
  generalize s.r j = r at *
  generalize s.jobs = jb at *
  go_enter Try.func18, Try.ntmps18
  go_wp2
  go_quiet (fail)
  go_wp2
  go_ret2
  exact ⟨rfl, (((Fr.refl _ _).alloc _).alloc _).drewN _⟩

theorem used_out (b : Nat) (s : CS) (w : World) (job : Int) (hjobs : s.has job = false) (h : CapsAt w b s) :
    Calls Try.prog 18 #[.pointer (some ⟨b, 0, none⟩), .int .i64 job] w fun e w' => e = .returned (.tuple #[.int .i64 0, .int .i64 3]) ∧ Fr No w w' := by
  have hh : job < 0 ∨ (s.jobs : Int) ≤ job := by unfold CS.has at hjobs; simp at hjobs; omega
  have c0 := (h.blk.cell 0).trans s.c0
  have c2 := (h.blk.cell 2).trans s.c2
  have hlt := h.blk.lt
  clear h hjobs
  generalize s.jobs = jb at *
  rcases hh with hh | hh
  · go_enter Try.func18, Try.ntmps18
    go_wp2
    go_ret2
    exact ⟨rfl, (((Fr.refl _ _).alloc _).alloc _)⟩
  · have h0 : ¬ job < 0 := by omega
    go_enter Try.func18, Try.ntmps18
    go_wp2
    go_ret2
    exact ⟨rfl, (((Fr.refl _ _).alloc _).alloc _)⟩

theorem free_in (b : Nat) (s : CS) (w : World) (j : Nat) (hjobs : j < s.jobs) (h : CapsAt w b s) :
    Calls Try.prog 12 #[.pointer (some ⟨b, 0, none⟩), .int .i64 j] w fun e w' => e = .returned (.bool (decide (0 < s.left j))) ∧ Fr No w w' := by
  have H := Lib.hid (left_in b s w j hjobs h)
  clear h
  generalize s.left j = l at *
  go_enter Try.func12, Try.ntmps12
  go_wp2_with (go_at_call 11; refine H.out.mono ?_; rintro e w' ⟨rfl, hf⟩)
  go_ret
  exact ⟨rfl, hf⟩

theorem free_out (b : Nat) (s : CS) (w : World) (job : Int) (hjobs : s.has job = false) (h : CapsAt w b s) :
    Calls Try.prog 12 #[.pointer (some ⟨b, 0, none⟩), .int .i64 job] w fun e w' => e = .returned (.bool false) ∧ Fr No w w' := by
  have H := Lib.hid (left_out b s w job hjobs h)
  clear h
  go_enter Try.func12, Try.ntmps12
  go_wp2_with (go_at_call 11; refine H.out.mono ?_; rintro e w' ⟨rfl, hf⟩)
  go_ret
  exact ⟨rfl, hf⟩

theorem count_any (b : Nat) (s : CS) (w : World) (j : Nat) (by_ : Int) (hj : j < 64) (h : CapsAt w b s) (hok : (s.add j by_).ok) (hb1 : -100000 ≤ by_) (hb2 : by_ ≤ 100000) :
    Calls Try.prog 30 #[.pointer (some ⟨b, 0, none⟩), .int .i64 j, .int .i64 by_] w fun e w' => e = .returned (.tuple #[.int .i64 0, .int .i64 0]) ∧ CapsAt w' b (s.add j by_) ∧ Fr (· = b) w w' := by
  have := h.ok.r0 j; have := h.ok.r1 j; have := h.ok.m1 j; have := h.ok.tot0; have := h.ok.tot1; have := h.ok.all1
  refine (count_raw b j by_ (s.r j) s.total w j rfl hj ((h.blk.cell (67 + j)).trans (s.cr h.ok.lm h.ok.lr j hj)) ((h.blk.cell 131).trans (s.ct h.ok.lm h.ok.lr)) h.blk.frozen hb1 hb2 (by omega) (by omega) (by omega) (by omega)).mono ?_
  rintro e w' ⟨rfl, rfl⟩
  refine ⟨rfl, ⟨?_, hok⟩, ((Fr.refl (· = b) _).drew.setCell (.inr rfl) _).setCell (.inr rfl) _⟩
  rw [← s.add_cells j by_ h.ok.lm h.ok.lr hj]
  exact (h.blk.drew.set_ _ _).set_ _ _

theorem take_yes (b : Nat) (s : CS) (w : World) (j : Nat) (hjobs : j < s.jobs) (hl : 0 < s.left j) (h : CapsAt w b s) :
    Calls Try.prog 13 #[.pointer (some ⟨b, 0, none⟩), .int .i64 j] w fun e w' => e = .returned (.int .i64 0) ∧ CapsAt w' b (s.add j 1) ∧ Fr (· = b) w w' := by
  have hj : j < 64 := Nat.lt_of_lt_of_le hjobs h.ok.jobs
  have c0 := (h.blk.cell 0).trans s.c0
  have c2 := (h.blk.cell 2).trans s.c2
  have hlt := h.blk.lt
  have hd : decide (0 < s.left j) = true := by simpa using hl
  have HD := Lib.hid hd
  clear hd
  have HC := Lib.hid h
  have HO := Lib.hid (s.take_ok h.ok j hj hl)
  clear h hl
  go_enter Try.func13, Try.ntmps13
  go_wp2_with (first
    | (go_at_call 12; go_must (refine (free_in b s _ j hjobs ((HC.out.alloc _).alloc _)).mono ?_); rintro e w1 ⟨rfl, hf1⟩; rw [HD.out]; have kk := hf1.rd0.1)
    | (go_at_call 30; go_must (refine (count_any b s _ j 1 hj (((HC.out.alloc _).alloc _).fr hf1 (fun x => x)) HO.out (by omega) (by omega)).mono ?_); rintro e w2 ⟨rfl, hc2, hf2⟩)
    | (go_at_call 27; go_in) | (go_at_call 29; go_in))
  go_ret
  exact ⟨rfl, hc2, (((((Fr.refl (· = b) w).alloc _).alloc _).trans hf1 (fun _ _ x => x.elim)).trans hf2 (fun _ _ x => x))⟩
end Go.Proofs.Ytjgjbjigghfnbaa
