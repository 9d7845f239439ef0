/- The contracts of package caps in one form for any job. -/
import Derived.Test.YtjgjbjigghfnbaaD
namespace Go.Proofs.Ytjgjbjigghfnbaa
open Go.RowKit Go.Wk

def CS.err (s : CS) (job : Int) : Int := if s.has job then 0 else 3
def CS.leftV (s : CS) (job : Int) : Int := if s.has job then s.left job.toNat else 0
def CS.usedV (s : CS) (job : Int) : Int := if s.has job then s.r job.toNat else 0
def CS.freeV (s : CS) (job : Int) : Bool := s.has job && decide (0 < s.left job.toNat)
def CS.takeE (s : CS) (job : Int) : Int := if s.has job then (if 0 < s.left job.toNat then 0 else 4) else 3
def CS.takeS (s : CS) (job : Int) : CS := if s.freeV job then s.add job.toNat 1 else s
def CS.giveE (s : CS) (job : Int) : Int := if s.has job then (if s.r job.toNat = 0 then 5 else 0) else 3
def CS.giveS (s : CS) (job : Int) : CS := if s.has job && !decide (s.r job.toNat = 0) then s.add job.toNat (-1) else s

theorem CS.has_nat {s : CS} {job : Int} (h : s.has job = true) : ∃ j : Nat, job = j ∧ j < s.jobs := by
  unfold CS.has at h
  simp at h
  exact ⟨job.toNat, by omega, by omega⟩

theorem left_any (b : Nat) (s : CS) (w : World) (job : Int) (h : CapsAt w b s) :
    Calls Try.prog 11 #[.pointer (some ⟨b, 0, none⟩), .int .i64 job] w fun e w' => e = .returned (.tuple #[.int .i64 (s.leftV job), .int .i64 (s.err job)]) ∧ Fr No w w' := by
  unfold CS.leftV CS.err
  by_cases hh : s.has job = true
  · simp only [hh, if_true]
    obtain ⟨j, rfl, hj⟩ := CS.has_nat hh
    exact left_in b s w j hj h
  · simp only [hh]
    exact left_out b s w job (by simpa using hh) h
theorem used_any (b : Nat) (s : CS) (w : World) (job : Int) (h : CapsAt w b s) :
    Calls Try.prog 18 #[.pointer (some ⟨b, 0, none⟩), .int .i64 job] w fun e w' => e = .returned (.tuple #[.int .i64 (s.usedV job), .int .i64 (s.err job)]) ∧ Fr No w w' := by
  unfold CS.usedV CS.err
  by_cases hh : s.has job = true
  · simp only [hh, if_true]
    obtain ⟨j, rfl, hj⟩ := CS.has_nat hh
    exact used_in b s w j hj h
  · simp only [hh]
    exact used_out b s w job (by simpa using hh) h
theorem free_any (b : Nat) (s : CS) (w : World) (job : Int) (h : CapsAt w b s) :
    Calls Try.prog 12 #[.pointer (some ⟨b, 0, none⟩), .int .i64 job] w fun e w' => e = .returned (.bool (s.freeV job)) ∧ Fr No w w' := by
  unfold CS.freeV
  by_cases hh : s.has job = true
  · simp only [hh, Bool.true_and]
    obtain ⟨j, rfl, hj⟩ := CS.has_nat hh
    exact free_in b s w j hj h
  · simp only [hh, Bool.false_and]
    exact free_out b s w job (by simpa using hh) h

theorem take_no (b : Nat) (s : CS) (w : World) (j : Nat) (hjobs : j < s.jobs) (hl : ¬ 0 < s.left j) (h : CapsAt w b s) :
    Calls Try.prog 13 #[.pointer (some ⟨b, 0, none⟩), .int .i64 j] w fun e w' => e = .returned (.int .i64 4) ∧ Fr No w w' := by
  have c0 := (h.blk.cell 0).trans s.c0
  have c2 := (h.blk.cell 2).trans s.c2
  have hlt := h.blk.lt
  have HD := Lib.hid (show decide (0 < s.left j) = false by simpa using hl)
  have HC := Lib.hid h
  clear h hl
  go_enter Try.func13, Try.ntmps13
  go_wp2_with (first
    | (go_at_call 12; go_must (refine (free_in b s _ j hjobs ((HC.out.alloc _).alloc _)).mono ?_); rintro e w1 ⟨rfl, hf1⟩; rw [HD.out]; have kk := hf1.rd0.1)
    | (go_at_call 27; go_in) | (go_at_call 29; go_in))
  go_ret
  exact ⟨rfl, (((Fr.refl No w).alloc _).alloc _).trans hf1 (fun _ _ x => x)⟩

theorem take_out (b : Nat) (s : CS) (w : World) (job : Int) (hjobs : s.has job = false) (h : CapsAt w b s) :
    Calls Try.prog 13 #[.pointer (some ⟨b, 0, none⟩), .int .i64 job] w fun e w' => e = .returned (.int .i64 3) ∧ Fr No w w' := by
  have hh : job < 0 ∨ (s.jobs : Int) ≤ job := by unfold CS.has at hjobs; simp at hjobs; omega
  have c0 := (h.blk.cell 0).trans s.c0
  have c2 := (h.blk.cell 2).trans s.c2
  have hlt := h.blk.lt
  clear h hjobs
  generalize s.jobs = jb at *
  rcases hh with hh | hh
  · go_enter Try.func13, Try.ntmps13
    go_wp2
    go_ret
    exact ⟨rfl, (((Fr.refl _ _).alloc _).alloc _)⟩
  · have h0 : ¬ job < 0 := by omega
    go_enter Try.func13, Try.ntmps13
    go_wp2
    go_ret
    exact ⟨rfl, (((Fr.refl _ _).alloc _).alloc _)⟩

theorem take_any (b : Nat) (s : CS) (w : World) (job : Int) (h : CapsAt w b s) :
    Calls Try.prog 13 #[.pointer (some ⟨b, 0, none⟩), .int .i64 job] w fun e w' => e = .returned (.int .i64 (s.takeE job)) ∧ CapsAt w' b (s.takeS job) ∧ Fr (· = b) w w' := by
  unfold CS.takeE CS.takeS CS.freeV
  by_cases hh : s.has job = true
  · simp only [hh, if_true, Bool.true_and]
    obtain ⟨j, rfl, hj⟩ := CS.has_nat hh
    by_cases hl : 0 < s.left j
    · simp only [Int.toNat_natCast, hl, if_true, decide_true]
      exact take_yes b s w j hj hl h
    · simp only [Int.toNat_natCast, hl, decide_false]
      exact (take_no b s w j hj hl h).mono fun e w' ⟨he, hf⟩ => ⟨he, h.fr hf (fun x => x), hf.mono (fun _ x => x.elim)⟩
  · simp only [hh, Bool.false_and]
    exact (take_out b s w job (by simpa using hh) h).mono fun e w' ⟨he, hf⟩ => ⟨he, h.fr hf (fun x => x), hf.mono (fun _ x => x.elim)⟩

theorem give_yes (b : Nat) (s : CS) (w : World) (j : Nat) (hjobs : j < s.jobs) (hl : s.r j ≠ 0) (h : CapsAt w b s) :
    Calls Try.prog 17 #[.pointer (some ⟨b, 0, none⟩), .int .i64 j] w fun e w' => e = .returned (.int .i64 0) ∧ CapsAt w' b (s.add j (-1)) ∧ Fr (· = b) w w' := by
  have hj : j < 64 := Nat.lt_of_lt_of_le hjobs h.ok.jobs
  have c0 := (h.blk.cell 0).trans s.c0
  have c2 := (h.blk.cell 2).trans s.c2
  have cr := (h.blk.cell (67 + j)).trans (s.cr h.ok.lm h.ok.lr j hj)
  have hlt := h.blk.lt
  have hb : (s.r j == 0) = false := by simpa using hl
  have HC := Lib.hid h
  have HO := Lib.hid (s.give_ok h.ok j hj (by have := h.ok.r0 j; omega))
  clear h hl
  go_enter Try.func17, Try.ntmps17
  go_wp2_with (first
    | (go_at_call 30; go_must (refine (count_any b s _ j (-1) hj ((HC.out.alloc _).alloc _) HO.out (by omega) (by omega)).mono ?_); rintro e w2 ⟨rfl, hc2, hf2⟩)
    | (go_at_call 27; go_in) | (go_at_call 33; go_in))
  go_quiet (fail)
  go_wp2_with (first
    | (go_at_call 30; go_must (refine (count_any b s _ j (-1) hj (((HC.out.alloc _).alloc _).drewN _) HO.out (by omega) (by omega)).mono ?_); rintro e w2 ⟨rfl, hc2, hf2⟩)
    | (go_at_call 27; go_in) | (go_at_call 33; go_in))
  go_ret
  exact ⟨rfl, hc2, ((((Fr.refl (· = b) w).alloc _).alloc _).drewN _).trans hf2 (fun _ _ x => x)⟩

theorem give_none (b : Nat) (s : CS) (w : World) (j : Nat) (hjobs : j < s.jobs) (hl : s.r j = 0) (h : CapsAt w b s) :
    Calls Try.prog 17 #[.pointer (some ⟨b, 0, none⟩), .int .i64 j] w fun e w' => e = .returned (.int .i64 5) ∧ Fr No w w' := by
  have hj : j < 64 := Nat.lt_of_lt_of_le hjobs h.ok.jobs
  have c0 := (h.blk.cell 0).trans s.c0
  have c2 := (h.blk.cell 2).trans s.c2
  have cr := (h.blk.cell (67 + j)).trans (s.cr h.ok.lm h.ok.lr j hj)
  rw [hl] at cr
  have hlt := h.blk.lt
  clear h hl
  go_enter Try.func17, Try.ntmps17
  go_wp2
  go_quiet (fail)
  go_wp2
  go_ret
  exact ⟨rfl, ((((Fr.refl _ _).alloc _).alloc _).drewN _)⟩

theorem give_out (b : Nat) (s : CS) (w : World) (job : Int) (hjobs : s.has job = false) (h : CapsAt w b s) :
    Calls Try.prog 17 #[.pointer (some ⟨b, 0, none⟩), .int .i64 job] w fun e w' => e = .returned (.int .i64 3) ∧ Fr No w w' := by
  have hh : job < 0 ∨ (s.jobs : Int) ≤ job := by unfold CS.has at hjobs; simp at hjobs; omega
  have c0 := (h.blk.cell 0).trans s.c0
  have c2 := (h.blk.cell 2).trans s.c2
  have hlt := h.blk.lt
  clear h hjobs
  generalize s.jobs = jb at *
  rcases hh with hh | hh
  · go_enter Try.func17, Try.ntmps17
    go_wp2
    go_ret
    exact ⟨rfl, (((Fr.refl _ _).alloc _).alloc _)⟩
  · have h0 : ¬ job < 0 := by omega
    go_enter Try.func17, Try.ntmps17
    go_wp2
    go_ret
    exact ⟨rfl, (((Fr.refl _ _).alloc _).alloc _)⟩

theorem give_any (b : Nat) (s : CS) (w : World) (job : Int) (h : CapsAt w b s) :
    Calls Try.prog 17 #[.pointer (some ⟨b, 0, none⟩), .int .i64 job] w fun e w' => e = .returned (.int .i64 (s.giveE job)) ∧ CapsAt w' b (s.giveS job) ∧ Fr (· = b) w w' := by
  unfold CS.giveE CS.giveS
  by_cases hh : s.has job = true
  · simp only [hh, if_true, Bool.true_and]
    obtain ⟨j, rfl, hj⟩ := CS.has_nat hh
    by_cases hl : s.r j = 0
    · simp only [Int.toNat_natCast, hl, if_true, decide_true]
      exact (give_none b s w j hj hl h).mono fun e w' ⟨he, hf⟩ => ⟨he, h.fr hf (fun x => x), hf.mono (fun _ x => x.elim)⟩
    · simp only [Int.toNat_natCast, hl, decide_false]
      exact give_yes b s w j hj hl h
  · simp only [hh, Bool.false_and]
    exact (give_out b s w job (by simpa using hh) h).mono fun e w' ⟨he, hf⟩ => ⟨he, h.fr hf (fun x => x), hf.mono (fun _ x => x.elim)⟩

theorem total_any (b : Nat) (s : CS) (w : World) (h : CapsAt w b s) :
    Calls Try.prog 15 #[.pointer (some ⟨b, 0, none⟩)] w fun e w' => e = .returned (.int .i64 s.total) ∧ w = w' := by
  have ct := (h.blk.cell 131).trans (s.ct h.ok.lm h.ok.lr)
  clear h
  generalize s.total = t at *
  go_enter Try.func15, Try.ntmps15
  go_wp2
  go_ret
  exact ⟨rfl, rfl⟩

theorem CS.takeS_ok {w : World} {b : Nat} {s : CS} {job : Int} (h : CapsAt w b (s.takeS job)) : (s.takeS job).ok := h.ok
end Go.Proofs.Ytjgjbjigghfnbaa
