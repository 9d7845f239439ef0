/- The contracts of package runs: Start. -/
import Derived.Test.YtopcjakgfaobcaaC
import Derived.Deep.RegionLaw
namespace Go.Proofs.Ytopcjakgfaobcaa
open Go.RowKit Go.Wk

def okA (job att : Int) : Bool := decide (0 ≤ job ∧ 1 ≤ att)
def okT (due now : Int) : Bool := decide (0 ≤ due ∧ 0 ≤ now ∧ due ≤ 253402300799 ∧ now ≤ 253402300799)
def TS.room (s : TS) : Bool := decide ((s.live.length : Int) < s.size)
def TS.startE (s : TS) (job due att now : Int) : Int := if okA job att then (if okT due now then (if s.room then 0 else 4) else 14) else 2
def TS.starts (s : TS) (job due att now : Int) : Bool := okA job att && okT due now && s.room
def TS.push (s : TS) (job due att now : Int) : TS := { s with live := s.live ++ [⟨s.last + 1, job, due, att, now⟩], last := s.last + 1 }
def TS.startS (s : TS) (job due att now : Int) : TS := if s.starts job due att now then s.push job due att now else s
def TS.startV (s : TS) (job due att now : Int) : Int := if s.starts job due att now then s.last + 1 else 0

theorem TS.push_ok (s : TS) (h : s.ok) (job due att now : Int) (hr : s.room = true) (ht : okT due now = true) (hl : s.last < 1000000) : (s.push job due att now).ok := by
  have hr' : (s.live.length : Int) < s.size := by simpa [TS.room] using hr
  have ht' : 0 ≤ due ∧ 0 ≤ now ∧ due ≤ 253402300799 ∧ now ≤ 253402300799 := by simpa [okT] using ht
  refine ⟨h.s0, h.s1, ?_, ?_, ?_, ?_, ?_, ?_⟩
  · show (((s.live ++ [_]).length : Nat) : Int) ≤ s.size
    simp; omega
  · show (s.live ++ [_]).Pairwise _
    rw [List.pairwise_append]
    refine ⟨h.inc, List.pairwise_singleton _ _, fun x hx y hy => ?_⟩
    have := (h.ids x hx).2
    simp at hy
    subst hy
    show x.id < s.last + 1
    omega
  · intro x hx
    have hx' : x ∈ s.live ∨ x = ⟨s.last + 1, job, due, att, now⟩ := by simpa [TS.push] using hx
    have := h.l0
    rcases hx' with hx' | rfl
    · have := h.ids x hx'; show 1 ≤ x.id ∧ x.id ≤ s.last + 1; omega
    · show 1 ≤ s.last + 1 ∧ s.last + 1 ≤ s.last + 1; omega
  · intro x hx
    have hx' : x ∈ s.live ∨ x = ⟨s.last + 1, job, due, att, now⟩ := by simpa [TS.push] using hx
    rcases hx' with hx' | rfl
    · exact h.times x hx'
    · exact ⟨ht'.2.1, ht'.2.2.2⟩
  · have := h.l0; show 0 ≤ s.last + 1; omega
  · show s.last + 1 ≤ 1000000; omega

theorem start_arg (b : Nat) (D : Nat → Prop) (s : TS) (w : World) (job due att now : Int) (h : TabAt w b D s) (hA : okA job att = false) :
    Calls Try.prog 13 #[.pointer (some ⟨b, 0, none⟩), .int .i64 job, .int .i64 due, .int .i64 att, .int .i64 now] w fun e w' => e = .returned (.tuple #[.int .i64 0, .int .i64 2]) ∧ w = w' := by
  have HV := Lib.hid (valid_any b D s w h)
  have hh : job < 0 ∨ (¬ job < 0 ∧ att < 1) := by simp [okA] at hA; omega
  clear h hA
  rcases hh with h | ⟨h, h2⟩
  all_goals
    go_enter Try.func13, Try.ntmps13
    go_wp2_with (go_at_call 35; refine HV.out.mono ?_; rintro e w1 ⟨rfl, rfl⟩)
    go_ret2
    exact ⟨rfl, rfl⟩
theorem start_time (b : Nat) (D : Nat → Prop) (s : TS) (w : World) (job due att now : Int) (h : TabAt w b D s) (hA : okA job att = true) (hT : okT due now = false) :
    Calls Try.prog 13 #[.pointer (some ⟨b, 0, none⟩), .int .i64 job, .int .i64 due, .int .i64 att, .int .i64 now] w fun e w' => e = .returned (.tuple #[.int .i64 0, .int .i64 14]) ∧ w = w' := by
  have HV := Lib.hid (valid_any b D s w h)
  have hA' : ¬ job < 0 ∧ ¬ att < 1 := by simp [okA] at hA; omega
  obtain ⟨ha1, ha2⟩ := hA'
  have hT' : ¬ (0 ≤ due ∧ 0 ≤ now ∧ due ≤ 253402300799 ∧ now ≤ 253402300799) := by simpa [okT] using hT
  clear h hA hT
  rcases (show (due ≤ now ∧ due < 0) ∨ (due ≤ now ∧ ¬ due < 0 ∧ 253402300799 < now) ∨ (¬ due ≤ now ∧ now < 0) ∨ (¬ due ≤ now ∧ ¬ now < 0 ∧ 253402300799 < due) by omega) with ⟨h1, h2⟩ | ⟨h1, h2, h3⟩ | ⟨h1, h2⟩ | ⟨h1, h2, h3⟩
  all_goals
    clear hT'
    go_enter Try.func13, Try.ntmps13
    go_wp2_with (go_at_call 35; refine HV.out.mono ?_; rintro e w1 ⟨rfl, rfl⟩)
  all_goals
    first
      | omega
      | (go_ret2; exact ⟨rfl, rfl⟩)
end Go.Proofs.Ytopcjakgfaobcaa
