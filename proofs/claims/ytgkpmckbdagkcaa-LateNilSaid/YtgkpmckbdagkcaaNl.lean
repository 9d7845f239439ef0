/- Lists that are not valid; LateNil: the walk. -/
import Derived.Test.YtgkpmckbdagkcaaW
namespace Go.Proofs.Ytgkpmckbdagkcaa
open Go.RowKit Go.Wk

def BadL (w : World) (p : Option Addr) : Prop := p = none ∨ ∃ b, p = some ⟨b, 0, none⟩ ∧ Blk w b 50 #[.map none, .slice none 0 0, .int .i64 0]
theorem BadL.fr {w w' : World} {p : Option Addr} (h : BadL w p) (hf : Fr No w w') : BadL w' p := by
  rcases h with h | ⟨b, h, hb⟩
  · exact .inl h
  · exact .inr ⟨b, h, hb.fr hf (fun x => x)⟩
theorem valid_bad (p : Option Addr) (w : World) (h : BadL w p) : Calls Try.prog 35 #[.pointer p] w fun e w' => e = .returned (.bool false) ∧ w = w' := by
  rcases h with rfl | ⟨b, rfl, hb⟩
  · go_enter Try.func35, Try.ntmps35
    go_wp2
    go_ret
    exact ⟨rfl, rfl⟩
  · have c0 := hb.cell 0
    simp only [List.getElem?_toArray, List.getElem?_cons_zero] at c0
    have hm := fun (w : World) m => run_neq_map_nil w 48 3 60 m Try.underlying48
    clear hb
    go_enter Try.func35, Try.ntmps35
    go_wp2
    go_ret
    exact ⟨rfl, rfl⟩
theorem Len_bad (p : Option Addr) (w : World) (h : BadL w p) : Calls Try.prog 31 #[.pointer p] w fun e w' => e = .returned (.int .i64 0) ∧ w = w' := by
  have HV := Lib.hid (valid_bad p w h)
  clear h
  go_enter Try.func31, Try.ntmps31
  go_wp2_with (go_at_call 35; refine HV.out.mono ?_; rintro e w1 ⟨rfl, rfl⟩)
  go_ret
  exact ⟨rfl, rfl⟩
theorem Next_bad (p : Option Addr) (w : World) (h : BadL w p) : Calls Try.prog 27 #[.pointer p] w fun e w' => e = .returned (.tuple #[.int .i64 0, .bool false]) ∧ w = w' := by
  have HV := Lib.hid (Len_bad p w h)
  clear h
  go_enter Try.func27, Try.ntmps27
  go_wp2_with (go_at_call 31; refine HV.out.mono ?_; rintro e w1 ⟨rfl, rfl⟩)
  go_ret2
  exact ⟨rfl, rfl⟩
theorem Get_bad (p : Option Addr) (x : Int) (w : World) (h : BadL w p) : Calls Try.prog 29 #[.pointer p, .int .i64 x] w fun e w' => e = .returned (.tuple #[.int .i64 0, .bool false]) ∧ w = w' := by
  have HV := Lib.hid (valid_bad p w h)
  clear h
  go_enter Try.func29, Try.ntmps29
  go_wp2_with (go_at_call 35; refine HV.out.mono ?_; rintro e w1 ⟨rfl, rfl⟩)
  go_ret2
  exact ⟨rfl, rfl⟩
theorem Add_bad (p : Option Addr) (x d : Int) (w : World) (h : BadL w p) : Calls Try.prog 14 #[.pointer p, .int .i64 x, .int .i64 d] w fun e w' => e = .returned (.int .i64 1) ∧ w = w' := by
  have HV := Lib.hid (valid_bad p w h)
  clear h
  go_enter Try.func14, Try.ntmps14
  go_wp2_with (go_at_call 35; refine HV.out.mono ?_; rintro e w1 ⟨rfl, rfl⟩)
  go_ret
  exact ⟨rfl, rfl⟩
theorem Remove_bad (p : Option Addr) (x : Int) (w : World) (h : BadL w p) : Calls Try.prog 20 #[.pointer p, .int .i64 x] w fun e w' => e = .returned (.int .i64 1) ∧ w = w' := by
  have HV := Lib.hid (valid_bad p w h)
  clear h
  go_enter Try.func20, Try.ntmps20
  go_wp2_with (go_at_call 35; refine HV.out.mono ?_; rintro e w1 ⟨rfl, rfl⟩)
  go_ret
  exact ⟨rfl, rfl⟩
theorem Past_bad (p : Option Addr) (d : Int) (w : World) (h : BadL w p) : Calls Try.prog 23 #[.pointer p, .int .i64 d] w fun e w' => e = .returned (.slice none 0 0) ∧ w = w' := by
  have HV := Lib.hid (valid_bad p w h)
  clear h
  go_enter Try.func23, Try.ntmps23
  go_wp2_with (go_at_call 35; refine HV.out.mono ?_; rintro e w1 ⟨rfl, rfl⟩)
  go_ret
  exact ⟨rfl, rfl⟩
theorem Ids_bad (p : Option Addr) (w : World) (h : BadL w p) : Calls Try.prog 15 #[.pointer p] w fun e w' => e = .returned (.slice none 0 0) ∧ w = w' := by
  have HV := Lib.hid (valid_bad p w h)
  clear h
  go_enter Try.func15, Try.ntmps15
  go_wp2_with (go_at_call 35; refine HV.out.mono ?_; rintro e w1 ⟨rfl, rfl⟩)
  go_ret
  exact ⟨rfl, rfl⟩
theorem Copy_bad (p : Option Addr) (w : World) (h : BadL w p) : Calls Try.prog 25 #[.pointer p] w fun e w' => e = .returned (.pointer none) ∧ w = w' := by
  have HV := Lib.hid (valid_bad p w h)
  clear h
  go_enter Try.func25, Try.ntmps25
  go_wp2_with (go_at_call 35; refine HV.out.mono ?_; rintro e w1 ⟨rfl, rfl⟩)
  go_ret
  exact ⟨rfl, rfl⟩

/-- The two lists that are not valid. -/
structure NilI (w wr : World) (Y L : Nat) : Prop where
  y : Blk wr Y 50 #[.map none, .slice none 0 0, .int .i64 0]
  l : Blk wr L 24 #[.pointer none, .pointer (some ⟨Y, 0, none⟩)]
  fr : Fr No w wr
theorem NilI.bad {w wr : World} {Y L k : Nat} (h : NilI w wr Y L) (hk : k < 2) : ∃ p, BadL wr p ∧ wr.cell? ⟨L, k, none⟩ = some (.pointer p) := by
  rcases (show k = 0 ∨ k = 1 by omega) with rfl | rfl
  · exact ⟨none, .inl rfl, h.l.cell 0⟩
  · exact ⟨some ⟨Y, 0, none⟩, .inr ⟨Y, rfl, h.y⟩, h.l.cell 1⟩

set_option maxRecDepth 100000 in
set_option maxHeartbeats 4000000 in
theorem lateNil_walk (id at_ : Int) (w : World) : Calls Try.prog 5 #[.int .i64 id, .int .i64 at_] w fun e w' => e = .returned (.bool true) ∧ Fr No w w' := by
  have NI : NilI w ((w.alloc (.cells #[.map none, .slice none 0 0, .int .i64 0] 50)).alloc (.cells #[.pointer none, .pointer (some ⟨w.heap.size, 0, none⟩)] 24)) w.heap.size (w.heap.size + 1) := by
    refine ⟨(Blk.new w 50 _).alloc _, ?_, ((Fr.refl No w).alloc _).alloc _⟩
    have := Blk.new (w.alloc (.cells #[.map none, .slice none 0 0, .int .i64 0] 50)) 24 #[.pointer none, .pointer (some ⟨w.heap.size, 0, none⟩)]
    rw [World.size_alloc] at this
    exact this
  go_enter Try.func5, Try.ntmps5
  go_wp2_with fail
  generalize (w.alloc (.cells #[.map none, .slice none 0 0, .int .i64 0] 50)).alloc (.cells #[.pointer none, .pointer (some ⟨w.heap.size, 0, none⟩)] 24) = w0 at *
  go_loopw [7] (fun i wr => ∃ k : Nat, i = .int .i64 k ∧ k ≤ 2 ∧ NilI w wr w.heap.size (w.heap.size + 1)) (fun i _ => 2 - (intOf i).toNat)
  case atStart => exact ⟨0, rfl, by omega, NI⟩
  case round =>
    clear NI
    obtain ⟨k, rfl, hk, NI0⟩ := hrel
    have NI := Lib.hid NI0
    by_cases hlt : k < 2
    · obtain ⟨p, hbad, hcell⟩ := NI0.bad hlt
      have B1 := Lib.hid (Next_bad p wr hbad)
      have B2 := Lib.hid (Get_bad p id wr hbad)
      have B3 := Lib.hid (Add_bad p id at_ wr hbad)
      have B4 := Lib.hid (Remove_bad p id wr hbad)
      have B5 := Lib.hid (Past_bad p at_ wr hbad)
      have B6 := Lib.hid (Len_bad p wr hbad)
      have B7 := Lib.hid (Ids_bad p wr hbad)
      have B8 := Lib.hid (Copy_bad p wr hbad)
      clear NI0 hbad
      generalize w.heap.size + 1 = L at *
      generalize w.heap.size = Y at *
      go_wp2_with (first
        | (go_at_call 27; refine B1.out.mono ?_; rintro e _ ⟨rfl, rfl⟩)
        | (go_at_call 29; refine B2.out.mono ?_; rintro e _ ⟨rfl, rfl⟩)
        | (go_at_call 14; refine B3.out.mono ?_; rintro e _ ⟨rfl, rfl⟩)
        | (go_at_call 20; refine B4.out.mono ?_; rintro e _ ⟨rfl, rfl⟩)
        | (go_at_call 23; refine B5.out.mono ?_; rintro e _ ⟨rfl, rfl⟩)
        | (go_at_call 31; refine B6.out.mono ?_; rintro e _ ⟨rfl, rfl⟩)
        | (go_at_call 15; refine B7.out.mono ?_; rintro e _ ⟨rfl, rfl⟩)
        | (go_at_call 25; refine B8.out.mono ?_; rintro e _ ⟨rfl, rfl⟩))
      go_roundw
      case rel => exact ⟨k + 1, by go_num, by omega, NI.out⟩
      case measure => simp [intOf]; omega
    · clear NI0
      go_wp2_with fail
      refine (works_any _).mono ?_
      rintro e w1 ⟨rfl, hf⟩
      go_wp2
      go_ret
      exact ⟨rfl, NI.out.fr.then0 hf⟩
end Go.Proofs.Ytgkpmckbdagkcaa
