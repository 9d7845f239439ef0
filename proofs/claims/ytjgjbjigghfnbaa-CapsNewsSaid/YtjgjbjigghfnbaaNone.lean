/- Caps that are nil, or were not made by New. -/
import Derived.Test.YtjgjbjigghfnbaaCopy
namespace Go.Proofs.Ytjgjbjigghfnbaa
open Go.RowKit Go.Wk

theorem left_nil (w : World) (job : Int) : Calls Try.prog 11 #[.pointer none, .int .i64 job] w fun e w' => e = .returned (.tuple #[.int .i64 0, .int .i64 1]) ∧ Fr No w w' := by
  go_enter Try.func11, Try.ntmps11
  go_wp2
  go_ret2
  exact ⟨rfl, (((Fr.refl _ _).alloc _).alloc _)⟩
theorem used_nil (w : World) (job : Int) : Calls Try.prog 18 #[.pointer none, .int .i64 job] w fun e w' => e = .returned (.tuple #[.int .i64 0, .int .i64 1]) ∧ Fr No w w' := by
  go_enter Try.func18, Try.ntmps18
  go_wp2
  go_ret2
  exact ⟨rfl, (((Fr.refl _ _).alloc _).alloc _)⟩
theorem take_nil (w : World) (job : Int) : Calls Try.prog 13 #[.pointer none, .int .i64 job] w fun e w' => e = .returned (.int .i64 1) ∧ Fr No w w' := by
  go_enter Try.func13, Try.ntmps13
  go_wp2
  go_ret
  exact ⟨rfl, (((Fr.refl _ _).alloc _).alloc _)⟩
theorem give_nil (w : World) (job : Int) : Calls Try.prog 17 #[.pointer none, .int .i64 job] w fun e w' => e = .returned (.int .i64 1) ∧ Fr No w w' := by
  go_enter Try.func17, Try.ntmps17
  go_wp2
  go_ret
  exact ⟨rfl, (((Fr.refl _ _).alloc _).alloc _)⟩
theorem total_nil (w : World) : Calls Try.prog 15 #[.pointer none] w fun e w' => e = .returned (.int .i64 0) ∧ w = w' := by
  go_enter Try.func15, Try.ntmps15
  go_wp2
  go_ret
  exact ⟨rfl, rfl⟩
theorem copy_nil (w : World) : Calls Try.prog 22 #[.pointer none] w fun e w' => e = .returned (.pointer none) ∧ w = w' := by
  go_enter Try.func22, Try.ntmps22
  go_wp2
  go_ret
  exact ⟨rfl, rfl⟩
theorem ZC0 : ZC[0]? = some (.bool false) := by unfold ZC; rw [List.getElem?_toArray]; exact List.getElem?_cons_zero
theorem ZC131 : ZC[131]? = some (.int .i64 0) := by
  unfold ZC
  rw [List.getElem?_toArray, show 131 = 128 + 1 + 1 + 1 by omega]
  simp only [List.getElem?_cons_succ]
  rw [List.getElem?_append_right (by simp)]
  simp
section
variable {w : World} {z : Nat} (h : Blk w z 57 ZC)
include h
theorem left_zero (job : Int) : Calls Try.prog 11 #[.pointer (some ⟨z, 0, none⟩), .int .i64 job] w fun e w' => e = .returned (.tuple #[.int .i64 0, .int .i64 1]) ∧ Fr No w w' := by
  have c0 := (h.cell 0).trans ZC0
  have hlt := h.lt
  clear h
  go_enter Try.func11, Try.ntmps11
  go_wp2
  go_ret2
  exact ⟨rfl, (((Fr.refl _ _).alloc _).alloc _)⟩
theorem used_zero (job : Int) : Calls Try.prog 18 #[.pointer (some ⟨z, 0, none⟩), .int .i64 job] w fun e w' => e = .returned (.tuple #[.int .i64 0, .int .i64 1]) ∧ Fr No w w' := by
  have c0 := (h.cell 0).trans ZC0
  have hlt := h.lt
  clear h
  go_enter Try.func18, Try.ntmps18
  go_wp2
  go_ret2
  exact ⟨rfl, (((Fr.refl _ _).alloc _).alloc _)⟩
theorem take_zero (job : Int) : Calls Try.prog 13 #[.pointer (some ⟨z, 0, none⟩), .int .i64 job] w fun e w' => e = .returned (.int .i64 1) ∧ Fr No w w' := by
  have c0 := (h.cell 0).trans ZC0
  have hlt := h.lt
  clear h
  go_enter Try.func13, Try.ntmps13
  go_wp2
  go_ret
  exact ⟨rfl, (((Fr.refl _ _).alloc _).alloc _)⟩
theorem give_zero (job : Int) : Calls Try.prog 17 #[.pointer (some ⟨z, 0, none⟩), .int .i64 job] w fun e w' => e = .returned (.int .i64 1) ∧ Fr No w w' := by
  have c0 := (h.cell 0).trans ZC0
  have hlt := h.lt
  clear h
  go_enter Try.func17, Try.ntmps17
  go_wp2
  go_ret
  exact ⟨rfl, (((Fr.refl _ _).alloc _).alloc _)⟩
theorem total_zero : Calls Try.prog 15 #[.pointer (some ⟨z, 0, none⟩)] w fun e w' => e = .returned (.int .i64 0) ∧ w = w' := by
  have c0 := (h.cell 131).trans ZC131
  clear h
  go_enter Try.func15, Try.ntmps15
  go_wp2
  go_ret
  exact ⟨rfl, rfl⟩
theorem copy_zero : Calls Try.prog 22 #[.pointer (some ⟨z, 0, none⟩)] w fun e w' => e = .returned (.pointer none) ∧ w = w' := by
  have c0 := (h.cell 0).trans ZC0
  clear h
  go_enter Try.func22, Try.ntmps22
  go_wp2
  go_ret
  exact ⟨rfl, rfl⟩
end

/-- Caps that no New has made. -/
def NoneP (w : World) (p : Value) : Prop := p = .pointer none ∨ ∃ z, p = .pointer (some ⟨z, 0, none⟩) ∧ Blk w z 57 ZC
theorem NoneP.fr {w w' : World} {p : Value} (h : NoneP w p) (hf : Fr No w w') : NoneP w' p := by
  rcases h with h | ⟨z, h, hb⟩
  · exact .inl h
  · exact .inr ⟨z, h, hb.fr hf (fun x => x)⟩
theorem left_none {w : World} {p : Value} (h : NoneP w p) (job : Int) : Calls Try.prog 11 #[p, .int .i64 job] w fun e w' => e = .returned (.tuple #[.int .i64 0, .int .i64 1]) ∧ Fr No w w' := by
  rcases h with rfl | ⟨z, rfl, hb⟩
  · exact left_nil w job
  · exact left_zero hb job
theorem used_none {w : World} {p : Value} (h : NoneP w p) (job : Int) : Calls Try.prog 18 #[p, .int .i64 job] w fun e w' => e = .returned (.tuple #[.int .i64 0, .int .i64 1]) ∧ Fr No w w' := by
  rcases h with rfl | ⟨z, rfl, hb⟩
  · exact used_nil w job
  · exact used_zero hb job
theorem take_none {w : World} {p : Value} (h : NoneP w p) (job : Int) : Calls Try.prog 13 #[p, .int .i64 job] w fun e w' => e = .returned (.int .i64 1) ∧ Fr No w w' := by
  rcases h with rfl | ⟨z, rfl, hb⟩
  · exact take_nil w job
  · exact take_zero hb job
theorem gives_none {w : World} {p : Value} (h : NoneP w p) (job : Int) : Calls Try.prog 17 #[p, .int .i64 job] w fun e w' => e = .returned (.int .i64 1) ∧ Fr No w w' := by
  rcases h with rfl | ⟨z, rfl, hb⟩
  · exact give_nil w job
  · exact give_zero hb job
theorem total_none {w : World} {p : Value} (h : NoneP w p) : Calls Try.prog 15 #[p] w fun e w' => e = .returned (.int .i64 0) ∧ w = w' := by
  rcases h with rfl | ⟨z, rfl, hb⟩
  · exact total_nil w
  · exact total_zero hb
theorem copy_none {w : World} {p : Value} (h : NoneP w p) : Calls Try.prog 22 #[p] w fun e w' => e = .returned (.pointer none) ∧ w = w' := by
  rcases h with rfl | ⟨z, rfl, hb⟩
  · exact copy_nil w
  · exact copy_zero hb
theorem free_none {w : World} {p : Value} (h : NoneP w p) (job : Int) : Calls Try.prog 12 #[p, .int .i64 job] w fun e w' => e = .returned (.bool false) ∧ Fr No w w' := by
  have H := Lib.hid (left_none h job)
  clear h
  go_enter Try.func12, Try.ntmps12
  go_wp2_with (go_at_call 11; refine H.out.mono ?_; rintro e w' ⟨rfl, hf⟩)
  go_ret
  exact ⟨rfl, hf⟩
end Go.Proofs.Ytjgjbjigghfnbaa
