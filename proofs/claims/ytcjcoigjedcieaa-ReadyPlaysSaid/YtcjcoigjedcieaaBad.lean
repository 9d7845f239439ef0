/- Queues that are nil, or were not made by New. -/
import Derived.Test.YtcjcoigjedcieaaTk
namespace Go.Proofs.Ytcjcoigjedcieaa
open Go.RowKit Go.Wk

/-- No queue: nil, or one without a map. -/
def Bad (w : World) (v : Value) : Prop := v = .pointer none ∨ ∃ b, v = .pointer (some ⟨b, 0, none⟩) ∧ b < w.heap.size ∧ w.cell? ⟨b, 1, none⟩ = some (.map none)
theorem Bad.fr0 {w w' : World} {v : Value} (h : Bad w v) (hf : Fr No w w') : Bad w' v := by
  rcases h with h | ⟨b, h, hb, hc⟩
  · exact .inl h
  · exact .inr ⟨b, h, Nat.lt_of_lt_of_le hb hf.size, (hf.cell (p := ⟨b, 1, none⟩) hb (fun z => z)).trans hc⟩
theorem made_bad (v : Value) (w : World) (h : Bad w v) : Calls Try.prog 45 #[v] w fun e w' => e = .returned (.bool false) ∧ w = w' := by
  have hm := fun (w : World) m => run_neq_map_nil w 63 3 31 m Try.underlying63
  rcases h with rfl | ⟨b, rfl, _, hc⟩
  · go_enter Try.func45, Try.ntmps45
    go_wp2
    go_ret
    exact ⟨rfl, rfl⟩
  · go_enter Try.func45, Try.ntmps45
    go_wp2
    go_ret
    exact ⟨rfl, rfl⟩
theorem Head_bad (v : Value) (w : World) (h : Bad w v) : Calls Try.prog 20 #[v] w fun e w' => e = .returned (.tuple #[.int .i64 0, .bool false]) ∧ w = w' := by
  have HV := Lib.hid (made_bad v w h)
  clear h
  go_enter Try.func20, Try.ntmps20
  go_wp2_with fail
  refine HV.out.mono ?_
  rintro e w1 ⟨rfl, rfl⟩
  go_wp2
  go_ret2
  exact ⟨rfl, rfl⟩
theorem Push_bad (v : Value) (x p u : Int) (w : World) (h : Bad w v) : Calls Try.prog 19 #[v, .int .i64 x, .int .i64 p, .int .i64 u] w fun e w' => e = .returned (.int .i64 1) ∧ w = w' := by
  have HV := Lib.hid (made_bad v w h)
  clear h
  go_enter Try.func19, Try.ntmps19
  go_wp2_with fail
  refine HV.out.mono ?_
  rintro e w1 ⟨rfl, rfl⟩
  go_wp2
  go_ret
  exact ⟨rfl, rfl⟩
theorem Remove_bad (v : Value) (x : Int) (w : World) (h : Bad w v) : Calls Try.prog 21 #[v, .int .i64 x] w fun e w' => e = .returned (.int .i64 1) ∧ w = w' := by
  have HV := Lib.hid (made_bad v w h)
  clear h
  go_enter Try.func21, Try.ntmps21
  go_wp2_with fail
  refine HV.out.mono ?_
  rintro e w1 ⟨rfl, rfl⟩
  go_wp2
  go_ret
  exact ⟨rfl, rfl⟩
theorem Has_bad (v : Value) (x : Int) (w : World) (h : Bad w v) : Calls Try.prog 15 #[v, .int .i64 x] w fun e w' => e = .returned (.bool false) ∧ w = w' := by
  have HV := Lib.hid (made_bad v w h)
  clear h
  go_enter Try.func15, Try.ntmps15
  go_wp2_with fail
  refine HV.out.mono ?_
  rintro e w1 ⟨rfl, rfl⟩
  go_wp2
  go_ret
  exact ⟨rfl, rfl⟩
theorem Len_bad (v : Value) (w : World) (h : Bad w v) : Calls Try.prog 13 #[v] w fun e w' => e = .returned (.int .i64 0) ∧ w = w' := by
  have HV := Lib.hid (made_bad v w h)
  clear h
  go_enter Try.func13, Try.ntmps13
  go_wp2_with fail
  refine HV.out.mono ?_
  rintro e w1 ⟨rfl, rfl⟩
  go_wp2
  go_ret
  exact ⟨rfl, rfl⟩
theorem Room_bad (v : Value) (w : World) (h : Bad w v) : Calls Try.prog 14 #[v] w fun e w' => e = .returned (.int .i64 0) ∧ w = w' := by
  have HV := Lib.hid (made_bad v w h)
  clear h
  go_enter Try.func14, Try.ntmps14
  go_wp2_with fail
  refine HV.out.mono ?_
  rintro e w1 ⟨rfl, rfl⟩
  go_wp2
  go_ret
  exact ⟨rfl, rfl⟩
theorem Items_bad (v : Value) (w : World) (h : Bad w v) : Calls Try.prog 12 #[v] w fun e w' => e = .returned (.slice none 0 0) ∧ w = w' := by
  have HV := Lib.hid (made_bad v w h)
  clear h
  go_enter Try.func12, Try.ntmps12
  go_wp2_with fail
  refine HV.out.mono ?_
  rintro e w1 ⟨rfl, rfl⟩
  go_wp2
  go_ret
  exact ⟨rfl, rfl⟩
theorem Copy_bad (v : Value) (w : World) (h : Bad w v) : Calls Try.prog 33 #[v] w fun e w' => e = .returned (.pointer none) ∧ w = w' := by
  have HV := Lib.hid (made_bad v w h)
  clear h
  go_enter Try.func33, Try.ntmps33
  go_wp2_with fail
  refine HV.out.mono ?_
  rintro e w1 ⟨rfl, rfl⟩
  go_wp2
  go_ret
  exact ⟨rfl, rfl⟩
theorem Pick_bad (v f : Value) (w : World) (h : Bad w v) : Calls Try.prog 23 #[v, f] w fun e w' => e = .returned (.tuple #[.int .i64 0, .bool false]) ∧ w = w' := by
  have HV := Lib.hid (made_bad v w h)
  clear h
  go_enter Try.func23, Try.ntmps23
  go_wp2_with fail
  refine HV.out.mono ?_
  rintro e w1 ⟨rfl, rfl⟩
  go_wp2
  go_ret2
  exact ⟨rfl, rfl⟩
/-- The document's New. -/
theorem rNew_any (size ag : Int) (h1 : 0 ≤ size ∧ size ≤ 1024) (h2 : 1 ≤ ag ∧ ag ≤ 68719476736) (w : World) : Calls Try.prog 34 #[.int .i64 size, .int .i64 ag] w fun e w' => e = .returned (.tuple #[.pointer (some ⟨w.heap.size, 0, none⟩), .int .i64 0]) ∧ Blk w' w.heap.size 83 #[.bool true, .slice none 0 0, .int .i64 size, .int .i64 ag, .int .i64 0] ∧ w.heap.size < w'.heap.size ∧ Fr No w w' := by
  obtain ⟨a1, a2⟩ := h1
  obtain ⟨a3, a4⟩ := h2
  have b1 : decide (size < 0) = false := by simp; omega
  have b2 : decide (1024 < size) = false := by simp; omega
  have b3 : decide (ag < 1) = false := by simp; omega
  have b4 : decide (68719476736 < ag) = false := by simp; omega
  clear a1 a2 a3 a4
  go_enter Try.func34, Try.ntmps34
  go_wp2
  go_ret2
  exact ⟨rfl, Blk.new _ _ _, by simp, (Fr.refl No w).alloc _⟩
theorem rNew_bad (size ag : Int) (h : size < 0 ∨ 1024 < size ∨ ag < 1 ∨ 68719476736 < ag) (w : World) : Calls Try.prog 34 #[.int .i64 size, .int .i64 ag] w fun e w' => e = .returned (.tuple #[.pointer none, .int .i64 2]) ∧ w = w' := by
  by_cases h1 : size < 0
  · have b1 : decide (size < 0) = true := by simp; omega
    clear h h1
    go_enter Try.func34, Try.ntmps34
    go_wp2
    go_ret2
    exact ⟨rfl, rfl⟩
  have b1 : decide (size < 0) = false := by simp; omega
  by_cases h2 : 1024 < size
  · have b2 : decide (1024 < size) = true := by simp; omega
    clear h h1 h2
    go_enter Try.func34, Try.ntmps34
    go_wp2
    go_ret2
    exact ⟨rfl, rfl⟩
  have b2 : decide (1024 < size) = false := by simp; omega
  by_cases h3 : ag < 1
  · have b3 : decide (ag < 1) = true := by simp; omega
    clear h h1 h2 h3
    go_enter Try.func34, Try.ntmps34
    go_wp2
    go_ret2
    exact ⟨rfl, rfl⟩
  have b3 : decide (ag < 1) = false := by simp; omega
  have b4 : decide (68719476736 < ag) = true := by simp; omega
  clear h h1 h2 h3
  go_enter Try.func34, Try.ntmps34
  go_wp2
  go_ret2
  exact ⟨rfl, rfl⟩
end Go.Proofs.Ytcjcoigjedcieaa
