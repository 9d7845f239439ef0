/- Tables and nil in one form: the program's, and the document's. -/
import Derived.Test.YtopcjakgfaobcaaRC
import Derived.Test.YtopcjakgfaobcaaRD
import Derived.Test.YtopcjakgfaobcaaNil
namespace Go.Proofs.Ytopcjakgfaobcaa
open Go.RowKit Go.Wk

theorem rvalid_nil (w : World) : Calls Try.prog 41 #[.pointer none] w fun e w' => e = .returned (.bool false) ∧ w = w' := by
  go_enter Try.func41, Try.ntmps41
  go_wp2
  go_ret
  exact ⟨rfl, rfl⟩
theorem rlen_nil (w : World) : Calls Try.prog 30 #[.pointer none] w fun e w' => e = .returned (.int .i64 0) ∧ w = w' := by
  have HV := Lib.hid (rvalid_nil w)
  go_enter Try.func30, Try.ntmps30
  go_wp2_with (go_at_call 41; refine HV.out.mono ?_; rintro e w1 ⟨rfl, rfl⟩)
  go_ret
  exact ⟨rfl, rfl⟩
theorem rlast_nil (w : World) : Calls Try.prog 31 #[.pointer none] w fun e w' => e = .returned (.int .i64 0) ∧ w = w' := by
  have HV := Lib.hid (rvalid_nil w)
  go_enter Try.func31, Try.ntmps31
  go_wp2_with (go_at_call 41; refine HV.out.mono ?_; rintro e w1 ⟨rfl, rfl⟩)
  go_ret
  exact ⟨rfl, rfl⟩
theorem rcopy_nil (w : World) : Calls Try.prog 28 #[.pointer none] w fun e w' => e = .returned (.pointer none) ∧ w = w' := by
  have HV := Lib.hid (rvalid_nil w)
  go_enter Try.func28, Try.ntmps28
  go_wp2_with (go_at_call 41; refine HV.out.mono ?_; rintro e w1 ⟨rfl, rfl⟩)
  go_ret
  exact ⟨rfl, rfl⟩
theorem rlive_nil (w : World) : Calls Try.prog 33 #[.pointer none] w fun e w' => e = .returned (.slice none 0 0) ∧ w = w' := by
  have HV := Lib.hid (rvalid_nil w)
  go_enter Try.func33, Try.ntmps33
  go_wp2_with (go_at_call 41; refine HV.out.mono ?_; rintro e w1 ⟨rfl, rfl⟩)
  go_ret
  exact ⟨rfl, rfl⟩
theorem rcount_nil (job : Int) (w : World) : Calls Try.prog 32 #[.pointer none, .int .i64 job] w fun e w' => e = .returned (.int .i64 0) ∧ w = w' := by
  have HV := Lib.hid (rvalid_nil w)
  go_enter Try.func32, Try.ntmps32
  go_wp2
  refine wp_loop_rounds 1 ?_
  rw [rounds_succ]
  go_wp2_with (go_at_call 41; refine HV.out.mono ?_; rintro e w1 ⟨rfl, rfl⟩)
  go_ret
  exact ⟨rfl, rfl⟩
theorem rat_nil (r : Int) (w : World) : Calls Try.prog 42 #[.pointer none, .int .i64 r] w fun e w' => e = .returned (.int .i64 (-1)) ∧ w = w' := by
  have HV := Lib.hid (rvalid_nil w)
  go_enter Try.func42, Try.ntmps42
  go_wp2
  refine wp_loop_rounds 1 ?_
  rw [rounds_succ]
  go_wp2_with (go_at_call 41; refine HV.out.mono ?_; rintro e w1 ⟨rfl, rfl⟩)
  go_ret
  exact ⟨rfl, rfl⟩
theorem roldest_nilp (now : Int) (w : World) : Calls Try.prog 29 #[.pointer none, .int .i64 now] w fun e w' => e = .returned (.tuple #[.int .i64 0, .int .i64 0, .bool false]) ∧ w = w' := by
  have HV := Lib.hid (rvalid_nil w)
  go_enter Try.func29, Try.ntmps29
  go_wp2_with (go_at_call 41; refine HV.out.mono ?_; rintro e w1 ⟨rfl, rfl⟩)
  go_ret3
  exact ⟨rfl, rfl⟩
theorem rstart_nil (w : World) (job due att now : Int) : Calls Try.prog 26 #[.pointer none, .int .i64 job, .int .i64 due, .int .i64 att, .int .i64 now] w fun e w' => e = .returned (.tuple #[.int .i64 0, .int .i64 1]) ∧ w = w' := by
  have HV := Lib.hid (rvalid_nil w)
  go_enter Try.func26, Try.ntmps26
  go_wp2_with (go_at_call 41; refine HV.out.mono ?_; rintro e w1 ⟨rfl, rfl⟩)
  go_ret2
  exact ⟨rfl, rfl⟩
theorem rfinish_nil (w : World) (r : Int) : Calls Try.prog 27 #[.pointer none, .int .i64 r] w fun x w' => x = .returned (.tuple #[RV.zero.agg, .int .i64 1]) ∧ Fr No w w' := by
  have F1 := (Fr.refl No w).alloc (.cells #[.int .i64 0, .int .i64 0, .int .i64 0, .int .i64 0, .int .i64 0] 31)
  have HV := Lib.hid (rvalid_nil (w.alloc (.cells #[.int .i64 0, .int .i64 0, .int .i64 0, .int .i64 0, .int .i64 0] 31)))
  obtain ⟨d0, d1, d2, d3, d4⟩ := cells5 (Blk.new w 31 #[.int .i64 0, .int .i64 0, .int .i64 0, .int .i64 0, .int .i64 0])
  go_enter Try.func27, Try.ntmps27
  go_wp2_with (go_at_call 41; refine HV.out.mono ?_; rintro e w1 ⟨rfl, rfl⟩)
  exact bodyPost_ret (v := .tuple #[RV.zero.agg, .int .i64 1]) (by rw [results_cell_tmp rfl]; unfold RV.agg RV.zero; go_simp) rfl ⟨rfl, F1⟩
theorem rget_nil (w : World) (r : Int) : Calls Try.prog 34 #[.pointer none, .int .i64 r] w fun x w' => x = .returned (.tuple #[RV.zero.agg, .bool false]) ∧ Fr No w w' := by
  have F1 := (Fr.refl No w).alloc (.cells #[.int .i64 0, .int .i64 0, .int .i64 0, .int .i64 0, .int .i64 0] 31)
  have HV := Lib.hid (rat_nil r (w.alloc (.cells #[.int .i64 0, .int .i64 0, .int .i64 0, .int .i64 0, .int .i64 0] 31)))
  obtain ⟨d0, d1, d2, d3, d4⟩ := cells5 (Blk.new w 31 #[.int .i64 0, .int .i64 0, .int .i64 0, .int .i64 0, .int .i64 0])
  go_enter Try.func34, Try.ntmps34
  go_wp2_with (go_at_call 42; refine HV.out.mono ?_; rintro e w1 ⟨rfl, rfl⟩)
  exact bodyPost_ret (v := .tuple #[RV.zero.agg, .bool false]) (by rw [results_cell_tmp rfl]; unfold RV.agg RV.zero; go_simp) rfl ⟨rfl, F1⟩

/-! ### One form -/
def TU (w : World) (p : Option Addr) (D : Nat → Prop) : Option TS → Prop
  | none => p = none ∧ D = No
  | some s => ∃ b, p = some ⟨b, 0, none⟩ ∧ TabAt w b D s
def RU (w : World) (p : Option Addr) (D : Nat → Prop) : Option TS → Prop
  | none => p = none ∧ D = No
  | some s => ∃ b, p = some ⟨b, 0, none⟩ ∧ RTabAt w b D s
def uStartV (o : Option TS) (a b c d : Int) : Int := match o with | none => 0 | some s => s.startV a b c d
def uStartE (o : Option TS) (a b c d : Int) : Int := match o with | none => 1 | some s => s.startE a b c d
def uStart (o : Option TS) (a b c d : Int) : Option TS := o.map (·.startS a b c d)
def uGetV (o : Option TS) (r : Int) : RV := match o with | none => RV.zero | some s => s.getV r
def uHas (o : Option TS) (r : Int) : Bool := match o with | none => false | some s => s.has r
def uFinE (o : Option TS) (r : Int) : Int := match o with | none => 1 | some s => s.finE r
def uFin (o : Option TS) (r : Int) : Option TS := o.map (·.finS r)
def uOldId (o : Option TS) : Int := match o with | none => 0 | some s => s.oldId
def uOldAge (o : Option TS) (now : Int) : Int := match o with | none => 0 | some s => s.oldAge now
def uOldOk (o : Option TS) : Bool := match o with | none => false | some s => decide (s.live ≠ [])
def uLive (o : Option TS) : List RV := match o with | none => [] | some s => s.live
def uLast (o : Option TS) : Int := match o with | none => 0 | some s => s.last
def uCnt (o : Option TS) (job : Int) : Int := match o with | none => 0 | some s => cntJ job s.live
theorem uStart_last (o : Option TS) (a b c d : Int) : uLast (uStart o a b c d) ≤ uLast o + 1 := by
  cases o with
  | none => show (0 : Int) ≤ 0 + 1; omega
  | some s => exact startS_last s a b c d
theorem uFin_last (o : Option TS) (r : Int) : uLast (uFin o r) = uLast o := by
  cases o with
  | none => rfl
  | some s => exact finS_last s r

section
variable {w w' : World} {p : Option Addr} {D S : Nat → Prop} {o : Option TS}
theorem TU.fr (h : TU w p D o) (hf : Fr S w w') (hS : ∀ k, D k → ¬ S k) : TU w' p D o := by
  cases o with
  | none => exact h
  | some s => obtain ⟨b, hp, ht⟩ := h; exact ⟨b, hp, ht.fr hf hS⟩
theorem RU.fr (h : RU w p D o) (hf : Fr S w w') (hS : ∀ k, D k → ¬ S k) : RU w' p D o := by
  cases o with
  | none => exact h
  | some s => obtain ⟨b, hp, ht⟩ := h; exact ⟨b, hp, ht.fr hf hS⟩
theorem TU.lt (h : TU w p D o) {k : Nat} (hk : D k) : k < w.heap.size := by
  cases o with
  | none => obtain ⟨_, hD⟩ := h; rw [hD] at hk; exact hk.elim
  | some s => obtain ⟨b, hp, ht⟩ := h; exact ht.lt hk
theorem RU.lt (h : RU w p D o) {k : Nat} (hk : D k) : k < w.heap.size := by
  cases o with
  | none => obtain ⟨_, hD⟩ := h; rw [hD] at hk; exact hk.elim
  | some s => obtain ⟨b, hp, ht⟩ := h; exact ht.lt hk
theorem TU.len (h : TU w p D o) : (uLive o).length ≤ 1000 := by
  cases o with
  | none => exact Nat.zero_le _
  | some s =>
    obtain ⟨b, hp, ht⟩ := h
    have h1 := ht.ok.len
    have h2 := ht.ok.s1
    show s.live.length ≤ 1000
    omega
end

theorem start_u (p : Option Addr) (D : Nat → Prop) (o : Option TS) (w : World) (job due att now : Int) (h : TU w p D o) (hl : uLast o < 1000000) :
    Calls Try.prog 13 #[.pointer p, .int .i64 job, .int .i64 due, .int .i64 att, .int .i64 now] w fun e w' => e = .returned (.tuple #[.int .i64 (uStartV o job due att now), .int .i64 (uStartE o job due att now)]) ∧
      ∃ D', TU w' p D' (uStart o job due att now) ∧ Fr D w w' ∧ ∀ k, D' k → D k ∨ w.heap.size ≤ k := by
  cases o with
  | none =>
    obtain ⟨rfl, hD⟩ := h
    exact (start_bad none w job due att now (.inl rfl)).mono fun e w' ⟨he, hw⟩ => ⟨he, D, ⟨rfl, hD⟩, hw ▸ Fr.refl _ _, fun k hk => .inl hk⟩
  | some s =>
    obtain ⟨b, rfl, ht⟩ := h
    exact (start_any b D s w job due att now ht hl).mono fun e w' ⟨he, D', h1, h2, h3⟩ => ⟨he, D', ⟨b, rfl, h1⟩, h2, h3⟩
theorem rstart_u (p : Option Addr) (D : Nat → Prop) (o : Option TS) (w : World) (job due att now : Int) (h : RU w p D o) (hl : uLast o < 1000000) :
    Calls Try.prog 26 #[.pointer p, .int .i64 job, .int .i64 due, .int .i64 att, .int .i64 now] w fun e w' => e = .returned (.tuple #[.int .i64 (uStartV o job due att now), .int .i64 (uStartE o job due att now)]) ∧
      ∃ D', RU w' p D' (uStart o job due att now) ∧ Fr D w w' ∧ ∀ k, D' k → D k ∨ w.heap.size ≤ k := by
  cases o with
  | none =>
    obtain ⟨rfl, hD⟩ := h
    exact (rstart_nil w job due att now).mono fun e w' ⟨he, hw⟩ => ⟨he, D, ⟨rfl, hD⟩, hw ▸ Fr.refl _ _, fun k hk => .inl hk⟩
  | some s =>
    obtain ⟨b, rfl, ht⟩ := h
    exact (rstart_any b D s w job due att now ht hl).mono fun e w' ⟨he, D', h1, h2, h3⟩ => ⟨he, D', ⟨b, rfl, h1⟩, h2, h3⟩
theorem finish_u (p : Option Addr) (D : Nat → Prop) (o : Option TS) (w : World) (r : Int) (h : TU w p D o) :
    Calls Try.prog 15 #[.pointer p, .int .i64 r] w fun e w' => e = .returned (.tuple #[(uGetV o r).agg, .int .i64 (uFinE o r)]) ∧
      ∃ D', TU w' p D' (uFin o r) ∧ Fr D w w' ∧ ∀ k, D' k → D k ∨ w.heap.size ≤ k := by
  cases o with
  | none =>
    obtain ⟨rfl, hD⟩ := h
    exact (finish_bad none w r (.inl rfl)).mono fun e w' ⟨he, hf⟩ => ⟨he, D, ⟨rfl, hD⟩, hf.mono (fun _ x => x.elim), fun k hk => .inl hk⟩
  | some s =>
    obtain ⟨b, rfl, ht⟩ := h
    exact (finish_any b D s w r ht).mono fun e w' ⟨he, h1, h2⟩ => ⟨he, D, ⟨b, rfl, h1⟩, h2, fun k hk => .inl hk⟩
theorem rfinish_u (p : Option Addr) (D : Nat → Prop) (o : Option TS) (w : World) (r : Int) (h : RU w p D o) :
    Calls Try.prog 27 #[.pointer p, .int .i64 r] w fun e w' => e = .returned (.tuple #[(uGetV o r).agg, .int .i64 (uFinE o r)]) ∧
      ∃ D', RU w' p D' (uFin o r) ∧ Fr D w w' ∧ ∀ k, D' k → D k ∨ w.heap.size ≤ k := by
  cases o with
  | none =>
    obtain ⟨rfl, hD⟩ := h
    exact (rfinish_nil w r).mono fun e w' ⟨he, hf⟩ => ⟨he, D, ⟨rfl, hD⟩, hf.mono (fun _ x => x.elim), fun k hk => .inl hk⟩
  | some s =>
    obtain ⟨b, rfl, ht⟩ := h
    exact (rfinish_any b D s w r ht).mono fun e w' ⟨he, D', h1, h2, h3⟩ => ⟨he, D', ⟨b, rfl, h1⟩, h2, h3⟩
def CopyU (w : World) (o : Option TS) (e : Ending) (w' : World) : Prop := ∃ p D', e = .returned (.pointer p) ∧ TU w' p D' o ∧ Fr No w w' ∧ ∀ k, D' k → w.heap.size ≤ k
def RCopyU (w : World) (o : Option TS) (e : Ending) (w' : World) : Prop := ∃ p D', e = .returned (.pointer p) ∧ RU w' p D' o ∧ Fr No w w' ∧ ∀ k, D' k → w.heap.size ≤ k
theorem copy_u (p : Option Addr) (D : Nat → Prop) (o : Option TS) (w : World) (h : TU w p D o) : Calls Try.prog 24 #[.pointer p] w fun e w' => CopyU w o e w' := by
  cases o with
  | none =>
    obtain ⟨rfl, hD⟩ := h
    exact (copy_bad none w (.inl rfl)).mono fun e w' ⟨he, hw⟩ => ⟨none, No, he, ⟨rfl, rfl⟩, hw ▸ Fr.refl _ _, fun k hk => hk.elim⟩
  | some s =>
    obtain ⟨b, rfl, ht⟩ := h
    exact (copy_any b D s w ht).mono fun e w' ⟨b', D', he, h1, h2, h3⟩ => ⟨_, D', he, ⟨b', rfl, h1⟩, h2, h3⟩
theorem rcopy_u (p : Option Addr) (D : Nat → Prop) (o : Option TS) (w : World) (h : RU w p D o) : Calls Try.prog 28 #[.pointer p] w fun e w' => RCopyU w o e w' := by
  cases o with
  | none =>
    obtain ⟨rfl, hD⟩ := h
    exact (rcopy_nil w).mono fun e w' ⟨he, hw⟩ => ⟨none, No, he, ⟨rfl, rfl⟩, hw ▸ Fr.refl _ _, fun k hk => hk.elim⟩
  | some s =>
    obtain ⟨b, rfl, ht⟩ := h
    exact (rcopy_any b D s w ht).mono fun e w' ⟨b', D', he, h1, h2, h3⟩ => ⟨_, D', he, ⟨b', rfl, h1⟩, h2, h3⟩
theorem oldest_u (p : Option Addr) (D : Nat → Prop) (o : Option TS) (now : Int) (w : World) (h : TU w p D o) (hn : now ≤ 9223372036854775807) :
    Calls Try.prog 23 #[.pointer p, .int .i64 now] w fun e w' => e = .returned (.tuple #[.int .i64 (uOldId o), .int .i64 (uOldAge o now), .bool (uOldOk o)]) ∧ Fr No w w' := by
  cases o with
  | none =>
    obtain ⟨rfl, hD⟩ := h
    exact (oldest_bad none w now (.inl rfl)).mono fun e w' ⟨he, hw⟩ => ⟨he, hw ▸ Fr.refl _ _⟩
  | some s =>
    obtain ⟨b, rfl, ht⟩ := h
    exact oldest_any b D s now w ht hn
theorem roldest_u (p : Option Addr) (D : Nat → Prop) (o : Option TS) (now : Int) (w : World) (h : RU w p D o) (hn : now ≤ 9223372036854775807) :
    Calls Try.prog 29 #[.pointer p, .int .i64 now] w fun e w' => e = .returned (.tuple #[.int .i64 (uOldId o), .int .i64 (uOldAge o now), .bool (uOldOk o)]) ∧ Fr No w w' := by
  cases o with
  | none =>
    obtain ⟨rfl, hD⟩ := h
    exact (roldest_nilp now w).mono fun e w' ⟨he, hw⟩ => ⟨he, hw ▸ Fr.refl _ _⟩
  | some s =>
    obtain ⟨b, rfl, ht⟩ := h
    exact roldest_any b D s now w ht hn
theorem get_u (p : Option Addr) (D : Nat → Prop) (o : Option TS) (r : Int) (w : World) (h : TU w p D o) :
    Calls Try.prog 22 #[.pointer p, .int .i64 r] w fun e w' => e = .returned (.tuple #[(uGetV o r).agg, .bool (uHas o r)]) ∧ Fr No w w' := by
  cases o with
  | none =>
    obtain ⟨rfl, hD⟩ := h
    exact get_bad none w r (.inl rfl)
  | some s =>
    obtain ⟨b, rfl, ht⟩ := h
    exact get_any b D s w r ht
theorem rget_u (p : Option Addr) (D : Nat → Prop) (o : Option TS) (r : Int) (w : World) (h : RU w p D o) :
    Calls Try.prog 34 #[.pointer p, .int .i64 r] w fun e w' => e = .returned (.tuple #[(uGetV o r).agg, .bool (uHas o r)]) ∧ Fr No w w' := by
  cases o with
  | none =>
    obtain ⟨rfl, hD⟩ := h
    exact rget_nil w r
  | some s =>
    obtain ⟨b, rfl, ht⟩ := h
    exact rget_any b D s w r ht
theorem len_u (p : Option Addr) (D : Nat → Prop) (o : Option TS) (w : World) (h : TU w p D o) : Calls Try.prog 14 #[.pointer p] w fun e w' => e = .returned (.int .i64 ((uLive o).length : Int)) ∧ w = w' := by
  cases o with
  | none => obtain ⟨rfl, hD⟩ := h; exact len_bad none w (.inl rfl)
  | some s => obtain ⟨b, rfl, ht⟩ := h; exact len_any b D s w ht
theorem rlen_u (p : Option Addr) (D : Nat → Prop) (o : Option TS) (w : World) (h : RU w p D o) : Calls Try.prog 30 #[.pointer p] w fun e w' => e = .returned (.int .i64 ((uLive o).length : Int)) ∧ w = w' := by
  cases o with
  | none => obtain ⟨rfl, hD⟩ := h; exact rlen_nil w
  | some s => obtain ⟨b, rfl, ht⟩ := h; exact rlen_any b D s w ht
theorem last_u (p : Option Addr) (D : Nat → Prop) (o : Option TS) (w : World) (h : TU w p D o) : Calls Try.prog 21 #[.pointer p] w fun e w' => e = .returned (.int .i64 (uLast o)) ∧ w = w' := by
  cases o with
  | none => obtain ⟨rfl, hD⟩ := h; exact last_bad none w (.inl rfl)
  | some s => obtain ⟨b, rfl, ht⟩ := h; exact last_any b D s w ht
theorem rlast_u (p : Option Addr) (D : Nat → Prop) (o : Option TS) (w : World) (h : RU w p D o) : Calls Try.prog 31 #[.pointer p] w fun e w' => e = .returned (.int .i64 (uLast o)) ∧ w = w' := by
  cases o with
  | none => obtain ⟨rfl, hD⟩ := h; exact rlast_nil w
  | some s => obtain ⟨b, rfl, ht⟩ := h; exact rlast_any b D s w ht
theorem count_u (p : Option Addr) (D : Nat → Prop) (o : Option TS) (job : Int) (w : World) (h : TU w p D o) : Calls Try.prog 18 #[.pointer p, .int .i64 job] w fun e w' => e = .returned (.int .i64 (uCnt o job)) ∧ Fr No w w' := by
  cases o with
  | none => obtain ⟨rfl, hD⟩ := h; exact count_bad none job w (.inl rfl)
  | some s => obtain ⟨b, rfl, ht⟩ := h; exact count_any b D s job w ht
theorem rcount_u (p : Option Addr) (D : Nat → Prop) (o : Option TS) (job : Int) (w : World) (h : RU w p D o) : Calls Try.prog 32 #[.pointer p, .int .i64 job] w fun e w' => e = .returned (.int .i64 (uCnt o job)) ∧ w = w' := by
  cases o with
  | none => obtain ⟨rfl, hD⟩ := h; exact rcount_nil job w
  | some s => obtain ⟨b, rfl, ht⟩ := h; exact rcount_any b D s job w ht
def LiveU (w : World) (o : Option TS) (e : Ending) (w' : World) : Prop := ∃ A c, e = .returned (.slice A (uLive o).length c) ∧ Reads w' w'.heap.size 5 A (uLive o).length (rcells (uLive o)) ∧ Fr No w w'
theorem live_u (p : Option Addr) (D : Nat → Prop) (o : Option TS) (w : World) (h : TU w p D o) : Calls Try.prog 17 #[.pointer p] w fun e w' => LiveU w o e w' := by
  cases o with
  | none =>
    obtain ⟨rfl, hD⟩ := h
    exact (live_bad none w (.inl rfl)).mono fun e w' ⟨⟨A, c, he⟩, hf⟩ => ⟨A, c, he, ⟨rfl, fun h => absurd h (Nat.lt_irrefl _)⟩, hf⟩
  | some s =>
    obtain ⟨b, rfl, ht⟩ := h
    exact (live_any b D s w ht).mono fun e w' ⟨A, c, he, ho, hf⟩ => ⟨A, c, he, Reads.of_own ho, hf⟩
theorem rlive_u (p : Option Addr) (D : Nat → Prop) (o : Option TS) (w : World) (h : RU w p D o) : Calls Try.prog 33 #[.pointer p] w fun e w' => LiveU w o e w' := by
  cases o with
  | none =>
    obtain ⟨rfl, hD⟩ := h
    exact (rlive_nil w).mono fun e w' ⟨he, hw⟩ => ⟨none, 0, he, ⟨rfl, fun h => absurd h (Nat.lt_irrefl _)⟩, hw ▸ Fr.refl _ _⟩
  | some s =>
    obtain ⟨b, rfl, ht⟩ := h
    exact (rlive_any b D s w ht).mono fun e w' ⟨A, c, he, ho, hf⟩ => ⟨A, c, he, Reads.of_own ho, hf⟩

/-- The two tables side by side. -/
structure Duo (w wr : World) (p : Option Addr) (D : Nat → Prop) (o : Option TS) (p' : Option Addr) (D' : Nat → Prop) (o' : Option TS) : Prop where
  t : TU wr p D o
  r : RU wr p' D' o'
  ap : ∀ k, D k → ¬ D' k
  ht : ∀ k, D k → w.heap.size ≤ k
  hr : ∀ k, D' k → w.heap.size ≤ k
  fr : Fr No w wr
section
variable {w w1 w2 : World} {p p1 p' : Option Addr} {D D1 D' : Nat → Prop} {o o1 o' : Option TS}
theorem Duo.fr0 (h : Duo w w1 p D o p' D' o') (hf : Fr No w1 w2) : Duo w w2 p D o p' D' o' := ⟨h.t.fr hf (fun _ _ x => x), h.r.fr hf (fun _ _ x => x), h.ap, h.ht, h.hr, h.fr.then0 hf⟩
theorem Duo.nt (h : Duo w w1 p D o p' D' o') (ht : TU w2 p1 D1 o1) (hf : Fr D w1 w2) (hd : ∀ k, D1 k → D k ∨ w1.heap.size ≤ k) : Duo w w2 p1 D1 o1 p' D' o' :=
  ⟨ht, h.r.fr hf (fun k a b => h.ap k b a), fun k a b => (hd k a).elim (fun x => h.ap k x b) (fun x => by have := h.r.lt b; omega), fun k a => (hd k a).elim (h.ht k) (fun x => Nat.le_trans h.fr.size x), h.hr, h.fr.ownS hf h.ht⟩
theorem Duo.nr (h : Duo w w1 p D o p' D' o') (ht : RU w2 p1 D1 o1) (hf : Fr D' w1 w2) (hd : ∀ k, D1 k → D' k ∨ w1.heap.size ≤ k) : Duo w w2 p D o p1 D1 o1 :=
  ⟨h.t.fr hf h.ap, ht, fun k a b => (hd k b).elim (h.ap k a) (fun x => by have := h.t.lt a; omega), h.ht, fun k a => (hd k a).elim (h.hr k) (fun x => Nat.le_trans h.fr.size x), h.fr.ownS hf h.hr⟩
end
end Go.Proofs.Ytopcjakgfaobcaa
