/- The contracts of slices.Clone, slices.Grow, slices.Concat at items. -/
import Derived.Test.YtabajcofddhelaaRw
import Derived.Lib.SliceRun
import Derived.Lib.AppendZeros
namespace Go.Proofs.Ytabajcofddhelaa
open Go.RowKit Go.Wk

/-- What Clone leaves: a slice of the call's own with the same items. -/
def Cloned (w : World) (n : Nat) (l : List IV) (x : Ending) (w' : World) : Prop := ∃ A c, x = .returned (.slice A n c) ∧ w'.ownsRow w.heap.size 23 4 (.slice A n c) n (icells l) ∧ n ≤ c ∧ Fr No w w'

theorem clone_any (A : Option Addr) (n c : Nat) (l : List IV) (w : World) (h : Reads w w.heap.size 4 A n (icells l)) (hn : n ≤ 1000000) :
    Calls Try.prog 38 #[.slice A n c] w fun x w' => Cloned w n l x w' := by
  obtain ⟨i0, hi, hz0, hz1, hz2⟩ : ∃ i, Try.prog.info? 23 = some i ∧ i.zero = some (.agg #[.int .i64 0, .int .i64 0, .int .i64 0, .int .i64 0]) ∧ i.size = 4 ∧ i.bytes = 32 := ⟨_, rfl, rfl, rfl, rfl⟩
  rcases A with _ | ad
  · have heq := fun w => Lib.run_eql_slice_nil (P := Try.prog) w 40 23 none n c 0 0 Try.underlying40
    have hn0 : n = 0 := by
      rcases Nat.eq_zero_or_pos n with h0 | h0
      · exact h0
      · obtain ⟨ad, hA, _⟩ := h.2 h0
        cases hA
    subst hn0
    have hx : l = [] := List.eq_nil_of_length_eq_zero (reads_ilen h)
    go_enter Try.func38, Try.ntmps38
    go_wp2
    go_ret
    exact ⟨none, 0, rfl, by rw [hx]; exact own_nil _ _ _ _, Nat.le_refl _, Fr.refl _ _⟩
  · have o1 : (w.alloc (.cells #[] 23)).ownsRow w.heap.size 23 4 (.slice (some ⟨w.heap.size, 0, none⟩) 0 0) 0 [] := ⟨rfl, .inr ⟨w.heap.size, 0, #[], rfl, Nat.le_refl _, Blk.new w 23 #[], Nat.le_refl _, Nat.zero_le _, rfl, rfl⟩⟩
    have O1 := Lib.hid o1
    have R1 := Lib.hid (h.alloc (Nat.le_refl _) (.cells #[] 23))
    have HB1 := Lib.hid (show (0 + n) * 32 ≤ 140737488355328 by omega)
    have HB0 := Lib.hid (show 0 + n ≤ maxLen by unfold maxLen; omega)
    have heq := fun w => Lib.run_eql_slice_nil (P := Try.prog) w 40 23 (some ad) n c 0 0 Try.underlying40
    clear h o1
    go_enter Try.func38, Try.ntmps38
    go_wp2_with (at_builtin; refine wpList_append_any (w.alloc (.cells #[] 23)) rfl (.tmp 5) (.tmp 6) 40 rfl w.heap.size 23 i0 (.agg #[.int .i64 0, .int .i64 0, .int .i64 0, .int .i64 0]) 4 32 Try.underlying40 hi hz0 hz1 hz2 rfl (by omega) (.slice (some ⟨w.heap.size, 0, none⟩) 0 0) 0 [] rfl O1.out w.heap.size (some ad) n c (icells l) rfl R1.out (icells_one _) HB0.out HB1.out (by simp) ?_)
    intro v' w2 hown2 hg2 hloc2
    obtain ⟨A2, q2, rfl⟩ := own_form' hown2
    have F2 : Fr No w w2 := ((Fr.refl No w).alloc (.cells #[] 23)).own (Fr.of_grown (S := (· = w.heap.size)) hg2 (fun k hk => by simpa [Value.ownBlock] using hk.symm)) (Nat.le_refl _)
    have hq := own_cap hown2
    go_wp2
    go_ret
    exact ⟨A2, q2, by simp, by simpa using hown2, hq, F2⟩

/-- slices.Grow of nil. -/
theorem grow_any (n : Nat) (w : World) (hn : n ≤ 1000000) : Calls Try.prog 54 #[.slice none 0 0, .int .i64 n] w fun x w' => ∃ A c, x = .returned (.slice A 0 c) ∧ w'.ownsRow w.heap.size 23 4 (.slice A 0 c) 0 [] ∧ Fr No w w' := by
  rcases Nat.eq_zero_or_pos n with h0 | h0
  · subst h0
    go_enter Try.func54, Try.ntmps54
    go_wp2
    go_ret
    exact ⟨none, 0, rfl, own_nil _ _ _ _, Fr.refl _ _⟩
  · obtain ⟨i0, hi, hz0, hz1, hz2⟩ : ∃ i, Try.prog.info? 23 = some i ∧ i.zero = some (.agg #[.int .i64 0, .int .i64 0, .int .i64 0, .int .i64 0]) ∧ i.size = 4 ∧ i.bytes = 32 := ⟨_, rfl, rfl, rfl, rfl⟩
    have hrun := fun W ty => Lib.run_append_nil_zeros (P := Try.prog) W 40 3 ty 23 i0 _ .i64 .i64 Try.underlying40 Try.underlying3 hi hz0 n h0 (by omega) (by omega) (by rw [hz2]; omega)
    have hn1 : (0 : Int) < (n : Int) := by omega
    go_enter Try.func54, Try.ntmps54
    go_wp2_with (at_builtin; refine Lib.wpList_append_run _ rfl _ _ _ _ rfl _ _ rfl rfl _ _ (hrun _ _) ?_)
    go_ret
    have hc1 := grownCap_ge w n 0 23
    have hc2 := grownCap_le_maxLen w n 0 23 (by unfold maxLen; omega)
    exact ⟨_, _, rfl, ⟨rfl, .inr ⟨_, _, _, rfl, Nat.le_refl _, (Blk.new w 23 _).drew, Nat.zero_le _, hc2, by rw [Array.size_append, size_zeroCells, size_zeroCells]; simp only [List.size_toArray, List.length_cons, List.length_nil]; omega, by simp⟩⟩, ((Fr.refl No w).alloc _).drew⟩

/-- slices.Concat of two lists of items, the slices in a block of the call's own. -/
theorem concat_any (gb : Nat) (A A' : Option Addr) (n c n' c' : Nat) (l l' : List IV) (w : World) (hb : Blk w gb 40 #[.slice A n c, .slice A' n' c']) (h : Reads w w.heap.size 4 A n (icells l)) (h' : Reads w w.heap.size 4 A' n' (icells l')) (hn : n ≤ 10000) (hn' : n' ≤ 10000) :
    Calls Try.prog 49 #[.slice (some ⟨gb, 0, none⟩) 2 2] w fun x w' => Cloned w (n + n') (l ++ l') x w' := by
  obtain ⟨i0, hi, hz0, hz1, hz2⟩ : ∃ i, Try.prog.info? 23 = some i ∧ i.zero = some (.agg #[.int .i64 0, .int .i64 0, .int .i64 0, .int .i64 0]) ∧ i.size = 4 ∧ i.bytes = 32 := ⟨_, rfl, rfl, rfl, rfl⟩
  have HR := Lib.hid h
  have HR' := Lib.hid h'
  have s0 := hb.cell 0
  have s1 := hb.cell 1
  simp only [List.getElem?_toArray, List.getElem?_cons_succ, List.getElem?_cons_zero] at s0 s1
  have HB := Lib.hid hb
  clear h h' hb
  go_enter Try.func49, Try.ntmps49
  go_wp2
  go_loopw [3, 11] (fun sz i wr => w = wr ∧ ((i = .int .i64 0 ∧ sz = .int .i64 0) ∨ (i = .int .i64 1 ∧ sz = .int .i64 n) ∨ (i = .int .i64 2 ∧ sz = .int .i64 ((n + n' : Nat) : Int)))) (fun _ i _ => 2 - (intOf i).toNat)
  case atStart => exact ⟨rfl, .inl ⟨rfl, rfl⟩⟩
  case round =>
    obtain ⟨rfl, ⟨rfl, rfl⟩ | ⟨rfl, rfl⟩ | ⟨rfl, rfl⟩⟩ := hrel
    · go_wp2
      go_roundw
      case rel => exact ⟨(by trivial), .inr (.inl ⟨rfl, by go_num⟩)⟩
      case measure => simp [intOf]
    · go_wp2
      go_roundw
      case rel => exact ⟨(by trivial), .inr (.inr ⟨rfl, by go_num⟩)⟩
      case measure => simp [intOf]
    · go_wp2_with fail
      refine (grow_any (n + n') _ (by omega)).mono ?_
      rintro x w1 ⟨G, gc, rfl, ho, hf⟩
      have HO := Lib.hid ho
      have HF := Lib.hid hf
      have s0' := ((HB.out.fr hf (fun x => x)).cell 0)
      have s1' := ((HB.out.fr hf (fun x => x)).cell 1)
      simp only [List.getElem?_toArray, List.getElem?_cons_succ, List.getElem?_cons_zero] at s0' s1'
      clear ho hf
      go_wp2
      go_loopw [6, 27] (fun v i wr => ∃ (k : Nat) (m : Nat) (ls : List IV), i = .int .i64 k ∧ k ≤ 2 ∧ Hid ((k = 0 ∧ m = 0 ∧ ls = []) ∨ (k = 1 ∧ m = n ∧ ls = l) ∨ (k = 2 ∧ m = n + n' ∧ ls = l ++ l')) ∧ Hid (wr.ownsRow w.heap.size 23 4 v m (icells ls)) ∧ Hid (Fr No w wr)) (fun _ i _ => 2 - (intOf i).toNat)
      case atStart => exact ⟨0, 0, [], rfl, by omega, Lib.hid (.inl ⟨rfl, rfl, rfl⟩), HO, HF⟩
      case round =>
        clear HO HF s0' s1'
        obtain ⟨k, m, ls, rfl, hk, HC, HO, HF⟩ := hrel
        obtain ⟨G2, gc2, rfl⟩ := own_form' HO.out
        have t0 := ((HB.out.fr HF.out (fun x => x)).cell 0)
        have t1 := ((HB.out.fr HF.out (fun x => x)).cell 1)
        simp only [List.getElem?_toArray, List.getElem?_cons_succ, List.getElem?_cons_zero] at t0 t1
        have R1 := Lib.hid (HR.out.fr0 HF.out)
        have R2 := Lib.hid (HR'.out.fr0 HF.out)
        have HSZ := Lib.hid HF.out.size
        rcases HC.out with ⟨rfl, rfl, rfl⟩ | ⟨rfl, rfl, rfl⟩ | ⟨rfl, rfl, rfl⟩
        · go_wp2_with (at_builtin; refine wpList_append_any _ rfl (.tmp 31) (.tmp 32) 40 rfl w.heap.size 23 i0 (.agg #[.int .i64 0, .int .i64 0, .int .i64 0, .int .i64 0]) 4 32 Try.underlying40 hi hz0 hz1 hz2 rfl (by omega) (.slice G2 _ gc2) _ _ rfl HO.out _ A n c (icells l) rfl R1.out (icells_one _) (by unfold maxLen; omega) (by omega) HSZ.out ?_)
          intro v' w2 hown2 hg2 hloc2
          go_wp2
          go_roundw
          case rel => exact ⟨1, n, l, rfl, by omega, Lib.hid (.inr (.inl ⟨rfl, rfl, rfl⟩)), Lib.hid (by simpa [icells] using hown2), Lib.hid (HF.out.ownS (Fr.of_grown (S := fun b => w.heap.size ≤ b) hg2 (fun k hk => (HO.out.lt k hk).1)) (fun _ x => x))⟩
          case measure => simp [intOf]
        · go_wp2_with (at_builtin; refine wpList_append_any _ rfl (.tmp 31) (.tmp 32) 40 rfl w.heap.size 23 i0 (.agg #[.int .i64 0, .int .i64 0, .int .i64 0, .int .i64 0]) 4 32 Try.underlying40 hi hz0 hz1 hz2 rfl (by omega) (.slice G2 _ gc2) _ _ rfl HO.out _ A' n' c' (icells l') rfl R2.out (icells_one _) (by unfold maxLen; omega) (by omega) HSZ.out ?_)
          intro v' w2 hown2 hg2 hloc2
          go_wp2
          go_roundw
          case rel => exact ⟨2, m + n', ls ++ l', rfl, by omega, Lib.hid (.inr (.inr ⟨rfl, rfl, rfl⟩)), Lib.hid (by rw [icells_app]; exact hown2), Lib.hid (HF.out.ownS (Fr.of_grown (S := fun b => w.heap.size ≤ b) hg2 (fun k hk => (HO.out.lt k hk).1)) (fun _ x => x))⟩
          case measure => simp [intOf]
        · go_wp2
          go_ret
          exact ⟨G2, gc2, rfl, HO.out, own_cap HO.out, HF.out⟩
end Go.Proofs.Ytabajcofddhelaa
