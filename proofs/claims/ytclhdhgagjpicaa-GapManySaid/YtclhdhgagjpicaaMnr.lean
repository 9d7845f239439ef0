/- GapMany: the walk. -/
import Derived.Test.YtclhdhgagjpicaaMnp
namespace Go.Proofs.Ytclhdhgagjpicaa
open Go.RowKit Go.Wk

theorem reads_lit (w : World) (l : List Int) (cs : Array Value) (n : Nat) (hcs : cs = (l.map (Value.int .i64)).toArray) (hn : n = l.length) (h0 : 0 < n) : Reads (w.alloc (.cells cs 2)) (w.alloc (.cells cs 2)).heap.size 1 (some ⟨w.heap.size, 0, none⟩) n (l.map (Value.int .i64)) := by
  subst hcs
  subst hn
  exact reads_new w 2 l h0

set_option maxRecDepth 100000 in
set_option maxHeartbeats 16000000 in
theorem gapMany_walk (a : Int) (w : World) (ha0 : 0 ≤ a) (ha1 : a ≤ 255) :
    Calls Try.prog 5 #[.int .u8 a] w fun e w' => e = .returned (.bool true) ∧ Fr No w w' := by
  obtain ⟨i0, hi, hz0, hz1, hz2⟩ : ∃ i, Try.prog.info? 2 = some i ∧ i.zero = some (.int .i64 0) ∧ i.size = 1 ∧ i.bytes = 8 := ⟨_, rfl, rfl, rfl, rfl⟩
  obtain ⟨r, hr⟩ : ∃ r, r = a % 4 := ⟨_, rfl⟩
  have hr0 : 0 ≤ r := by omega
  have hr1 : r ≤ 3 := by omega
  obtain ⟨m, hm⟩ : ∃ m : Nat, 100000 + (r - 2) = (m : Int) := ⟨(100000 + (r - 2)).toNat, by omega⟩
  have hm1 : 99998 ≤ m := by omega
  have hm2 : m ≤ 100001 := by omega
  have HM := Lib.hid hm
  have hra : a % 4 = r := hr.symm
  clear hr hm
  have HTG := Lib.hid (fun k (hk : k < m) => three_get hk)
  have HTL := Lib.hid (three_len m)
  have HPS := Lib.hid (fun k (hk : k < m) => part_set (three m) (k := k) (by rw [three_len]; exact hk))
  go_enter Try.func5, Try.ntmps5
  go_wp2_with (at_make; go_must (refine wpList_make_full _ rfl _ _ 25 rfl w.heap.size 2 i0 (.int .i64 0) 1 Try.underlying25 hi hz0 hz1 .i64 .i64 _ _ m rfl rfl HM.out HM.out (by rw [hz2]; omega) (by unfold maxLen; omega) (Nat.le_refl _) ?_); intro w2 hown2 hg2)
  rw [madeCells_int] at hown2
  have hblk := Blk.of_full hown2
  have hF2 : Fr No w w2 := Fr.of_grown hg2 (fun k hk => by cases hk)
  rw [show List.replicate m 0 = part (three m) 0 by simp [part, three_len]] at hblk
  clear hown2 hg2
  have HXW := Lib.hid (Nat.le_refl w.heap.size)
  generalize hX : w.heap.size = X at *
  have HX := Lib.hid hX
  clear hX
  have HB2 := Lib.hid hblk
  have HF2 := Lib.hid hF2
  clear hblk hF2
  go_loopw [37] (fun i wr => ∃ k : Nat, i = .int .i64 k ∧ k ≤ m ∧ Blk wr X 2 (cells .i64 (part (three m) k)).toArray ∧ Fr No w wr) (fun i _ => m - (intOf i).toNat)
  case atStart => exact ⟨0, rfl, Nat.zero_le _, HB2.out, HF2.out⟩
  case round =>
    clear HB2 HF2
    obtain ⟨k, rfl, hk, hb, hf⟩ := hrel
    by_cases hlt : k < m
    · have dx := hb.num (j := k) (by rw [part_len _ _ (by rw [HTL.out]; omega), HTL.out]; exact hlt)
      have dz := hb.frozen k
      have HS := Lib.hid (HPS.out k hlt)
      rw [HTG.out k hlt] at HS
      have HBB := Lib.hid hb
      have HFF := Lib.hid hf
      clear hb hf
      generalize (part (three m) k).getD k 0 = z at *
      have hlt2 : (k : Int) < (m : Int) := by omega
      go_wp2
      go_roundw
      case rel =>
        refine ⟨k + 1, by go_num, by omega, ?_, HFF.out.setCell (.inl (by rw [HX.out]; exact Nat.le_refl _)) _⟩
        rw [← HS.out]
        exact HBB.out.num_set k _
      case measure => simp [intOf]; omega
    · have HB := Lib.hid (show Blk wr X 2 (cells .i64 (three m)).toArray from by
        rw [show k = (three m).length by rw [HTL.out]; omega, part_all] at hb
        exact hb)
      have HF := Lib.hid hf
      clear hb hf hk
      have HL := Lib.hid (show Reads wr wr.heap.size 1 (some ⟨X, 0, none⟩) m ((three m).map (Value.int .i64)) from by
        have := HB.out.reads (n := m) (by rw [cells_length, HTL.out]; exact Nat.le_refl _)
        rwa [List.take_of_length_le (by rw [cells_length, HTL.out]; exact Nat.le_refl _)] at this)
      have hml : ¬ (k : Int) < (m : Int) := by omega
      clear hlt
      go_wp2_with fail
      refine (most_any _ m m _ (three m) 7 _ HL.out (Nat.le_refl _)).mono ?_
      rintro e w3 ⟨rfl, hf⟩
      replace HL := Lib.hid (HL.out.fr0 hf)
      replace HB := Lib.hid (HB.out.fr hf (fun x => x))
      replace HF := Lib.hid (HF.out.then0 hf)
      clear hf
      go_wp2_with fail
      refine (cover_any _ m m _ (three m) 3 _ HL.out (Nat.le_refl _)).mono ?_
      rintro e w4 ⟨rfl, hf⟩
      replace HL := Lib.hid (HL.out.fr0 hf)
      replace HB := Lib.hid (HB.out.fr hf (fun x => x))
      replace HF := Lib.hid (HF.out.then0 hf)
      clear hf
      by_cases hbig : 100000 < m
      · have hr3 : r = 3 := by have := HM.out; omega
        have HL5 := Lib.hid (show 100000 < (three m).length by rw [HTL.out]; exact hbig)
        obtain ⟨e1, e2, _⟩ := many_most 7 HL5.out
        obtain ⟨_, _, e3⟩ := many_most 3 HL5.out
        rw [e1, e2, e3, many_wnd 7 HL5.out, many_wnd 3 HL5.out]
        clear e1 e2 e3
        have hr5 : (0 : Int) < r - 2 := by omega
        have hr6 : 2 < r := by omega
        have hm0 : (0 : Int) < (m : Int) := by omega
        have dx := HB.out.num (j := 0) (by rw [HTL.out]; omega)
        have dz := HB.out.frozen 0
        generalize (three m).getD 0 0 = z at *
        clear hr3
        go_wp2_with fail
        have HB6 := Lib.hid (HB.out.num_set 0 (-1))
        have HF6 := Lib.hid (HF.out.setCell (p := ⟨X, 0, none⟩) (.inl (by rw [HX.out]; exact Nat.le_refl _)) (.int .i64 (-1)))
        have HL6 := Lib.hid (show 100000 < ((three m).set 0 (-1)).length by rw [List.length_set, HTL.out]; exact hbig)
        have HTL6 := Lib.hid (show ((three m).set 0 (-1)).length = m by rw [List.length_set, HTL.out])
        generalize (three m).set 0 (-1) = L at *
        obtain ⟨w6, hw6⟩ : ∃ w6, w6 = w4.setCell ⟨X, 0, none⟩ (.int .i64 (-1)) := ⟨_, rfl⟩
        rw [← hw6] at HB6 HF6 ⊢
        clear hw6 HB HF HL
        have HL := Lib.hid (show Reads w6 w6.heap.size 1 (some ⟨X, 0, none⟩) m (L.map (Value.int .i64)) from by
          have := HB6.out.reads (n := m) (by rw [cells_length, HTL6.out]; exact Nat.le_refl _)
          rwa [List.take_of_length_le (by rw [cells_length, HTL6.out]; exact Nat.le_refl _)] at this)
        have HF := Lib.hid HF6.out
        clear HF6 HB6
        refine (near_any _ m m _ L (-1) _ HL.out (Nat.le_refl _) (by omega) (by omega)).mono ?_
        rintro e w7 ⟨i, rfl, hi0', _, hf⟩
        rw [many_near (-1) HL6.out]
        replace HL := Lib.hid (HL.out.fr0 hf)
        replace HF := Lib.hid (HF.out.then0 hf)
        clear hf hi0'
        have HN := Lib.hid (reads_lit w7 [-1] #[.int .i64 (-1)] 1 rfl rfl (by omega))
        have F7 := (Fr.refl No w7).alloc (.cells #[.int .i64 (-1)] 2)
        replace HL := Lib.hid (HL.out.fr0 F7)
        replace HF := Lib.hid (HF.out.then0 F7)
        clear F7
        go_wp2_with fail
        refine (merge_any _ _ 1 1 m m [-1] L _ HN.out HL.out (by omega) (by omega)).mono ?_
        rintro e w8 ⟨Am, cm, rfl, ho, hf⟩
        rw [many_chk2 HL6.out]
        replace HF := Lib.hid (HF.out.then0 hf)
        clear hf ho HN
        go_wp2_with fail
        refine (works_any _).mono ?_
        rintro e wz ⟨rfl, hf⟩
        go_wp2
        go_ret
        exact ⟨rfl, HF.out.then0 hf⟩
      · have hr5 : ¬ (0 : Int) < r - 2 := by have := HM.out; omega
        have hr6 : ¬ 2 < r := by have := HM.out; omega
        obtain ⟨e1, e2⟩ := three_most (n := m) (by omega) (by omega)
        have e3 := three_cov (n := m) (by omega)
        have hg := three_good (n := m) (by omega)
        rw [e1, e2, e3, wnd_good hg (by omega) (by omega), wnd_good hg (by omega) (by omega)]
        have q1 : ((m : Int) != (m : Int)) = false := by simp
        clear e1 e2 e3 hg
        have F7 := (Fr.refl No w4).alloc (.cells #[.int .i64 5, .int .i64 5] 2)
        have HN := Lib.hid (reads_lit w4 [5, 5] #[.int .i64 5, .int .i64 5] 2 rfl rfl (by omega))
        replace HF := Lib.hid (HF.out.then0 F7)
        clear F7
        go_wp2_with fail
        refine (most_any _ 2 2 _ [5, 5] 0 _ HN.out (Nat.le_refl _)).mono ?_
        rintro e w41 ⟨rfl, hf⟩
        replace HF := Lib.hid (HF.out.then0 hf)
        clear hf
        rw [k_55]
        clear HN
        have F7 := (Fr.refl No w41).alloc (.cells #[.int .i64 5, .int .i64 5, .int .i64 253402300800] 2)
        have HN := Lib.hid (reads_lit w41 [5, 5, 253402300800] #[.int .i64 5, .int .i64 5, .int .i64 253402300800] 3 rfl rfl (by omega))
        replace HF := Lib.hid (HF.out.then0 F7)
        clear F7
        go_wp2_with fail
        refine (cover_any _ 3 3 _ [5, 5, 253402300800] 0 _ HN.out (Nat.le_refl _)).mono ?_
        rintro e w42 ⟨rfl, hf⟩
        replace HF := Lib.hid (HF.out.then0 hf)
        clear hf
        rw [k_55x]
        clear HN
        have F7 := (Fr.refl No w42).alloc (.cells #[.int .i64 5, .int .i64 6] 2)
        have HN := Lib.hid (reads_lit w42 [5, 6] #[.int .i64 5, .int .i64 6] 2 rfl rfl (by omega))
        replace HF := Lib.hid (HF.out.then0 F7)
        clear F7
        go_wp2_with fail
        refine (cover_any _ 2 2 _ [5, 6] 68719476737 _ HN.out (Nat.le_refl _)).mono ?_
        rintro e w43 ⟨rfl, hf⟩
        replace HF := Lib.hid (HF.out.then0 hf)
        clear hf
        rw [k_56]
        clear HN
        have F7 := (Fr.refl No w43).alloc (.cells #[.int .i64 6, .int .i64 5] 2)
        have HN := Lib.hid (reads_lit w43 [6, 5] #[.int .i64 6, .int .i64 5] 2 rfl rfl (by omega))
        replace HF := Lib.hid (HF.out.then0 F7)
        have HN2 := Lib.hid (reads_lit (w43.alloc (.cells #[.int .i64 6, .int .i64 5] 2)) [-1] #[.int .i64 (-1)] 1 rfl rfl (by omega))
        have F8 := (Fr.refl No (w43.alloc (.cells #[.int .i64 6, .int .i64 5] 2))).alloc (.cells #[.int .i64 (-1)] 2)
        replace HN := Lib.hid (HN.out.fr0 F8)
        replace HF := Lib.hid (HF.out.then0 F8)
        have es : (w43.alloc (.cells #[.int .i64 6, .int .i64 5] 2)).heap.size = w43.heap.size + 1 := World.size_alloc _ _
        rw [es] at HN2
        clear F7 F8 es
        go_wp2_with fail
        refine (merge_any _ _ 2 2 1 1 [6, 5] [-1] _ HN.out HN2.out (by omega) (by omega)).mono ?_
        rintro e w44 ⟨Am, cm, rfl, ho, hf⟩
        replace HF := Lib.hid (HF.out.then0 hf)
        clear hf ho
        rw [k_65]
        clear HN HN2
        have F7 := (Fr.refl No w44).alloc (.cells #[.int .i64 5, .int .i64 5] 2)
        have HN := Lib.hid (reads_lit w44 [5, 5] #[.int .i64 5, .int .i64 5] 2 rfl rfl (by omega))
        replace HF := Lib.hid (HF.out.then0 F7)
        clear F7
        go_wp2_with fail
        refine (near_any _ 2 2 _ [5, 5] (-1) _ HN.out (Nat.le_refl _) (by omega) (by omega)).mono ?_
        rintro e w45 ⟨i, rfl, hi0', _, hf⟩
        replace HF := Lib.hid (HF.out.then0 hf)
        clear hf
        rw [k_n55]
        clear HN hi0'
        have F7 := (Fr.refl No w45).alloc (.cells #[.int .i64 0, .int .i64 253402300799] 2)
        have HN := Lib.hid (reads_lit w45 [0, 253402300799] #[.int .i64 0, .int .i64 253402300799] 2 rfl rfl (by omega))
        replace HF := Lib.hid (HF.out.then0 F7)
        clear F7
        go_wp2_with fail
        refine (cover_any _ 2 2 _ [0, 253402300799] 68719476736 _ HN.out (Nat.le_refl _)).mono ?_
        rintro e w46 ⟨rfl, hf⟩
        replace HF := Lib.hid (HF.out.then0 hf)
        clear hf
        rw [k_0c, k_0w]
        clear HN
        go_wp2_with fail
        refine (works_any _).mono ?_
        rintro e wz ⟨rfl, hf⟩
        go_wp2
        go_ret
        exact ⟨rfl, HF.out.then0 hf⟩
end Go.Proofs.Ytclhdhgagjpicaa
