/- The contracts of package gap: Gaps, Least. -/
import Derived.Test.YtclhdhgagjpicaaB
import Derived.RegionTactic
namespace Go.Proofs.Ytclhdhgagjpicaa
open Go.RowKit Go.Wk

/-- The gaps between the times of a list. -/
def gapsL (l : List Int) : List Int := (List.range (l.length - 1)).map (fun i => l.getD (i + 1) 0 - l.getD i 0)
def gapL (l : List Int) : List Int := if chk [l] = 0 then gapsL l else []
theorem gapsL_len (l : List Int) : (gapsL l).length = l.length - 1 := by simp [gapsL]
theorem gapsL_get (l : List Int) {i : Nat} (h : i < l.length - 1) : (gapsL l).getD i 0 = l.getD (i + 1) 0 - l.getD i 0 := by
  unfold gapsL
  simp [h]

/-- What Gaps leaves. -/
def Gapped (w : World) (g : List Int) (er : Int) (e : Ending) (w' : World) : Prop := ∃ A c, e = .returned (.tuple #[.slice A g.length c, .int .i64 er]) ∧ w'.ownsRow w.heap.size 2 1 (.slice A g.length c) g.length (cells .i64 g) ∧ Fr No w w'

/-- The first k gaps, the others still 0. -/
def part (g : List Int) (k : Nat) : List Int := g.take k ++ List.replicate (g.length - k) 0
theorem part_len (g : List Int) (k : Nat) (hk : k ≤ g.length) : (part g k).length = g.length := by simp [part]; omega
theorem part_set (g : List Int) {k : Nat} (hk : k < g.length) : (part g k).set k (g.getD k 0) = part g (k + 1) := by
  unfold part
  rw [List.set_append_right _ _ (by rw [List.length_take]; omega), List.length_take, Nat.min_eq_left (by omega), Nat.sub_self, take_snoc g k hk, List.append_assoc]
  congr 1
  rw [show g.length - k = (g.length - (k + 1)) + 1 by omega, List.replicate_succ]
  rfl
theorem part_all (g : List Int) : part g g.length = g := by simp [part]

theorem info2 : (Try.prog.info? 2).map (fun i => (i.zero, i.size, i.bytes)) = some (some (.int .i64 0), 1, 8) := by kernel_rfl

set_option maxRecDepth 100000 in
theorem gaps_any (A : Option Addr) (n c B : Nat) (l : List Int) (w : World) (h : Reads w B 1 A n (l.map (Value.int .i64))) (hB : B ≤ w.heap.size) :
    Calls Try.prog 26 #[.slice A n c] w fun e w' => Gapped w (gapL l) (chk [l]) e w' := by
  have HC := Lib.hid (check1_any A n c B l w h hB)
  have HF := Lib.hid ((Fr.refl No w).alloc (.cells #[.slice A n c] 25))
  have HR := Lib.hid h
  have HN := Lib.hid h.length_ints
  clear h
  obtain ⟨i0, hi, hz0, hz1, hz2⟩ : ∃ i, Try.prog.info? 2 = some i ∧ i.zero = some (.int .i64 0) ∧ i.size = 1 ∧ i.bytes = 8 := ⟨_, rfl, rfl, rfl, rfl⟩
  by_cases hk : chk [l] = 0
  · have HG := Lib.hid (chk_ok hk l (by simp))
    have hn := HG.out.len
    rw [HN.out] at hn
    by_cases h2 : n < 2
    · have HE := Lib.hid (show gapL l = [] from by
        unfold gapL
        rw [if_pos hk]
        exact List.eq_nil_of_length_eq_zero (by rw [gapsL_len, HN.out]; omega))
      rw [hk] at HC
      have HK := Lib.hid hk
      clear hk
      go_enter Try.func26, Try.ntmps26
      go_wp2_with (go_at_call 41; refine HC.out.mono ?_; rintro e w1 ⟨rfl, rfl⟩)
      go_ret2
      rw [HE.out, HK.out]
      exact ⟨none, 0, rfl, own_nil _ _ _ _, HF.out⟩
    · obtain ⟨m, hm⟩ : ∃ m, n = m + 1 := ⟨n - 1, by omega⟩
      have HE := Lib.hid (show gapL l = gapsL l from by unfold gapL; rw [if_pos hk])
      have HGL := Lib.hid (show (gapsL l).length = m from by rw [gapsL_len, HN.out, hm]; rfl)
      have HGG := Lib.hid (fun i (hi : i < m) => gapsL_get l (i := i) (by rw [HN.out, hm]; exact hi))
      rw [hk] at HC
      have HK := Lib.hid hk
      have hmE : (n : Int) - 1 = m := by omega
      have HM := Lib.hid hm
      have HME := Lib.hid hmE
      clear hk hm hmE
      have hm2 : 1 ≤ m := by have := HM.out; omega
      have hm3 : m ≤ 100000 := by have := HM.out; omega
      go_enter Try.func26, Try.ntmps26
      go_wp2_with (first
        | (go_at_call 41; refine HC.out.mono ?_; rintro e w1 ⟨rfl, rfl⟩)
        | (at_make; go_must (refine wpList_make_full _ rfl _ _ 25 rfl (w.alloc (.cells #[.slice A n c] 25)).heap.size 2 i0 (.int .i64 0) 1 Try.underlying25 hi hz0 hz1 .i64 .i64 _ _ m rfl rfl HME.out HME.out (by rw [hz2]; omega) (by unfold maxLen; omega) (Nat.le_refl _) ?_); intro w2 hown2 hg2))
      rw [madeCells_int] at hown2
      have hblk := Blk.of_full hown2
      have hF2 : Fr No w w2 := HF.out.then0 (Fr.of_grown hg2 (fun k hk => by cases hk))
      rw [show List.replicate m 0 = part (gapsL l) 0 by simp [part, HGL.out]] at hblk
      clear hown2 hg2
      rw [World.size_alloc] at hblk
      have HXW := Lib.hid (show w.heap.size ≤ w.heap.size + 1 by omega)
      generalize w.heap.size + 1 = X at *
      have HB2 := Lib.hid hblk
      have HF2 := Lib.hid hF2
      clear hblk hF2
      go_loopw [24] (fun i wr => ∃ k : Nat, i = .int .i64 k ∧ k ≤ m ∧ Blk wr X 2 (cells .i64 (part (gapsL l) k)).toArray ∧ Fr No w wr) (fun i _ => m - (intOf i).toNat)
      case atStart => exact ⟨0, rfl, Nat.zero_le _, HB2.out, HF2.out⟩
      case round =>
        clear HB2 HF2
        obtain ⟨k, rfl, hk, hb, hf⟩ := hrel
        by_cases hlt : k < m
        · obtain ⟨b, off, rfl, hbb, hc0⟩ := HR.out.int_at (k := k) (by have := HM.out; omega)
          obtain ⟨b', off', hbb', _, hc1⟩ := HR.out.int_at (k := k + 1) (by have := HM.out; omega)
          injection hbb' with hbb'
          injection hbb' with hq1 hq2
          subst hq1
          subst hq2
          have d0 := (hf.cell (p := ⟨b, off + k, none⟩) (Nat.lt_of_lt_of_le hbb hB) (fun x => x)).trans hc0
          have d1 := (hf.cell (p := ⟨b, off + (k + 1), none⟩) (Nat.lt_of_lt_of_le hbb hB) (fun x => x)).trans hc1
          have hv0 := HG.out.val k (by rw [HN.out]; have := HM.out; omega)
          have hv1 := HG.out.val (k + 1) (by rw [HN.out]; have := HM.out; omega)
          have dx := hb.num (j := k) (by rw [part_len _ _ (by rw [HGL.out]; omega), HGL.out]; exact hlt)
          have dz := hb.frozen k
          have HS := Lib.hid (part_set (gapsL l) (k := k) (by rw [HGL.out]; exact hlt))
          rw [HGG.out k hlt] at HS
          have HBB := Lib.hid hb
          have HFF := Lib.hid hf
          have hbX : b ≠ X := by have := HXW.out; omega
          clear hb hf hc0 hc1
          obtain ⟨hv01, hv02⟩ := hv0
          obtain ⟨hv11, hv12⟩ := hv1
          generalize l.getD k 0 = t0 at *
          generalize l.getD (k + 1) 0 = t1 at *
          generalize (part (gapsL l) k).getD k 0 = z at *
          have hwr : IntKind.i64.wrap ((k : Int) + 1) = (k : Int) + 1 := by simp only [IntKind.wrap_i64]; omega
          have hto : ((k : Int) + 1).toNat = k + 1 := by omega
          have hin : (k : Int) + 1 < (n : Int) := by have := HM.out; omega
          have hin2 : (k : Int) < (n : Int) := by have := HM.out; omega
          go_wp2
          go_region
          all_goals
            go_wp2
            go_roundw
            case rel =>
              refine ⟨k + 1, by go_num, by omega, ?_, HFF.out.drew.setCell (.inl HXW.out) _⟩
              rw [← HS.out]
              exact HBB.out.drew.num_set k _
            case measure => simp [intOf]; omega
        · have hkm : k = m := by omega
          have HBF := Lib.hid (show Blk wr X 2 (cells .i64 (gapsL l)).toArray from by
            rw [hkm, ← HGL.out, part_all] at hb
            exact hb)
          have HFF := Lib.hid hf
          clear hb hf hkm
          go_wp2
          go_ret2
          rw [HE.out, HK.out]
          refine ⟨some ⟨X, 0, none⟩, m, ?_, ?_, HFF.out⟩
          · rw [HGL.out]; rfl
          · have := HBF.out.own (base := w.heap.size) HXW.out (by rw [cells_length, HGL.out]; unfold maxLen; omega)
            rw [cells_length, HGL.out] at this
            rw [HGL.out]
            exact this
  · have HE := Lib.hid (show gapL l = [] from by unfold gapL; rw [if_neg hk])
    have hkb : (chk [l] != 0) = true := by simpa using hk
    generalize hkk : chk [l] = k at *
    go_enter Try.func26, Try.ntmps26
    go_wp2_with (go_at_call 41; refine HC.out.mono ?_; rintro e w1 ⟨rfl, rfl⟩)
    go_ret2
    rw [HE.out]
    exact ⟨none, 0, rfl, own_nil _ _ _ _, HF.out⟩

/-- The smallest gap. -/
def leastV (l : List Int) : Int := minL (gapL l)
def leastB (l : List Int) : Bool := decide (gapL l ≠ [])
theorem least_any (A : Option Addr) (n c B : Nat) (l : List Int) (w : World) (h : Reads w B 1 A n (l.map (Value.int .i64))) (hB : B ≤ w.heap.size) :
    Calls Try.prog 27 #[.slice A n c] w fun e w' => e = .returned (.tuple #[.int .i64 (leastV l), .bool (leastB l), .int .i64 (chk [l])]) ∧ Fr No w w' := by
  have HG := Lib.hid (gaps_any A n c B l w h hB)
  have HK := Lib.hid (show gapL l ≠ [] → chk [l] = 0 from fun hne => by
    by_cases hk : chk [l] = 0
    · exact hk
    · unfold gapL at hne
      rw [if_neg hk] at hne
      exact absurd rfl hne)
  have HL := Lib.hid (show (gapL l).length ≤ 100000 from by
    unfold gapL
    by_cases hk : chk [l] = 0
    · rw [if_pos hk, gapsL_len]
      have := (chk_ok hk l (by simp)).len
      omega
    · rw [if_neg hk]; exact Nat.zero_le _)
  unfold leastV leastB
  clear h
  generalize gapL l = g at *
  generalize chk [l] = k at *
  by_cases hg : g = []
  · subst hg
    go_enter Try.func27, Try.ntmps27
    go_wp2_with fail
    refine HG.out.mono ?_
    rintro e w1 ⟨A', c', rfl, ho, hf⟩
    go_wp2
    go_ret3
    exact ⟨by simp [minL], hf⟩
  · have hkk := HK.out hg
    subst hkk
    have hlp := List.length_pos_iff.2 hg
    have hlb : (((g.length : Nat) : Int) == 0) = false := by simpa using hg
    have hd : decide (g ≠ []) = true := by simpa using hg
    rw [hd]
    go_enter Try.func27, Try.ntmps27
    go_wp2_with fail
    refine HG.out.mono ?_
    rintro e w1 ⟨A', c', rfl, ho, hf⟩
    have HM := Lib.hid (min_any A' g.length c' w1.heap.size g w1 (Reads.of_own ho) hlp (by have := HL.out; omega))
    go_wp2_with fail
    refine HM.out.mono ?_
    rintro e _ ⟨rfl, rfl⟩
    go_wp2
    go_ret3
    exact ⟨rfl, hf⟩
end Go.Proofs.Ytclhdhgagjpicaa
