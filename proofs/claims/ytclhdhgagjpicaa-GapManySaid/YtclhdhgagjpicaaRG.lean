/- The document's Gaps, Least and Even. -/
import Derived.Test.YtclhdhgagjpicaaMx
import Derived.Test.YtclhdhgagjpicaaRB
import Derived.Deep.RegionHeld3
namespace Go.Proofs.Ytclhdhgagjpicaa
open Go.RowKit Go.Wk

set_option maxRecDepth 100000 in
set_option maxHeartbeats 4000000 in
theorem rgaps_any (A : Option Addr) (n c B : Nat) (l : List Int) (w : World) (h : Reads w B 1 A n (l.map (Value.int .i64))) (hB : B ≤ w.heap.size) :
    Calls Try.prog 37 #[.slice A n c] w fun e w' => Gapped w (gapL l) (chk [l]) e w' := by
  have HC := Lib.hid (rcheck1_any A n c B l w h hB)
  have HF := Lib.hid ((Fr.refl No w).alloc (.cells #[.slice A n c] 25))
  have HR := Lib.hid h
  have HN := Lib.hid h.length_ints
  clear h
  obtain ⟨i0, hi, hz0, hz1, hz2⟩ : ∃ i, Try.prog.info? 2 = some i ∧ i.zero = some (.int .i64 0) ∧ i.size = 1 ∧ i.bytes = 8 := ⟨_, rfl, rfl, rfl, rfl⟩
  by_cases hk : chk [l] = 0
  · have HG := Lib.hid (chk_ok hk l (by simp))
    have hn := HG.out.len
    rw [HN.out] at hn
    have HE := Lib.hid (show gapL l = gapsL l from by unfold gapL; rw [if_pos hk])
    have HGL := Lib.hid (show (gapsL l).length = n - 1 from by rw [gapsL_len, HN.out])
    have HGG := Lib.hid (fun i (hi : i < n - 1) => gapsL_get l (i := i) (by rw [HN.out]; exact hi))
    rw [hk] at HC
    have HK := Lib.hid hk
    clear hk
    go_enter Try.func37, Try.ntmps37
    go_wp2_with (go_at_call 48; refine HC.out.mono ?_; rintro e w1 ⟨rfl, hf⟩)
    have HF1 := Lib.hid (HF.out.then0 hf)
    clear hf HF
    go_loopw [5, 6] (fun lv i wr => ∃ (k : Nat) (A2 : Option Addr) (q : Nat), i = .int .i64 k ∧ 1 ≤ k ∧ (k ≤ n ∨ k = 1) ∧ lv = .slice A2 (k - 1) q ∧ wr.ownsRow w.heap.size 2 1 (.slice A2 (k - 1) q) (k - 1) (cells .i64 ((gapsL l).take (k - 1))) ∧ Fr No w wr) (fun _ i _ => n - (intOf i).toNat)
    case atStart => exact ⟨1, none, 0, rfl, Nat.le_refl _, .inr rfl, rfl, own_nil _ _ _ _, HF1.out⟩
    case round =>
      clear HF1
      obtain ⟨k, A2, q, rfl, hk1, hk2, rfl, ho, hf⟩ := hrel
      have HO := Lib.hid ho
      have HFF := Lib.hid hf
      clear ho hf
      by_cases hlt : k < n
      · obtain ⟨b, off, rfl, hb, hc0⟩ := HR.out.int_at (k := k) hlt
        obtain ⟨b', off', hbb, _, hc1⟩ := HR.out.int_at (k := k - 1) (by omega)
        injection hbb with hbb
        injection hbb with hb1 hb2
        subst hb1
        subst hb2
        have d0 := (HFF.out.cell (p := ⟨b, off + k, none⟩) (Nat.lt_of_lt_of_le hb hB) (fun x => x)).trans hc0
        have d1 := (HFF.out.cell (p := ⟨b, off + (k - 1), none⟩) (Nat.lt_of_lt_of_le hb hB) (fun x => x)).trans hc1
        have hv0 := HG.out.val k (by rw [HN.out]; exact hlt)
        have hv1 := HG.out.val (k - 1) (by rw [HN.out]; omega)
        have HS := Lib.hid (take_snoc (gapsL l) (k - 1) (by rw [HGL.out]; omega))
        rw [HGG.out (k - 1) (by omega), show k - 1 + 1 = k by omega] at HS
        obtain ⟨hv01, hv02⟩ := hv0
        obtain ⟨hv11, hv12⟩ := hv1
        generalize l.getD k 0 = x at *
        generalize l.getD (k - 1) 0 = y at *
        have hjn : ((k : Int) - 1).toNat = k - 1 := by omega
        have hj2 : (0 : Int) ≤ (k : Int) - 1 := by omega
        have hj3 : (k : Int) - 1 < (n : Int) := by omega
        have hj5 : (1 : Int) ≤ (k : Int) := by omega
        have hj4 : (k : Int) < (n : Int) := by omega
        have hwr : IntKind.i64.wrap ((k : Int) - 1) = (k : Int) - 1 := by simp only [IntKind.wrap_i64]; omega
        have hwx : IntKind.i64.wrap (x - y) = x - y := by simp only [IntKind.wrap_i64]; omega
        have FA : Fr No wr ((wr.alloc (.cells #[.int .i64 (x - y)] 2)).drew) := ((Fr.refl No wr).alloc _).drew
        have NEW : Blk ((wr.alloc (.cells #[.int .i64 (x - y)] 2)).drew) wr.heap.size 2 #[.int .i64 (x - y)] := Blk.new wr 2 _
        have HNR := Lib.hid (show Reads ((wr.alloc (.cells #[.int .i64 (x - y)] 2)).drew) (wr.heap.size + 1) 1 (some ⟨wr.heap.size, 0, none⟩) 1 [.int .i64 (x - y)] from ⟨rfl, fun _ => ⟨_, rfl, Nat.lt_succ_self _, fun j u hu => by rw [add_plain, Nat.zero_add, NEW.cell, List.getElem?_toArray, ← hu]⟩⟩)
        have ON := Lib.hid (own_fr HO.out FA (fun _ _ x => x))
        have HB0 := Lib.hid (show k - 1 + 1 ≤ maxLen by unfold maxLen; omega)
        have HB1 := Lib.hid (show (k - 1 + 1) * 8 ≤ 140737488355328 by omega)
        have HBS := Lib.hid (Nat.le_trans HFF.out.size FA.size)
        have HFA := Lib.hid FA
        have H1C : Hid (∀ v ∈ ([.int .i64 (x - y)] : List Value), v.oneCell' = true) := Lib.hid (fun v hv => by simp at hv; subst hv; rfl)
        have hbw : b < w.heap.size := Nat.lt_of_lt_of_le hb hB
        have hbr : b < wr.heap.size := Nat.lt_of_lt_of_le hbw HFF.out.size
        have HC0 := Lib.hid hc0
        have HC1 := Lib.hid hc1
        have HKK := Lib.hid (show k - 1 + 1 = k by omega)
        clear FA NEW hc0 hc1
        go_wp2_with fail
        go_region_held3 (fun w' => w'.cell? ⟨b, off + k, none⟩ = some (.int .i64 x) ∧ w'.cell? ⟨b, off + (k - 1), none⟩ = some (.int .i64 y)) (first | go_keep | exact k1)
          ((refine step_append_any ((wr.alloc (.cells #[.int .i64 (x - y)] 2)).drew) (by rfl) (.tmp 19) (.tmp 30) 25 (by rfl) w.heap.size 2 i0 (.int .i64 0) 1 8 Try.underlying25 hi hz0 hz1 hz2 rfl (by omega) (.slice A2 (k - 1) q) (k - 1) (cells .i64 ((gapsL l).take (k - 1))) (by rfl) ON.out (wr.heap.size + 1) (some ⟨wr.heap.size, 0, none⟩) 1 1 [.int .i64 (x - y)] (by rfl) HNR.out H1C.out HB0.out HB1.out HBS.out ?_; intro v' w3 ho3 hg3 hl3; obtain ⟨A3, q3, rfl⟩ := own_form' ho3; have F3 := Lib.hid ((HFF.out.then0 HFA.out).ownS (Fr.of_grown (S := fun k' => (Value.slice A2 (k - 1) q).ownBlock = some k') hg3 (fun _ hk => hk)) (fun kk hk => (ON.out.lt kk hk).1)); have k1 : w3.cell? ⟨b, off + k, none⟩ = some (.int .i64 x) ∧ w3.cell? ⟨b, off + (k - 1), none⟩ = some (.int .i64 y) := ⟨(F3.out.cell (p := ⟨b, off + k, none⟩) hbw (fun x => x)).trans HC0.out, (F3.out.cell (p := ⟨b, off + (k - 1), none⟩) hbw (fun x => x)).trans HC1.out⟩; have HO3 := Lib.hid ho3; clear ho3 hg3 hl3))
        all_goals
          go_wp2
          go_roundw
          case rel =>
            refine ⟨k + 1, A3, q3, by go_num, by omega, .inl (by omega), by rfl, ?_, F3.out⟩
            have h3 := HO3.out
            rw [HKK.out] at h3
            rw [show k + 1 - 1 = k by omega, HS.out, cells_snoc]
            exact h3
          case measure => simp [intOf]; omega
      · have HLN := Lib.hid (show k - 1 = (gapsL l).length by rw [HGL.out]; omega)
        go_wp2
        go_ret2
        rw [HE.out, HK.out]
        refine ⟨A2, q, by rw [HLN.out]; rfl, ?_, HFF.out⟩
        have h3 := HO.out
        rw [HLN.out, List.take_of_length_le (Nat.le_refl _)] at h3
        exact h3
  · have HE := Lib.hid (show gapL l = [] from by unfold gapL; rw [if_neg hk])
    have hkb : (chk [l] == 0) = false := by simpa using hk
    have hkn : (chk [l] != 0) = true := by simpa using hk
    generalize hkk : chk [l] = k at *
    go_enter Try.func37, Try.ntmps37
    go_wp2_with (go_at_call 48; refine HC.out.mono ?_; rintro e w1 ⟨rfl, hf⟩)
    go_ret2
    rw [HE.out]
    exact ⟨none, 0, rfl, own_nil _ _ _ _, HF.out.then0 hf⟩

theorem gapL_ok {l : List Int} (hne : gapL l ≠ []) : chk [l] = 0 := by
  by_cases hk : chk [l] = 0
  · exact hk
  · unfold gapL at hne
    rw [if_neg hk] at hne
    exact absurd rfl hne
theorem gapL_len (l : List Int) : (gapL l).length ≤ 100000 := by
  unfold gapL
  by_cases hk : chk [l] = 0
  · rw [if_pos hk, gapsL_len]
    have := (chk_ok hk l (by simp)).len
    omega
  · rw [if_neg hk]; exact Nat.zero_le _

theorem min_take (g : List Int) (k : Nat) (hk : k < g.length) : min (minL (g.take (k + 1))) (g.getD k 0) = minL (g.take (k + 1)) ∧ (0 < k → minL (g.take (k + 1)) = min (minL (g.take k)) (g.getD k 0)) := by
  rw [take_snoc g k hk]
  constructor
  · match hl : g.take k with
    | [] => simp [minL]
    | a :: t => simp [minL]
  · intro h1
    match hl : g.take k with
    | [] => have := congrArg List.length hl; rw [List.length_take] at this; simp only [List.length_nil] at this; omega
    | a :: t => simp [minL]

theorem rleast_any (A : Option Addr) (n c B : Nat) (l : List Int) (w : World) (h : Reads w B 1 A n (l.map (Value.int .i64))) (hB : B ≤ w.heap.size) :
    Calls Try.prog 38 #[.slice A n c] w fun e w' => e = .returned (.tuple #[.int .i64 (leastV l), .bool (leastB l), .int .i64 (chk [l])]) ∧ Fr No w w' := by
  have HG := Lib.hid (rgaps_any A n c B l w h hB)
  have HK := Lib.hid (gapL_ok (l := l))
  have hL := gapL_len l
  unfold leastV leastB
  clear h
  generalize gapL l = g at *
  generalize chk [l] = k at *
  by_cases hg : g = []
  · subst hg
    by_cases hk : k = 0
    · subst hk
      go_enter Try.func38, Try.ntmps38
      go_wp2_with fail
      refine HG.out.mono ?_
      rintro e w1 ⟨A', c', rfl, ho, hf⟩
      go_wp2
      go_ret3
      exact ⟨by simp [minL], hf⟩
    · have hkb : (k != 0) = true := by simpa using hk
      go_enter Try.func38, Try.ntmps38
      go_wp2_with fail
      refine HG.out.mono ?_
      rintro e w1 ⟨A', c', rfl, ho, hf⟩
      go_wp2
      go_ret3
      exact ⟨by simp [minL], hf⟩
  · have hkk := HK.out hg
    subst hkk
    have hlp := List.length_pos_iff.2 hg
    have hlb : (((g.length : Nat) : Int) == 0) = false := by simpa using hg
    have hd : decide (g ≠ []) = true := by simpa using hg
    have HM1 := Lib.hid (show minL (g.take 1) = g.getD 0 0 from by
      rw [take_snoc g 0 hlp]; rfl)
    have HMF := Lib.hid (show g.take g.length = g from List.take_of_length_le (Nat.le_refl _))
    have HMS := Lib.hid (fun k (hk : k < g.length) => min_take g k hk)
    obtain ⟨n2, hn2⟩ : ∃ m, m = g.length := ⟨_, rfl⟩
    rw [hd]
    rw [← hn2] at hlp hlb hL
    have HN := Lib.hid hn2
    clear hn2 hg
    go_enter Try.func38, Try.ntmps38
    go_wp2_with fail
    refine HG.out.mono ?_
    rintro e w1 ⟨A', c', rfl, ho, hf⟩
    have HR := Lib.hid (Reads.of_own ho)
    have HF := Lib.hid hf
    rw [← HN.out] at HR ⊢
    obtain ⟨b, off, rfl, hb, hc0⟩ := HR.out.int_at (k := 0) hlp
    rw [Nat.add_zero] at hc0
    clear ho hf
    rw [← HM1.out] at hc0
    go_wp2
    go_loopw [7, 8] (fun m i wr => ∃ k : Nat, i = .int .i64 k ∧ k ≤ n2 ∧ w1 = wr ∧ m = .int .i64 (minL (g.take (max k 1)))) (fun _ i _ => n2 - (intOf i).toNat)
    case atStart => exact ⟨0, rfl, Nat.zero_le _, rfl, rfl⟩
    case round =>
      clear hc0
      obtain ⟨k, rfl, hk, rfl, rfl⟩ := hrel
      by_cases hlt : k < n2
      · obtain ⟨b', off', hbb, _, hc⟩ := HR.out.int_at hlt
        injection hbb with hbb
        injection hbb with hb1 hb2
        subst hb1
        subst hb2
        have HS := Lib.hid (show minL (g.take (max (k + 1) 1)) = min (minL (g.take (max k 1))) (g.getD k 0) from by
          have h1 := HMS.out k (by rw [← HN.out]; exact hlt)
          rw [show max (k + 1) 1 = k + 1 by omega]
          rcases Nat.eq_zero_or_pos k with h0 | h0
          · subst h0; exact h1.1.symm
          · rw [show max k 1 = k by omega]; exact h1.2 h0)
        generalize g.getD k 0 = t at *
        generalize minL (g.take (max k 1)) = m at *
        by_cases hmt : m ≤ t
        all_goals
          go_wp2
          go_roundw
          case rel => exact ⟨k + 1, by go_num, by omega, (by trivial), by rw [HS.out]; congr 1; omega⟩
          case measure => simp [intOf]; omega
      · have HX := Lib.hid (show g.take (max k 1) = g by rw [show max k 1 = g.length by rw [← HN.out]; omega]; exact HMF.out)
        go_wp2
        go_ret3
        rw [HX.out]
        exact ⟨rfl, HF.out⟩

theorem min_le (g : List Int) : ∀ x ∈ g, minL g ≤ x ∧ x ≤ maxL g := by
  have key : ∀ (t : List Int) (a : Int), t.foldl min a ≤ a ∧ a ≤ t.foldl max a ∧ ∀ x ∈ t, t.foldl min a ≤ x ∧ x ≤ t.foldl max a := fun t => by
    induction t with
    | nil => intro a; simp
    | cons b t ih =>
      intro a
      have h1 := ih (min a b)
      have h2 := ih (max a b)
      simp only [List.foldl_cons, List.mem_cons]
      refine ⟨by omega, by omega, fun x hx => ?_⟩
      rcases hx with rfl | hx
      · omega
      · exact ⟨(h1.2.2 x hx).1, (h2.2.2 x hx).2⟩
  intro x hx
  match g, hx with
  | a :: t, hx =>
    have := key t a
    rcases List.mem_cons.1 hx with rfl | hx
    · exact ⟨this.1, this.2.1⟩
    · exact this.2.2 x hx
theorem minmax_of_all {g : List Int} (h0 : g ≠ []) (h : ∀ i, i < g.length → g.getD i 0 = g.getD 0 0) : minL g = maxL g := by
  match g, h0 with
  | a :: t, _ =>
    have hall : ∀ x ∈ t, x = a := fun x hx => by
      obtain ⟨i, hi, rfl⟩ := List.mem_iff_getElem.1 hx
      have := h (i + 1) (by simpa using hi)
      simpa [hi] using this
    have k1 : ∀ (t : List Int), (∀ x ∈ t, x = a) → t.foldl min a = a ∧ t.foldl max a = a := fun t => by
      induction t with
      | nil => intro _; simp
      | cons b t ih =>
        intro hh
        have hb := hh b (by simp)
        subst hb
        have := ih (fun x hx => hh x (by simp [hx]))
        simpa using this
    have := k1 t hall
    simp [minL, maxL, this.1, this.2]
theorem all_of_minmax {g : List Int} (h : minL g = maxL g) {i : Nat} (hi : i < g.length) : g.getD i 0 = g.getD 0 0 := by
  have m1 := min_le g g[i] (List.getElem_mem _)
  have m2 := min_le g (g[0]'(by omega)) (List.getElem_mem _)
  rw [show g.getD i 0 = g[i] by simp [hi], show g.getD 0 0 = g[0]'(by omega) by simp [show 0 < g.length by omega]]
  omega

theorem reven_any (A : Option Addr) (n c B : Nat) (l : List Int) (w : World) (h : Reads w B 1 A n (l.map (Value.int .i64))) (hB : B ≤ w.heap.size) :
    Calls Try.prog 39 #[.slice A n c] w fun e w' => e = .returned (.tuple #[.int .i64 (evenV l), .bool (evenB l), .int .i64 (chk [l])]) ∧ Fr No w w' := by
  have HG := Lib.hid (rgaps_any A n c B l w h hB)
  have HK := Lib.hid (gapL_ok (l := l))
  have hL := gapL_len l
  unfold evenV evenB
  clear h
  generalize gapL l = g at *
  generalize chk [l] = k at *
  by_cases hg : g = []
  · subst hg
    by_cases hk : k = 0
    · subst hk
      go_enter Try.func39, Try.ntmps39
      go_wp2_with fail
      refine HG.out.mono ?_
      rintro e w1 ⟨A', c', rfl, ho, hf⟩
      go_wp2
      go_ret3
      exact ⟨by simp, hf⟩
    · have hkb : (k != 0) = true := by simpa using hk
      go_enter Try.func39, Try.ntmps39
      go_wp2_with fail
      refine HG.out.mono ?_
      rintro e w1 ⟨A', c', rfl, ho, hf⟩
      go_wp2
      go_ret3
      exact ⟨by simp, hf⟩
  · have hkk := HK.out hg
    subst hkk
    have hlp := List.length_pos_iff.2 hg
    have hlb : (((g.length : Nat) : Int) == 0) = false := by simpa using hg
    have HY := Lib.hid (show (∀ i, i < g.length → g.getD i 0 = g.getD 0 0) → decide (g ≠ [] ∧ minL g = maxL g) = true from fun h => by
      simp [hg, minmax_of_all hg h])
    have HNO := Lib.hid (show ∀ i, i < g.length → ¬ g.getD i 0 = g.getD 0 0 → decide (g ≠ [] ∧ minL g = maxL g) = false from fun i hi h => by
      have : ¬ minL g = maxL g := fun he => h (all_of_minmax he hi)
      simp [this])
    generalize decide (g ≠ [] ∧ minL g = maxL g) = dd at *
    obtain ⟨n2, hn2⟩ : ∃ m, m = g.length := ⟨_, rfl⟩
    rw [← hn2] at hlp hlb hL HY HNO
    have HN := Lib.hid hn2
    obtain ⟨v0, hv0⟩ : ∃ v0, v0 = g.getD 0 0 := ⟨_, rfl⟩
    rw [← hv0] at HY HNO ⊢
    have HV0 := Lib.hid hv0
    clear hn2 hg hv0
    go_enter Try.func39, Try.ntmps39
    go_wp2_with fail
    refine HG.out.mono ?_
    rintro e w1 ⟨A', c', rfl, ho, hf⟩
    have HR := Lib.hid (Reads.of_own ho)
    have HF := Lib.hid hf
    rw [← HN.out] at HR ⊢
    obtain ⟨b, off, rfl, hb, hc0⟩ := HR.out.int_at (k := 0) hlp
    rw [Nat.add_zero, ← HV0.out] at hc0
    clear ho hf
    have hlp2 : (0 : Int) < (n2 : Int) := by omega
    go_wp2
    go_loopw [7] (fun i wr => ∃ k m : Nat, i = .int .i64 k ∧ k ≤ n2 ∧ wr = w1.drewN m ∧ Hid (∀ j, j < k → g.getD j 0 = v0)) (fun i _ => n2 - (intOf i).toNat)
    case atStart => exact ⟨0, 0, rfl, Nat.zero_le _, rfl, Lib.hid (fun j hj => absurd hj (by omega))⟩
    case round =>
      obtain ⟨k, m, rfl, hk, rfl, HA⟩ := hrel
      by_cases hlt : k < n2
      · obtain ⟨b', off', hbb, _, hc⟩ := HR.out.int_at hlt
        injection hbb with hbb
        injection hbb with hb1 hb2
        subst hb1
        subst hb2
        have hlt2 : (k : Int) < (n2 : Int) := by omega
        obtain ⟨t, ht⟩ : ∃ t, t = g.getD k 0 := ⟨_, rfl⟩
        rw [← ht] at hc
        have HT := Lib.hid ht
        clear ht
        by_cases hmt : t = v0
        · have HA2 := Lib.hid (show ∀ j, j < k + 1 → g.getD j 0 = v0 from fun j hj => by
            rcases (show j < k ∨ j = k by omega) with h | rfl
            · exact HA.out j h
            · rw [← HT.out, hmt])
          have hb2 : (t != v0) = false := by simpa using hmt
          clear hmt
          go_wp2
          go_quiet (fail)
          go_wp2
          go_roundw
          case rel => exact ⟨k + 1, _, by go_num, by omega, rfl, HA2⟩
          case measure => simp [intOf]; omega
        · obtain rfl := HNO.out k hlt (by rw [← HT.out]; exact hmt)
          have hb2 : (t != v0) = true := by simpa using hmt
          clear hmt
          go_wp2
          go_quiet (fail)
          go_wp2
          go_ret3
          exact ⟨rfl, HF.out.drewN _⟩
      · obtain rfl := HY.out (fun i hi => HA.out i (by omega))
        go_wp2
        go_ret3
        exact ⟨rfl, HF.out.drewN _⟩
end Go.Proofs.Ytclhdhgagjpicaa
