/- The document's Merge. -/
import Derived.Test.YtclhdhgagjpicaaRO
import Derived.Test.YtclhdhgagjpicaaW
import Derived.BigRegion
namespace Go.Proofs.Ytclhdhgagjpicaa
open Go.RowKit Go.Wk

theorem own_some {w : World} {base n size : Nat} {v : Value} {e : TypeId} {xs : List Value} (h : w.ownsRow base e size v n xs) (hn : 0 < n) : ∃ g q, v = .slice (some ⟨g, 0, none⟩) n q ∧ base ≤ g := by
  rcases h.2 with ⟨h1, h0⟩ | ⟨g, cap, cur, h1, h2, _⟩
  · omega
  · exact ⟨g, cap, h1, h2⟩
theorem cells_get {k : IntKind} {l : List Int} {i : Nat} (h : i < l.length) : (cells k l)[i]? = some (.int k (l.getD i 0)) := by simp [cells, h]
theorem _root_.Go.World.ownsRow.drewN_ {w : World} {base n size : Nat} {v : Value} {e : TypeId} {xs : List Value} (h : w.ownsRow base e size v n xs) (m : Nat) : (w.drewN m).ownsRow base e size v n xs := h

theorem cells_set (k : IntKind) (l : List Int) (i : Nat) (x : Int) : (cells k l).set i (.int k x) = cells k (l.set i x) := by simp [cells, List.map_set]
theorem cells_set2 {w : World} {base g n c : Nat} {e : TypeId} {kd : IntKind} {l : List Int} (h : w.ownsRow base e 1 (.slice (some ⟨g, 0, none⟩) n c) n (cells kd l)) (i j : Nat) (x y : Int) : ((w.setCell ⟨g, i, none⟩ (.int kd x)).setCell ⟨g, j, none⟩ (.int kd y)).ownsRow base e 1 (.slice (some ⟨g, 0, none⟩) n c) n (cells kd ((l.set i x).set j y)) := by
  have := ((h.stored i (.int kd x)).1.stored j (.int kd y)).1
  rwa [cells_set, cells_set] at this
theorem setCell2_fr (w : World) (g i j : Nat) (u v : Value) : Fr (· = g) w ((w.setCell ⟨g, i, none⟩ u).setCell ⟨g, j, none⟩ v) := ((Fr.refl (· = g) w).setCell (p := ⟨g, i, none⟩) (.inr rfl) u).setCell (p := ⟨g, j, none⟩) (.inr rfl) v

/-- How far the merging has come. -/
structure MrgI (la ys : List Int) (i : Nat) (L : List Int) : Prop where
  inc : Inc L
  mem : ∀ t, t ∈ L ↔ t ∈ la ∨ t ∈ ys.take i
  len : L.length = la.length + i
theorem MrgI.step {la ys S : List Int} {i k : Nat} (h : MrgI la ys i S) (hi : i < ys.length) (hy : Inc ys) (hd : ∀ y ∈ ys, y ∉ la) (hk : k ≤ S.length) (h1 : ∀ j, k ≤ j → j < S.length → ys.getD i 0 < S.getD j 0) (h2 : 0 < k → S.getD (k - 1) 0 ≤ ys.getD i 0) : MrgI la ys (i + 1) (ins S (ys.getD i 0) k) := by
  refine ⟨ins_inc h.inc (fun hm => ?_) hk h1 h2, fun t => ?_, by rw [ins_len _ _ hk, h.len]; omega⟩
  · rcases (h.mem _).1 hm with h3 | h3
    · exact hd _ (getD_mem hi) h3
    · obtain ⟨j, hj, hjl, he⟩ := mem_take_getD h3
      have := hy.lt hj hi
      omega
  · rw [ins_mem, h.mem, take_snoc ys i hi, List.mem_append, List.mem_singleton]
    constructor
    · rintro (h | h | h)
      · exact .inr (.inr h)
      · exact .inl h
      · exact .inr (.inl h)
    · rintro (h | h | h)
      · exact .inr (.inl h)
      · exact .inr (.inr h)
      · exact .inl h
theorem MrgI.done {la lb L : List Int} (ha : Good la) (hb : Good lb) (h : MrgI la (sel lb la) (sel lb la).length L) : L = (bothL la lb).map (·.1) :=
  inc_ext h.inc (all_inc ha.inc_ hb.inc_) fun t => by
    rw [h.mem, all_mem ha.inc_ hb.inc_, List.take_length, sel_mem]
    constructor
    · rintro (h | h)
      · exact .inl h
      · exact .inr h.1
    · intro h
      by_cases h1 : t ∈ la
      · exact .inl h1
      · exact .inr ⟨h.resolve_left h1, h1⟩

set_option maxRecDepth 100000 in
set_option maxHeartbeats 16000000 in
theorem rmerge_any (A A' : Option Addr) (n c n' c' : Nat) (la lb : List Int) (w : World) (h : Reads w w.heap.size 1 A n (la.map (Value.int .i64))) (h' : Reads w w.heap.size 1 A' n' (lb.map (Value.int .i64))) :
    Calls Try.prog 35 #[.slice A n c, .slice A' n' c'] w fun e w' => Gapped w (mergeL la lb) (chk [la, lb]) e w' := by
  have HON := Lib.hid (ronly_any A A' n c n' c' la lb w h h')
  obtain ⟨i0, hi, hz0, hz1, hz2⟩ : ∃ i, Try.prog.info? 2 = some i ∧ i.zero = some (.int .i64 0) ∧ i.size = 1 ∧ i.bytes = 8 := ⟨_, rfl, rfl, rfl, rfl⟩
  by_cases hk : chk [la, lb] = 0
  · have hga := chk_ok hk la (by simp)
    have hgb := chk_ok hk lb (by simp)
    have HL := Lib.hid (show mergeL la lb = (bothL la lb).map (·.1) by unfold mergeL; rw [if_pos hk])
    have hM2 : only2 la lb = sel lb la := by unfold only2; rw [if_pos hk]; exact only2_sel hga hgb
    rw [hM2] at HON
    have hn : n ≤ 100000 := by have := hga.len; have := h.length_ints; omega
    have hn' : n' ≤ 100000 := by have := hgb.len; have := h'.length_ints; omega
    have HN := Lib.hid h.length_ints
    have hys : (sel lb la).length ≤ 100000 := by have := sel_len lb la; have := hgb.len; omega
    have HYI := Lib.hid (sel_inc la hgb.inc_)
    have HYD := Lib.hid (show ∀ y ∈ sel lb la, y ∉ la from fun y hy => ((sel_mem lb la y).1 hy).2)
    have HDN := Lib.hid (fun L (h : MrgI la (sel lb la) (sel lb la).length L) => MrgI.done hga hgb h)
    have HST := Lib.hid (show MrgI la (sel lb la) 0 la from ⟨hga.inc_, fun t => by simp, rfl⟩)
    have HRA := Lib.hid h
    rw [hk] at HON
    have HK := Lib.hid hk
    clear hk hM2 h h' hga hgb
    generalize sel lb la = ys at *
    generalize only1 la lb = xs at *
    obtain ⟨m, hm⟩ : ∃ m, m = ys.length := ⟨_, rfl⟩
    rw [← hm] at hys HDN
    have HM := Lib.hid hm
    clear hm
    go_enter Try.func35, Try.ntmps35
    go_wp2_with fail
    refine HON.out.mono ?_
    rintro e w1 ⟨Ax, cx, Ay, cy, rfl, hox, hoy, hf⟩
    have HF := Lib.hid hf
    have HRY := Lib.hid (Reads.of_own hoy)
    have R1 := Lib.hid ((HRA.out.fr0 hf).alloc (Nat.le_refl _) (.cells #[] 2))
    rw [← HM.out] at HRY ⊢
    clear hox hoy hf HRA
    have O1 := Lib.hid (show (w1.alloc (.cells #[] 2)).ownsRow w1.heap.size 2 1 (.slice (some ⟨w1.heap.size, 0, none⟩) 0 0) 0 [] from ⟨rfl, .inr ⟨w1.heap.size, 0, #[], rfl, Nat.le_refl _, Blk.new w1 2 #[], Nat.le_refl _, Nat.zero_le _, rfl, rfl⟩⟩)
    have HB1 := Lib.hid (show (0 + n) * 8 ≤ 140737488355328 by omega)
    have HB0 := Lib.hid (show 0 + n ≤ maxLen by unfold maxLen; omega)
    go_wp2_with (at_builtin; refine wpList_append_any (w1.alloc (.cells #[] 2)) rfl (.tmp 22) (.tmp 23) 25 rfl w1.heap.size 2 i0 (.int .i64 0) 1 8 Try.underlying25 hi hz0 hz1 hz2 rfl (by omega) (.slice (some ⟨w1.heap.size, 0, none⟩) 0 0) 0 [] rfl O1.out w1.heap.size A n c (la.map (Value.int .i64)) rfl R1.out (ints_one _) HB0.out HB1.out (by simp) ?_; intro v' w2 ho2 hg2 hl2; obtain ⟨A2, q2, rfl⟩ := own_form' ho2; have HO2 := Lib.hid ho2; have HF2 := Lib.hid (((Fr.refl No w1).alloc (.cells #[] 2)).own (Fr.of_grown (S := (· = w1.heap.size)) hg2 (fun k hk => by simpa [Value.ownBlock] using hk.symm)) (Nat.le_refl _)); clear ho2 hg2 hl2)
    go_loopw [9, 10] (fun ov iv wr => ∃ (i : Nat) (A2 : Option Addr) (q p : Nat) (L : List Int), iv = .int .i64 i ∧ i ≤ m ∧ ov = .slice A2 p q ∧ Hid (p = L.length) ∧ wr.ownsRow w1.heap.size 2 1 (.slice A2 p q) p (cells .i64 L) ∧ Hid (MrgI la ys i L) ∧ Fr No w1 wr) (fun _ i _ => m - (intOf i).toNat)
    case atStart => exact ⟨0, A2, q2, n, la, rfl, Nat.zero_le _, by simp, Lib.hid HN.out.symm, by simpa [cells] using HO2.out, HST, HF2.out⟩
    case round =>
      clear HO2 HF2 HST R1 O1 HB1 HB0
      obtain ⟨i, A2, q, p, S, rfl, hi', rfl, HP, ho, HI, hf⟩ := hrel
      have HO := Lib.hid ho
      have HFF := Lib.hid hf
      clear ho hf
      by_cases hlt : i < m
      · obtain ⟨b, off, rfl, hb, hc0⟩ := HRY.out.int_at (k := i) hlt
        have hc1 := (HFF.out.cell (p := ⟨b, off + i, none⟩) hb (fun x => x)).trans hc0
        have hpl : p ≤ 200000 := by
          have h1 := HP.out
          have h2 := HI.out.len
          have := HN.out
          omega
        have HSTEP := Lib.hid (fun k hk h1 h2 => HI.out.step (k := k) (show i < ys.length by rw [← HM.out]; exact hlt) HYI.out HYD.out hk h1 h2)
        have hl1 : (i : Int) < (m : Int) := by omega
        clear hc0
        generalize ys.getD i 0 = x at *
        have FA : Fr No wr (wr.alloc (.cells #[.int .i64 x] 2)) := (Fr.refl No wr).alloc _
        have NEW : Blk (wr.alloc (.cells #[.int .i64 x] 2)) wr.heap.size 2 #[.int .i64 x] := Blk.new wr 2 _
        have HNR := Lib.hid (show Reads (wr.alloc (.cells #[.int .i64 x] 2)) (wr.heap.size + 1) 1 (some ⟨wr.heap.size, 0, none⟩) 1 [.int .i64 x] from ⟨rfl, fun _ => ⟨_, rfl, Nat.lt_succ_self _, fun j u hu => by rw [add_plain, Nat.zero_add, NEW.cell, List.getElem?_toArray, ← hu]⟩⟩)
        have ON := Lib.hid (own_fr HO.out FA (fun _ _ x => x))
        have HB0 := Lib.hid (show p + 1 ≤ maxLen by unfold maxLen; omega)
        have HB1 := Lib.hid (show (p + 1) * 8 ≤ 140737488355328 by omega)
        have HBS := Lib.hid (Nat.le_trans HFF.out.size FA.size)
        have HFA := Lib.hid FA
        have H1C : Hid (∀ v ∈ ([.int .i64 x] : List Value), v.oneCell' = true) := Lib.hid (fun v hv => by simp at hv; subst hv; rfl)
        clear FA NEW
        obtain ⟨wo, rfl⟩ : ∃ wo : World, wo = wr := ⟨_, rfl⟩
        go_wp2_with (at_builtin; refine wpList_append_any (wo.alloc (.cells #[.int .i64 x] 2)) rfl (.tmp 31) (.tmp 36) 25 rfl w1.heap.size 2 i0 (.int .i64 0) 1 8 Try.underlying25 hi hz0 hz1 hz2 rfl (by omega) (.slice A2 p q) p (cells .i64 S) rfl ON.out _ (some ⟨wo.heap.size, 0, none⟩) 1 1 [.int .i64 x] rfl HNR.out H1C.out HB0.out HB1.out HBS.out ?_; intro v' w3 ho3 hg3 hl3; obtain ⟨g, q5, rfl, hg5⟩ := own_some ho3 (by omega); have HO3 := Lib.hid ho3; have HF3 := Lib.hid ((HFF.out.then0 HFA.out).ownS (Fr.of_grown (S := fun k' => (Value.slice A2 p q).ownBlock = some k') hg3 (fun _ hk => hk)) (fun _ hk => (HO.out.lt _ hk).1)); clear ho3 hg3 hl3)
        go_loopw [11] (fun kv wr => ∃ k : Nat, kv = .int .i64 k ∧ k ≤ p ∧ wr.ownsRow w1.heap.size 2 1 (.slice (some ⟨g, 0, none⟩) (p + 1) q5) (p + 1) (cells .i64 (ins S x k)) ∧ Fr No w1 wr ∧ Hid (∀ j, k ≤ j → j < S.length → x < S.getD j 0)) (fun kv _ => (intOf kv).toNat)
        case atStart => exact ⟨p, by first | rfl | go_num, Nat.le_refl _, by rw [HP.out, ins_end, cells_snoc]; have := HO3.out; rwa [HP.out] at this, HF3.out, Lib.hid (fun j h1 h2 => by have := HP.out; omega)⟩
        case round =>
          clear HO3 HF3
          obtain ⟨k, rfl, hk, ho, hf, HJ⟩ := hrel
          have HO4 := Lib.hid ho
          have HF4 := Lib.hid hf
          clear ho hf
          have HKP := Lib.hid (show k ≤ S.length by rw [← HP.out]; exact hk)
          by_cases hk0 : 0 < k
          · have d1 := HO4.out.cellAt k (by omega)
            have d0 := HO4.out.cellAt (k - 1) (by omega)
            rw [cells_get (by rw [ins_len _ _ HKP.out, ← HP.out]; omega), ins_at _ _ HKP.out] at d1
            rw [cells_get (by rw [ins_len _ _ HKP.out, ← HP.out]; omega), ins_before _ _ HKP.out hk0] at d0
            have z1 := HO4.out.frozenAt k
            have z0 := HO4.out.frozenAt (k - 1)
            obtain ⟨y, hy⟩ : ∃ y, y = S.getD (k - 1) 0 := ⟨_, rfl⟩
            rw [← hy] at d0
            have HY := Lib.hid hy
            clear hy
            have hjn : ((k : Int) - 1).toNat = k - 1 := by omega
            have hj2 : (0 : Int) ≤ (k : Int) - 1 := by omega
            have hj5 : (1 : Int) ≤ (k : Int) := by omega
            have hj3 : (k : Int) - 1 < (p : Int) + 1 := by omega
            have hj4 : (k : Int) < (p : Int) + 1 := by omega
            have hj6 : (0 : Int) < (k : Int) := by omega
            have hwr : IntKind.i64.wrap ((k : Int) - 1) = (k : Int) - 1 := by simp only [IntKind.wrap_i64]; omega
            by_cases hxy : x < y
            · have HSW := Lib.hid (show ((ins S x k).set (k - 1) x).set k y = ins S x (k - 1) from by
                have := ins_swap S x (k := k - 1) (by have := HKP.out; omega)
                rwa [show k - 1 + 1 = k by omega, ← HY.out] at this)
              have HJ2 := Lib.hid (show ∀ j, k - 1 ≤ j → j < S.length → x < S.getD j 0 from fun j h1 h2 => by
                rcases (show k ≤ j ∨ j = k - 1 by omega) with h | rfl
                · exact HJ.out j h h2
                · rw [← HY.out]; exact hxy)
              have hne : k - 1 ≠ k := by omega
              go_wp2
              go_quiet (fail)
              go_wp2
              go_region
              all_goals
                go_wp2
                go_roundw
                case rel =>
                  refine ⟨k - 1, by go_num, by omega, ?_, ((HF4.out.drewN _).ownS (setCell2_fr _ g (k - 1) k _ _) (fun b hb => by have := (HO4.out.lt g rfl).1; omega)), HJ2⟩
                  rw [← HSW.out]
                  exact (cells_set2 (HO4.out.drewN_ _) (k - 1) k x y)
                case measure => simp [intOf]; omega
            · have HRES := Lib.hid (HSTEP.out k HKP.out HJ.out (fun _ => by rw [← HY.out]; omega))
              go_wp2
              go_quiet (fail)
              go_wp2
              go_roundw
              case rel => exact ⟨i + 1, _, q5, p + 1, ins S x k, by go_num, by omega, rfl, Lib.hid (by rw [ins_len _ _ HKP.out, HP.out]), HO4.out.drewN_ _, HRES, HF4.out.drewN _⟩
              case measure => simp [intOf]; omega
          · have HRES := Lib.hid (HSTEP.out k HKP.out HJ.out (fun h => absurd h hk0))
            have hj6 : ¬ (0 : Int) < (k : Int) := by omega
            have hj7 : decide ((0 : Int) < (k : Int)) = false := by simpa using hj6
            go_wp2
            go_quiet (fail)
            go_wp2
            go_roundw
            case rel => exact ⟨i + 1, _, q5, p + 1, ins S x k, by go_num, by omega, rfl, Lib.hid (by rw [ins_len _ _ HKP.out, HP.out]), HO4.out.drewN_ _, HRES, HF4.out.drewN _⟩
            case measure => simp [intOf]; omega
      · have hLL := HDN.out S (by rw [show m = i by omega]; exact HI.out)
        have HPP := Lib.hid (show p = (mergeL la lb).length by rw [HL.out, ← hLL]; exact HP.out)
        rw [hLL, ← HL.out] at HO
        clear hLL
        go_wp2
        go_ret2
        rw [HK.out]
        have e1 := HPP.out
        have o1 := own_base HO.out HF.out.size
        subst e1
        exact ⟨A2, q, rfl, o1, HF.out.then0 HFF.out⟩
  · have HM := Lib.hid (show mergeL la lb = [] by unfold mergeL; rw [if_neg hk])
    have hkb : (chk [la, lb] == 0) = false := by simpa using hk
    have hkn : (chk [la, lb] != 0) = true := by simpa using hk
    generalize hkk : chk [la, lb] = k at *
    clear h h'
    go_enter Try.func35, Try.ntmps35
    go_wp2_with fail
    refine HON.out.mono ?_
    rintro e w1 ⟨Ax, cx, Ay, cy, rfl, hox, hoy, hf⟩
    go_wp2
    go_ret2
    rw [HM.out]
    exact ⟨none, 0, rfl, own_nil _ _ _ _, hf⟩
end Go.Proofs.Ytclhdhgagjpicaa
