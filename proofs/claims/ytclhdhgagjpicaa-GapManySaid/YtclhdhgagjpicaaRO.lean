/- The document's Has, Only and Merge. -/
import Derived.Test.YtclhdhgagjpicaaRG
import Derived.Test.YtclhdhgagjpicaaPl
namespace Go.Proofs.Ytclhdhgagjpicaa
open Go.RowKit Go.Wk

theorem rhas_any (A : Option Addr) (n c B : Nat) (l : List Int) (t : Int) (w : World) (hn : n ≤ 9223372036854775807) (h : Reads w B 1 A n (l.map (Value.int .i64))) :
    Calls Try.prog 52 #[.slice A n c, .int .i64 t] w fun e w' => e = .returned (.bool (decide (t ∈ l))) ∧ w = w' := by
  have HR := Lib.hid h
  have HN := Lib.hid h.length_ints
  have HY := Lib.hid (fun i (hi : i < n) (he : l.getD i 0 = t) => show decide (t ∈ l) = true by rw [← he]; exact decide_eq_true (getD_mem (by rw [HN.out]; exact hi)))
  have HNO := Lib.hid (fun (hh : ∀ i, i < n → ¬ l.getD i 0 = t) => show decide (t ∈ l) = false from decide_eq_false (fun hm => by
    obtain ⟨i, hi, he⟩ := mem_getD hm
    exact hh i (by rw [← HN.out]; exact hi) he))
  clear h
  generalize decide (t ∈ l) = dd at *
  go_enter Try.func52, Try.ntmps52
  go_wp2
  go_loopw [5] (fun i wr => ∃ k : Nat, i = .int .i64 k ∧ k ≤ n ∧ w = wr ∧ Hid (∀ j, j < k → ¬ l.getD j 0 = t)) (fun i _ => n - (intOf i).toNat)
  case atStart => exact ⟨0, rfl, Nat.zero_le _, rfl, Lib.hid (fun j hj => absurd hj (by omega))⟩
  case round =>
    obtain ⟨k, rfl, hk, rfl, HA⟩ := hrel
    by_cases hlt : k < n
    · obtain ⟨b, off, rfl, hb, hc⟩ := HR.out.int_at hlt
      obtain ⟨x, hx⟩ : ∃ x, x = l.getD k 0 := ⟨_, rfl⟩
      rw [← hx] at hc
      have HX := Lib.hid hx
      clear hx
      by_cases he : x = t
      · obtain rfl := HY.out k hlt (by rw [← HX.out]; exact he)
        have hb2 : (x == t) = true := by simpa using he
        clear he
        go_wp2
        go_ret
        exact ⟨rfl, rfl⟩
      · have HA2 := Lib.hid (show ∀ j, j < k + 1 → ¬ l.getD j 0 = t from fun j hj => by
          rcases (show j < k ∨ j = k by omega) with h | rfl
          · exact HA.out j h
          · rw [← HX.out]; exact he)
        have hb2 : (x == t) = false := by simpa using he
        clear he
        go_wp2
        go_roundw
        case rel => exact ⟨k + 1, by go_num, by omega, (by trivial), HA2⟩
        case measure => simp [intOf]; omega
    · obtain rfl := HNO.out (fun i hi => HA.out i (by omega))
      go_wp2
      go_ret
      exact ⟨rfl, rfl⟩

theorem rcheck2_any (A A' : Option Addr) (n c n' c' B : Nat) (l l' : List Int) (w : World) (h : Reads w B 1 A n (l.map (Value.int .i64))) (h' : Reads w B 1 A' n' (l'.map (Value.int .i64))) (hB : B ≤ w.heap.size) :
    Calls Try.prog 48 #[.slice (some ⟨w.heap.size, 0, none⟩) 2 2] (w.alloc (.cells #[.slice A n c, .slice A' n' c'] 25)) fun e w' => e = .returned (.int .i64 (chk [l, l'])) ∧ Fr No (w.alloc (.cells #[.slice A n c, .slice A' n' c'] 25)) w' :=
  rcheck_any w.heap.size 2 2 B [⟨A, n, c, l⟩, ⟨A', n', c', l'⟩] _ (by omega) rfl (fun i hi => by
    rcases (show i = 0 ∨ i = 1 by omega) with rfl | rfl
    · exact ⟨(Blk.new w 25 #[.slice A n c, .slice A' n' c']).cell 0, h.alloc hB _⟩
    · exact ⟨(Blk.new w 25 #[.slice A n c, .slice A' n' c']).cell 1, h'.alloc hB _⟩)

set_option maxRecDepth 100000 in
set_option maxHeartbeats 8000000 in
theorem ronly_any (A A' : Option Addr) (n c n' c' : Nat) (la lb : List Int) (w : World) (h : Reads w w.heap.size 1 A n (la.map (Value.int .i64))) (h' : Reads w w.heap.size 1 A' n' (lb.map (Value.int .i64))) :
    Calls Try.prog 36 #[.slice A n c, .slice A' n' c'] w fun e w' => Onlied w (only1 la lb) (only2 la lb) (chk [la, lb]) e w' := by
  have HC := Lib.hid (rcheck2_any A A' n c n' c' w.heap.size la lb w h h' (Nat.le_refl _))
  have HF := Lib.hid ((Fr.refl No w).alloc (.cells #[.slice A n c, .slice A' n' c'] 25))
  obtain ⟨i0, hi, hz0, hz1, hz2⟩ : ∃ i, Try.prog.info? 2 = some i ∧ i.zero = some (.int .i64 0) ∧ i.size = 1 ∧ i.bytes = 8 := ⟨_, rfl, rfl, rfl, rfl⟩
  by_cases hk : chk [la, lb] = 0
  · have hM : only1 la lb = sel la lb := by unfold only1; rw [if_pos hk]; exact only1_sel (chk_ok hk la (by simp)) (chk_ok hk lb (by simp))
    have hM2 : only2 la lb = sel lb la := by unfold only2; rw [if_pos hk]; exact only2_sel (chk_ok hk la (by simp)) (chk_ok hk lb (by simp))
    rw [hM, hM2]
    have hn : n ≤ 100000 := by have := (chk_ok hk la (by simp)).len; have := h.length_ints; omega
    have hn' : n' ≤ 100000 := by have := (chk_ok hk lb (by simp)).len; have := h'.length_ints; omega
    have HN := Lib.hid h.length_ints
    have HN' := Lib.hid h'.length_ints
    have HRA := Lib.hid h
    have HRB := Lib.hid h'
    rw [hk] at HC
    have HK := Lib.hid hk
    clear hk hM hM2 h h'
    go_enter Try.func36, Try.ntmps36
    go_wp2_with (go_at_call 48; refine HC.out.mono ?_; rintro e w1 ⟨rfl, hf⟩)
    have HF1 := Lib.hid (HF.out.then0 hf)
    clear hf HF HC
    go_loopw [8, 10] (fun lv i wr => ∃ (k : Nat) (A2 : Option Addr) (q m : Nat), i = .int .i64 k ∧ k ≤ n ∧ lv = .slice A2 m q ∧ Hid (m = (sel (la.take k) lb).length) ∧ wr.ownsRow w.heap.size 2 1 (.slice A2 m q) m (cells .i64 (sel (la.take k) lb)) ∧ Fr No w wr) (fun _ i _ => n - (intOf i).toNat)
    case atStart => exact ⟨0, none, 0, 0, rfl, Nat.zero_le _, rfl, Lib.hid rfl, own_nil _ _ _ _, HF1.out⟩
    case round =>
      clear HF1
      obtain ⟨k, A2, q, m, rfl, hk, rfl, HM, ho, hf⟩ := hrel
      have HO := Lib.hid ho
      have HFF := Lib.hid hf
      clear ho hf
      by_cases hlt : k < n
      · obtain ⟨b, off, rfl, hb, hc0⟩ := HRA.out.int_at (k := k) hlt
        have hc1 := (HFF.out.cell (p := ⟨b, off + k, none⟩) hb (fun x => x)).trans hc0
        have HSS := Lib.hid (sel_succ lb (show k < la.length by rw [HN.out]; exact hlt))
        have hl1 : (k : Int) < (n : Int) := by omega
        have HHAS := Lib.hid (rhas_any A' n' c' _ lb (la.getD k 0) wr (by omega) (HRB.out.fr HFF.out (Nat.le_refl _) (fun _ _ x => x)))
        have hml : m ≤ 100000 := by
          have h1 := HM.out
          have h2 := sel_len (la.take k) lb
          have h3 := List.length_take_le k la
          omega
        clear hc0
        generalize la.getD k 0 = x at *
        by_cases hm : x ∈ lb
        · rw [decide_eq_true hm] at HHAS
          rw [if_pos hm] at HSS
          go_wp2_with (go_at_call 52; refine HHAS.out.mono ?_; rintro e w1 ⟨rfl, rfl⟩)
          go_roundw
          case rel => exact ⟨k + 1, A2, q, m, by go_num, by omega, rfl, Lib.hid (by rw [HSS.out]; exact HM.out), by rw [HSS.out]; exact HO.out, HFF.out⟩
          case measure => simp [intOf]; omega
        · rw [decide_eq_false hm] at HHAS
          rw [if_neg hm] at HSS
          have FA : Fr No wr (wr.alloc (.cells #[.int .i64 x] 2)) := (Fr.refl No wr).alloc _
          have NEW : Blk (wr.alloc (.cells #[.int .i64 x] 2)) wr.heap.size 2 #[.int .i64 x] := Blk.new wr 2 _
          have HNR := Lib.hid (show Reads (wr.alloc (.cells #[.int .i64 x] 2)) (wr.heap.size + 1) 1 (some ⟨wr.heap.size, 0, none⟩) 1 [.int .i64 x] from ⟨rfl, fun _ => ⟨_, rfl, Nat.lt_succ_self _, fun j u hu => by rw [add_plain, Nat.zero_add, NEW.cell, List.getElem?_toArray, ← hu]⟩⟩)
          have ON := Lib.hid (own_fr HO.out FA (fun _ _ x => x))
          have HB0 := Lib.hid (show m + 1 ≤ maxLen by unfold maxLen; omega)
          have HB1 := Lib.hid (show (m + 1) * 8 ≤ 140737488355328 by omega)
          have HBS := Lib.hid (Nat.le_trans HFF.out.size FA.size)
          have HFA := Lib.hid FA
          have H1C : Hid (∀ v ∈ ([.int .i64 x] : List Value), v.oneCell' = true) := Lib.hid (fun v hv => by simp at hv; subst hv; rfl)
          clear FA NEW
          go_wp2_with (first
            | (go_at_call 52; refine HHAS.out.mono ?_; rintro e w1 ⟨rfl, rfl⟩)
            | (at_builtin; refine wpList_append_any (wr.alloc (.cells #[.int .i64 x] 2)) rfl (.tmp 32) (.tmp 37) 25 rfl w.heap.size 2 i0 (.int .i64 0) 1 8 Try.underlying25 hi hz0 hz1 hz2 rfl (by omega) (.slice A2 m q) m (cells .i64 (sel (la.take k) lb)) rfl ON.out _ (some ⟨wr.heap.size, 0, none⟩) 1 1 [.int .i64 x] rfl HNR.out H1C.out HB0.out HB1.out HBS.out ?_; intro v' w3 ho3 hg3 hl3; obtain ⟨A5, q5, rfl⟩ := own_form' ho3; have HO3 := Lib.hid ho3; have HF3 := Lib.hid ((HFF.out.then0 HFA.out).ownS (Fr.of_grown (S := fun k' => (Value.slice A2 m q).ownBlock = some k') hg3 (fun _ hk => hk)) (fun _ hk => (HO.out.lt _ hk).1)); clear ho3 hg3 hl3))
          go_roundw
          case rel => exact ⟨k + 1, A5, q5, m + 1, by go_num, by omega, rfl, Lib.hid (by rw [HSS.out, List.length_append, ← HM.out]; rfl), by rw [HSS.out, cells_snoc]; exact HO3.out, HF3.out⟩
          case measure => simp [intOf]; omega
      · have HM2 := Lib.hid (show m = (sel la lb).length from by have := HM.out; rwa [List.take_of_length_le (by rw [HN.out]; omega)] at this)
        have HO2 := Lib.hid (show wr.ownsRow w.heap.size 2 1 (.slice A2 m q) m (cells .i64 (sel la lb)) from by have := HO.out; rwa [List.take_of_length_le (by rw [HN.out]; omega)] at this)
        clear HO HM
        have HFF1 := HFF
        clear HFF
        obtain ⟨wo, rfl⟩ : ∃ wo : World, wo = wr := ⟨_, rfl⟩
        go_wp2
        go_loopw [9, 11] (fun lv i wr2 => ∃ (k : Nat) (A2 : Option Addr) (q m : Nat), i = .int .i64 k ∧ k ≤ n' ∧ lv = .slice A2 m q ∧ Hid (m = (sel (lb.take k) la).length) ∧ wr2.ownsRow wo.heap.size 2 1 (.slice A2 m q) m (cells .i64 (sel (lb.take k) la)) ∧ Fr No wo wr2) (fun _ i _ => n' - (intOf i).toNat)
        case atStart => exact ⟨0, none, 0, 0, rfl, Nat.zero_le _, rfl, Lib.hid rfl, own_nil _ _ _ _, Fr.refl _ _⟩
        case round =>
          obtain ⟨k, A3, q3, m3, rfl, hk, rfl, HM3, ho, hf⟩ := hrel
          have HO := Lib.hid ho
          have HFF := Lib.hid hf
          clear ho hf
          by_cases hlt : k < n'
          · obtain ⟨b, off, rfl, hb, hc0⟩ := HRB.out.int_at (k := k) hlt
            have hc1 := ((HFF1.out.then0 HFF.out).cell (p := ⟨b, off + k, none⟩) hb (fun x => x)).trans hc0
            have HSS := Lib.hid (sel_succ la (show k < lb.length by rw [HN'.out]; exact hlt))
            have hl1 : (k : Int) < (n' : Int) := by omega
            have HHAS := Lib.hid (rhas_any A n c _ la (lb.getD k 0) wr (by omega) (HRA.out.fr (HFF1.out.then0 HFF.out) (Nat.le_refl _) (fun _ _ x => x)))
            have hml : m3 ≤ 100000 := by
              have h1 := HM3.out
              have h2 := sel_len (lb.take k) la
              have h3 := List.length_take_le k lb
              omega
            clear hc0
            generalize lb.getD k 0 = x at *
            by_cases hm : x ∈ la
            · rw [decide_eq_true hm] at HHAS
              rw [if_pos hm] at HSS
              go_wp2_with (go_at_call 52; refine HHAS.out.mono ?_; rintro e w1 ⟨rfl, rfl⟩)
              go_roundw
              case rel => exact ⟨k + 1, A3, q3, m3, by go_num, by omega, rfl, Lib.hid (by rw [HSS.out]; exact HM3.out), by rw [HSS.out]; exact HO.out, HFF.out⟩
              case measure => simp [intOf]; omega
            · rw [decide_eq_false hm] at HHAS
              rw [if_neg hm] at HSS
              have FA : Fr No wr (wr.alloc (.cells #[.int .i64 x] 2)) := (Fr.refl No wr).alloc _
              have NEW : Blk (wr.alloc (.cells #[.int .i64 x] 2)) wr.heap.size 2 #[.int .i64 x] := Blk.new wr 2 _
              have HNR := Lib.hid (show Reads (wr.alloc (.cells #[.int .i64 x] 2)) (wr.heap.size + 1) 1 (some ⟨wr.heap.size, 0, none⟩) 1 [.int .i64 x] from ⟨rfl, fun _ => ⟨_, rfl, Nat.lt_succ_self _, fun j u hu => by rw [add_plain, Nat.zero_add, NEW.cell, List.getElem?_toArray, ← hu]⟩⟩)
              have ON := Lib.hid (own_fr HO.out FA (fun _ _ x => x))
              have HB0 := Lib.hid (show m3 + 1 ≤ maxLen by unfold maxLen; omega)
              have HB1 := Lib.hid (show (m3 + 1) * 8 ≤ 140737488355328 by omega)
              have HBS := Lib.hid (Nat.le_trans HFF.out.size FA.size)
              have HFA := Lib.hid FA
              have H1C : Hid (∀ v ∈ ([.int .i64 x] : List Value), v.oneCell' = true) := Lib.hid (fun v hv => by simp at hv; subst hv; rfl)
              clear FA NEW
              go_wp2_with (first
                | (go_at_call 52; refine HHAS.out.mono ?_; rintro e w1 ⟨rfl, rfl⟩)
                | (at_builtin; refine wpList_append_any (wr.alloc (.cells #[.int .i64 x] 2)) rfl (.tmp 52) (.tmp 57) 25 rfl wo.heap.size 2 i0 (.int .i64 0) 1 8 Try.underlying25 hi hz0 hz1 hz2 rfl (by omega) (.slice A3 m3 q3) m3 (cells .i64 (sel (lb.take k) la)) rfl ON.out _ (some ⟨wr.heap.size, 0, none⟩) 1 1 [.int .i64 x] rfl HNR.out H1C.out HB0.out HB1.out HBS.out ?_; intro v' w3 ho3 hg3 hl3; obtain ⟨A5, q5, rfl⟩ := own_form' ho3; have HO3 := Lib.hid ho3; have HF3 := Lib.hid ((HFF.out.then0 HFA.out).ownS (Fr.of_grown (S := fun k' => (Value.slice A3 m3 q3).ownBlock = some k') hg3 (fun _ hk => hk)) (fun _ hk => (HO.out.lt _ hk).1)); clear ho3 hg3 hl3))
              go_roundw
              case rel => exact ⟨k + 1, A5, q5, m3 + 1, by go_num, by omega, rfl, Lib.hid (by rw [HSS.out, List.length_append, ← HM3.out]; rfl), by rw [HSS.out, cells_snoc]; exact HO3.out, HF3.out⟩
              case measure => simp [intOf]; omega
          · have HM4 := Lib.hid (show m3 = (sel lb la).length from by have := HM3.out; rwa [List.take_of_length_le (by rw [HN'.out]; omega)] at this)
            have HO4 := Lib.hid (show wr.ownsRow wo.heap.size 2 1 (.slice A3 m3 q3) m3 (cells .i64 (sel lb la)) from by have := HO.out; rwa [List.take_of_length_le (by rw [HN'.out]; omega)] at this)
            clear HO HM3
            go_wp2
            go_ret3
            rw [HK.out]
            have e1 := HM2.out
            have e2 := HM4.out
            have o1 := own_fr HO2.out HFF.out (fun _ _ x => x)
            have o2 := own_base HO4.out HFF1.out.size
            subst e1
            subst e2
            exact ⟨A2, q, A3, q3, rfl, o1, o2, HFF1.out.then0 HFF.out⟩
  · have HM := Lib.hid (show only1 la lb = [] by unfold only1; rw [if_neg hk])
    have HM2 := Lib.hid (show only2 la lb = [] by unfold only2; rw [if_neg hk])
    have hkb : (chk [la, lb] == 0) = false := by simpa using hk
    have hkn : (chk [la, lb] != 0) = true := by simpa using hk
    generalize hkk : chk [la, lb] = k at *
    clear h h'
    go_enter Try.func36, Try.ntmps36
    go_wp2_with (go_at_call 48; refine HC.out.mono ?_; rintro e w1 ⟨rfl, hf⟩)
    go_ret3
    rw [HM.out, HM2.out]
    exact ⟨none, 0, none, 0, rfl, own_nil _ _ _ _, own_nil _ _ _ _, HF.out.then0 hf⟩
end Go.Proofs.Ytclhdhgagjpicaa
