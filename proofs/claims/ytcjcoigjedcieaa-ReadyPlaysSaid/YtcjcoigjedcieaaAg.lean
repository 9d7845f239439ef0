/- ReadyAgain: the walk. -/
import Derived.Test.YtcjcoigjedcieaaF
namespace Go.Proofs.Ytcjcoigjedcieaa
open Go.RowKit Go.Wk

theorem push_no {s : QS} {x p u : Int} (h : pushE s x p u ≠ 0) : pushS s x p u = s := by unfold pushS; rw [if_neg h]
theorem remE_none {s : QS} {x : Int} (h : hasB s x = false) : remE s x = 5 := by unfold remE; rw [h]; rfl
theorem remE_some {s : QS} {x : Int} (h : hasB s x = true) : remE s x = 0 := by unfold remE; rw [h]; rfl
theorem fillK_has {size ag : Int} {xs : List On} {k i : Nat} (hi : i < k) : hasB (fillK size ag xs k) i = true := by
  have : itemK xs i ∈ (fillK size ag xs k).l := (fillK_mem k).2 ⟨i, hi, rfl⟩
  exact hasB_of this
theorem fillK_not {size ag : Int} {xs : List On} {k : Nat} {y : Int} (hy : ∀ i : Nat, i < k → (i : Int) ≠ y) : hasB (fillK size ag xs k) y = false := by
  unfold hasB; rw [fillK_new k hy]; rfl
theorem rem_has {s : QS} {x : Int} : hasB (remS s x) x = false := by
  unfold hasB remS
  rw [byId_rem, if_pos rfl]; rfl

/-- What is left when one is removed and added again. -/
def againS (xs : List On) (m k : Nat) (h : Int) : QS := (remS (fillK 51 60 xs m) k).add k h 7
theorem again_mem {xs : List On} {m k : Nat} {h : Int} {e : IV} (he : e ∈ (againS xs m k h).l) : (0 ≤ e.id ∧ e.id < max m (k + 1)) ∧ (e.id ≠ k → e.seq = e.id + 1) ∧ (e.id = k → e.seq = m + 1 ∧ e.since = 7) := by
  rcases insQ_mem.1 he with rfl | he
  · refine ⟨by dsimp only; omega, fun h => absurd rfl h, fun _ => ⟨?_, rfl⟩⟩
    show (fillK 51 60 xs m).added + 1 = _
    rw [(fillK_ag m).2.2]
  · have h1 : e ∈ remL (fillK 51 60 xs m).l k := he
    unfold remL at h1
    rw [List.mem_filter] at h1
    have hne : e.id ≠ k := by simpa using h1.2
    obtain ⟨i, hi, rfl⟩ := (fillK_mem m).1 h1.1
    exact ⟨⟨by show (0 : Int) ≤ i; omega, by show (i : Int) < _; omega⟩, fun _ => rfl, fun h => absurd h hne⟩
theorem again_facts {xs : List On} {m k : Nat} {h : Int} (hx : ∀ i, i < xs.length → (xs.getD i On.zero).Ok) (hm : m ≤ xs.length) (hm50 : m ≤ 50) (hk : k < m) (hh : 0 ≤ h ∧ h ≤ 100) :
    pushE (remS (fillK 51 60 xs m) k) k h 7 = 0 ∧ pushS (remS (fillK 51 60 xs m) k) k h 7 = againS xs m k h ∧ (againS xs m k h).l.length = m := by
  have hok := fillK_ok (size := 51) (ag := 60) (by omega) (by omega) hx m hm (by omega)
  have hl := fillK_len (size := 51) (ag := 60) (xs := xs) m
  obtain ⟨i, hi, hid⟩ := hasB_at (fillK_has (size := 51) (ag := 60) (xs := xs) hk)
  have hrl : (remS (fillK 51 60 xs m) k).l.length = m - 1 := by
    rw [← hid, remS_at hok hi, cut_len _ hi, hl]; omega
  have hs : (remS (fillK 51 60 xs m) k).size = 51 := (fillK_ag m).2.1
  have hE : pushE (remS (fillK 51 60 xs m) k) k h 7 = 0 := by
    unfold pushE
    rw [if_neg (by omega), if_neg (by omega), rem_has, if_neg (by simp), if_neg (by rw [hs, hrl]; omega)]
  refine ⟨hE, by unfold pushS; rw [if_pos hE]; rfl, ?_⟩
  show (insQ _ _ _).length = m
  rw [insQ_len, hrl]; omega

set_option maxRecDepth 100000 in
set_option maxHeartbeats 8000000 in
theorem readyAgain_walk (A : Option Addr) (n c : Nat) (es : List (List Int)) (a0 a1 : Int) (w : World) (h : RowF kOne 8 w A n c es) (ha0 : 0 ≤ a0 ∧ a0 ≤ 255) (ha1 : 0 ≤ a1 ∧ a1 ≤ 255) :
    Calls Try.prog 5 #[.slice A n c, .int .u8 a0, .int .u8 a1] w fun e w' => e = .returned (.bool true) ∧ Fr No w w' := by
  obtain ⟨m, hm⟩ : ∃ m, m = min n 50 := ⟨_, rfl⟩
  have HR := h.cut (m := m) (by omega)
  have hel := h.2.2.2.1
  have HX := Lib.hid (show ∀ i, i < (ones (es.take m)).length → ((ones (es.take m)).getD i On.zero).Ok from fun i hi => ones_ok HR (by rw [ones_len, HR.2.2.2.1] at hi; exact hi))
  have HL := Lib.hid (show (ones (es.take m)).length = m by rw [ones_len]; exact HR.2.2.2.1)
  have hmin : min (n : Int) 50 = (m : Int) := by omega
  have hm50 : m ≤ 50 := by omega
  have hmc : m ≤ c := HR.1
  have hmn : m ≤ n := by omega
  have hc1 := h.1
  have hc2 := h.2.1
  have HF := Lib.hid (filled_any A m c 51 60 (es.take m) w HR (by omega) (by omega))
  rw [show ((51 : Nat) : Int) = 51 from rfl, show min m 51 = m by omega] at HF
  generalize ones (es.take m) = xs at *
  have HOK := Lib.hid (fillK_ok (size := 51) (ag := 60) (by omega) (by omega) HX.out m (by rw [HL.out]; exact Nat.le_refl _) (by omega))
  have hadd := (fillK_ag (size := 51) (ag := 60) (xs := xs) m).2.2
  have hE1 : pushE (fillK 51 60 xs m) 0 101 0 = 2 := rfl
  have hE2 : pushE (fillK 51 60 xs m) (-1) (-1) (-1) = 2 := rfl
  have hE3 : pushE (fillK 51 60 xs m) (-1) 5 (-1) = 14 := rfl
  have hE4 : pushE (fillK 51 60 xs m) (-1) 5 253402300800 = 14 := rfl
  have hN : hasB (fillK 51 60 xs m) m = false := fillK_not (fun i hi => by omega)
  have A1 := Lib.hid (fun D b X h => Push_at b D (fillK 51 60 xs m) X h 0 101 0 (fits_small (by omega)) (by rw [hadd]; omega))
  have A2 := Lib.hid (fun D b X h => Push_at b D (fillK 51 60 xs m) X h (-1) (-1) (-1) (fits_small (by omega)) (by rw [hadd]; omega))
  have A3 := Lib.hid (fun D b X h => Push_at b D (fillK 51 60 xs m) X h (-1) 5 (-1) (fits_small (by omega)) (by rw [hadd]; omega))
  have A4 := Lib.hid (fun D b X h => Push_at b D (fillK 51 60 xs m) X h (-1) 5 253402300800 (fits_small (by omega)) (by rw [hadd]; omega))
  have A5 := Lib.hid (fun D b X h => Remove_at b D (fillK 51 60 xs m) X h (m : Int) (fits_small (by omega)))
  rw [push_no (by rw [hE1]; decide), hE1] at A1
  rw [push_no (by rw [hE2]; decide), hE2] at A2
  rw [push_no (by rw [hE3]; decide), hE3] at A3
  rw [push_no (by rw [hE4]; decide), hE4] at A4
  rw [remS_none hN, remE_none hN] at A5
  obtain ⟨g, hg⟩ : ∃ g, g = a1 % 101 := ⟨_, rfl⟩
  have hgb : 0 ≤ g ∧ g ≤ 100 := by omega
  have hgg : a1 % 101 = g := hg.symm
  have ha00 := ha0.1
  have ha01 := ha0.2
  have ha10 := ha1.1
  have ha11 := ha1.2
  have HM := Lib.hid hm
  clear h HR hel hm hE1 hE2 hE3 hE4 hN hg ha0 ha1 hadd
  go_enter Try.func5, Try.ntmps5
  go_wp2_with fail
  refine HF.out.mono ?_
  rintro e w1 ⟨b, D, rfl, M⟩
  replace M := Lib.hid M
  clear hmin
  go_wp2_with fail
  refine (A1.out D b _ M.out.at_).mono ?_
  rintro e w2 ⟨rfl, ht⟩
  obtain ⟨D2, M2, _, _⟩ := M.out.next ht
  replace M := Lib.hid M2
  clear ht M2
  go_wp2_with fail
  refine (A2.out D2 b _ M.out.at_).mono ?_
  rintro e w3 ⟨rfl, ht⟩
  obtain ⟨D3, M2, _, _⟩ := M.out.next ht
  replace M := Lib.hid M2
  clear ht M2
  go_wp2_with fail
  refine (A3.out D3 b _ M.out.at_).mono ?_
  rintro e w4 ⟨rfl, ht⟩
  obtain ⟨D4, M2, _, _⟩ := M.out.next ht
  replace M := Lib.hid M2
  clear ht M2
  go_wp2_with fail
  refine (A4.out D4 b _ M.out.at_).mono ?_
  rintro e w5 ⟨rfl, ht⟩
  obtain ⟨D5, M2, _, _⟩ := M.out.next ht
  replace M := Lib.hid M2
  clear ht M2
  go_wp2_with fail
  refine (A5.out D5 b _ M.out.at_).mono ?_
  rintro e w6 ⟨rfl, ht⟩
  obtain ⟨D6, M2, _, _⟩ := M.out.next ht
  replace M := Lib.hid M2
  clear ht M2 A1 A2 A3 A4 A5
  by_cases h0 : m = 0
  · subst h0
    have A6 := Lib.hid (fun D b X h => Push_at b D (fillK 51 60 xs 0) X h 0 100 253402300799 (fits_small (by omega)) (by show (0 : Int) + 1 ≤ 1000000; omega))
    rw [show pushE (fillK 51 60 xs 0) 0 100 253402300799 = 0 from by show pushE (QS.new 51 60) 0 100 253402300799 = 0; decide, show pushS (fillK 51 60 xs 0) 0 100 253402300799 = ⟨[⟨0, 100, 253402300799, 1⟩], 51, 60, 1⟩ from by show pushS (QS.new 51 60) 0 100 253402300799 = _; decide] at A6
    go_wp2_with fail
    refine (A6.out D6 b _ M.out.at_).mono ?_
    rintro e w7 ⟨rfl, ht⟩
    obtain ⟨D7, M2, _, _⟩ := M.out.next ht
    replace M := Lib.hid M2
    clear ht M2
    go_wp2_with fail
    refine (Items_at b D7 _ _ M.out.at_).mono ?_
    rintro e w8 ⟨G, gc, rfl, ho, hgc, hf⟩
    have F8 := Lib.hid (M.out.fr.then0 hf)
    obtain ⟨g1, q, he, _⟩ := own_some ho (by decide)
    cases he
    obtain ⟨g', off, he, _, _, c0, c1, c2, c3⟩ := reads_item (Reads.of_own ho) (i := 0) (by decide)
    cases he
    simp only [Nat.zero_mul, Nat.zero_add, Nat.add_zero, List.getD_cons_zero] at c3
    simp only [List.length_cons, List.length_nil] at hgc ⊢
    clear ho hf c0 c1 c2
    go_wp2_with fail
    refine (works_any _).mono ?_
    rintro e w9 ⟨rfl, hf⟩
    have F9 := Lib.hid (F8.out.then0 hf)
    clear hf
    go_wp2
    go_ret
    exact ⟨rfl, F9.out⟩
  · have hmp : 0 < (m : Int) := by omega
    obtain ⟨k, hk⟩ : ∃ k : Nat, a0 % (m : Int) = (k : Int) := ⟨(a0 % (m : Int)).toNat, by have := Int.emod_nonneg a0 (show (m : Int) ≠ 0 by omega); omega⟩
    have hkm : k < m := by have := Int.emod_lt_of_pos a0 hmp; omega
    have hmb : ((m : Int) == 0) = false := by simp; omega
    obtain ⟨f1, f2, f3⟩ := again_facts (h := g) HX.out (by rw [HL.out]; exact Nat.le_refl _) hm50 hkm hgb
    have hB : hasB (fillK 51 60 xs m) k = true := fillK_has hkm
    have hE : pushE (fillK 51 60 xs m) k 5 5 = 6 := by
      unfold pushE
      rw [if_neg (by omega), if_neg (by omega), hB, if_pos rfl]
    have hadd := (fillK_ag (size := 51) (ag := 60) (xs := xs) m).2.2
    have A1 := Lib.hid (fun D b X h => Push_at b D (fillK 51 60 xs m) X h k 5 5 (fits_small (by omega)) (by rw [hadd]; omega))
    rw [push_no (by rw [hE]; decide), hE] at A1
    have A2 := Lib.hid (fun D b X h => Remove_at b D (fillK 51 60 xs m) X h k (fits_small (by omega)))
    rw [remE_some hB] at A2
    have A3 := Lib.hid (fun D b X h => Has_at b D (remS (fillK 51 60 xs m) k) X h k (fits_small (by omega)))
    rw [rem_has] at A3
    have A4 := Lib.hid (fun D b X h => Remove_at b D (remS (fillK 51 60 xs m) k) X h k (fits_small (by omega)))
    rw [remE_none rem_has, remS_none rem_has] at A4
    have A5 := Lib.hid (fun D b X h => Push_at b D (remS (fillK 51 60 xs m) k) X h k g 7 (fits_small (by omega)) (by show (fillK 51 60 xs m).added + 1 ≤ _; rw [hadd]; omega))
    rw [f1, f2] at A5
    have HMEM := Lib.hid (fun (e : IV) he => again_mem (xs := xs) (m := m) (k := k) (h := g) (e := e) he)
    generalize remS (fillK 51 60 xs m) k = s1 at *
    generalize againS xs m k g = s2 at *
    have HF3 := Lib.hid f3
    clear f1 f2 f3 hB hE hadd h0
    go_wp2_with fail
    refine (A1.out D6 b _ M.out.at_).mono ?_
    rintro e w7 ⟨rfl, ht⟩
    obtain ⟨D7, M2, _, _⟩ := M.out.next ht
    replace M := Lib.hid M2
    clear ht M2
    go_wp2_with fail
    refine (A2.out D7 b _ M.out.at_).mono ?_
    rintro e w8 ⟨rfl, ht⟩
    obtain ⟨D8, M2, _, _⟩ := M.out.next ht
    have MB := Lib.hid M2
    clear ht M2 M
    go_wp2_with fail
    refine (A3.out D8 b _ MB.out.at_).mono ?_
    rintro e w9 ⟨rfl, hf⟩
    replace MB := Lib.hid (MB.out.fr0 hf)
    clear hf
    go_wp2_with fail
    refine (A4.out D8 b _ MB.out.at_).mono ?_
    rintro e w10 ⟨rfl, ht⟩
    obtain ⟨D10, M2, _, _⟩ := MB.out.next ht
    replace MB := Lib.hid M2
    clear ht M2
    go_wp2_with fail
    refine (A5.out D10 b _ MB.out.at_).mono ?_
    rintro e w11 ⟨rfl, ht⟩
    obtain ⟨D11, M2, _, _⟩ := MB.out.next ht
    have M := Lib.hid M2
    clear ht M2 MB
    go_wp2_with fail
    refine (Items_at b D11 _ _ M.out.at_).mono ?_
    rintro e w12 ⟨G, gc, rfl, ho, hgc, hf⟩
    replace M := Lib.hid (M.out.fr0 hf)
    have HO := Lib.hid (Reads.of_own ho)
    rw [HF3.out] at HO hgc ⊢
    clear ho hf hk A1 A2 A3 A4 A5 hgg
    go_wp2
    go_loopw [110] (fun i wr => ∃ j : Nat, i = .int .i64 j ∧ j ≤ m ∧ Hid (Fr No w12 wr)) (fun i _ => m - (intOf i).toNat)
    case atStart => exact ⟨0, rfl, Nat.zero_le _, Lib.hid (Fr.refl _ _)⟩
    case round =>
      obtain ⟨j, rfl, hj, HFR⟩ := hrel
      by_cases hlt : j < m
      · obtain ⟨g1, off, rfl, hg1, hll, d0, d1, d2, d3⟩ := reads_item (HO.out.fr0 HFR.out) hlt
        obtain ⟨⟨i1, i2⟩, i3, i4⟩ := HMEM.out _ (getD_mem' (show j < s2.l.length by rw [HF3.out]; exact hlt))
        have F4 := Lib.hid (HFR.out.alloc (.cells #[.int .i64 (s2.l.getD j IV.zero).id, .int .i64 (s2.l.getD j IV.zero).pr, .int .i64 (s2.l.getD j IV.zero).since, .int .i64 (s2.l.getD j IV.zero).seq] 31))
        generalize s2.l.getD j IV.zero = x at *
        have hlt2 : (j : Int) < (m : Int) := by omega
        have i5 : x.id ≤ 50 := by omega
        by_cases hxk : x.id = k
        · obtain ⟨e1, e2⟩ := i4 hxk
          have hb1 : (x.id != (k : Int)) = false := by simpa using hxk
          have hb2 : (x.id == (k : Int)) = true := by simpa using hxk
          have hb3 : (x.seq != (m : Int) + 1) = false := by simpa using e1
          have hb4 : (x.since != 7) = false := by simpa using e2
          clear i1 i2 i3 i4 hxk e1 e2 hll
          go_wp2
          go_roundw
          case rel => exact ⟨j + 1, by go_num, by omega, F4⟩
          case measure => simp [intOf]; omega
        · have e1 := i3 hxk
          have hb1 : (x.id != (k : Int)) = true := by simpa using hxk
          have hb2 : (x.id == (k : Int)) = false := by simpa using hxk
          have hb3 : (x.seq != x.id + 1) = false := by simpa using e1
          clear i3 i4 hxk e1 hll
          go_wp2
          go_roundw
          case rel => exact ⟨j + 1, by go_num, by omega, F4⟩
          case measure => simp [intOf]; omega
      · have hjm : j = m := by omega
        have HLN := Lib.hid (Len_at b D11 s2 wr (M.out.fr0 HFR.out).at_)
        rw [HF3.out] at HLN
        clear hjm
        go_wp2_with fail
        refine HLN.out.mono ?_
        rintro e w13 ⟨rfl, rfl⟩
        go_wp2_with fail
        refine (works_any _).mono ?_
        rintro e w14 ⟨rfl, hf⟩
        have F9 := Lib.hid ((M.out.fr0 HFR.out).fr.then0 hf)
        clear hf
        go_wp2
        go_ret
        exact ⟨rfl, F9.out⟩
end Go.Proofs.Ytcjcoigjedcieaa
