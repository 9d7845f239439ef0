/- same; works is true. -/
import Derived.Test.YtgkpmckbdagkcaaN
namespace Go.Proofs.Ytgkpmckbdagkcaa
open Go.RowKit Go.Wk

theorem same_any (A A' : Option Addr) (n c n' c' : Nat) (l l' : List Int) (w : World) (h : Reads w w.heap.size 1 A n (l.map (Value.int .i64))) (h' : Reads w w.heap.size 1 A' n' (l'.map (Value.int .i64))) (hm : n ≤ 9223372036854775807) :
    Calls Try.prog 22 #[.slice A n c, .slice A' n' c'] w fun e w' => e = .returned (.bool (decide (l = l'))) ∧ ∃ q, w' = w.drewN q := by
  have HR := Lib.hid h
  have HR' := Lib.hid h'
  have HL := Lib.hid h.length_ints
  have HL' := Lib.hid h'.length_ints
  clear h h'
  by_cases hn : n = n'
  · subst hn
    have hnb : ((n : Int) != (n : Int)) = false := by simp
    have HEX := Lib.hid (show ∀ k, k < n → l.getD k 0 ≠ l'.getD k 0 → decide (l = l') = false from fun k _ hne => by
      simp only [decide_eq_false_iff_not]
      rintro rfl
      exact hne rfl)
    have HAL := Lib.hid (show (∀ k, k < n → l.getD k 0 = l'.getD k 0) → decide (l = l') = true from fun hk => by
      simp only [decide_eq_true_eq]
      apply List.ext_getElem (by rw [HL.out, HL'.out])
      intro k h1 h2
      have := hk k (by rw [← HL.out]; exact h1)
      simpa [h1, h2] using this)
    generalize decide (l = l') = r at *
    go_enter Try.func22, Try.ntmps22
    go_wp2
    go_loopw [5] (fun i wr => ∃ k q : Nat, i = .int .i64 k ∧ k ≤ n ∧ wr = w.drewN q ∧ Hid (∀ j, j < k → l.getD j 0 = l'.getD j 0)) (fun i _ => n - (intOf i).toNat)
    case atStart => exact ⟨0, 0, rfl, Nat.zero_le _, rfl, Lib.hid (fun j hj => by omega)⟩
    case round =>
      obtain ⟨k, q, rfl, hk, rfl, HK⟩ := hrel
      by_cases hlt : k < n
      · obtain ⟨g, off, rfl, _, a0⟩ := HR.out.int_at hlt
        obtain ⟨g', off', rfl, _, b0⟩ := HR'.out.int_at hlt
        have hlt2 : (k : Int) < (n : Int) := by omega
        obtain ⟨x, hx⟩ : ∃ x, x = l.getD k 0 := ⟨_, rfl⟩
        obtain ⟨y, hy⟩ : ∃ y, y = l'.getD k 0 := ⟨_, rfl⟩
        rw [← hx] at a0
        rw [← hy] at b0
        have HX := Lib.hid hx
        have HY := Lib.hid hy
        clear hx hy
        by_cases hxy : x = y
        · have hb : (x != y) = false := by simpa using hxy
          have HK2 := Lib.hid (show ∀ j, j < k + 1 → l.getD j 0 = l'.getD j 0 from fun j hj => by
            by_cases e : j = k
            · rw [e, ← HX.out, ← HY.out]; exact hxy
            · exact HK.out j (by omega))
          clear hxy
          go_wp2
          go_quiet (fail)
          go_wp2
          go_roundw
          case rel => exact ⟨k + 1, q + nq, by go_num, by omega, rfl, HK2⟩
          case measure => simp [intOf]; omega
        · have hb : (x != y) = true := by simpa using hxy
          obtain rfl := HEX.out k hlt (by rw [← HX.out, ← HY.out]; exact hxy)
          clear hxy
          go_wp2
          go_quiet (fail)
          go_wp2
          go_ret
          exact ⟨rfl, q + nq, by first | rfl | rw [World.drewN_drewN]⟩
      · obtain rfl := HAL.out (fun j hj => HK.out j (by omega))
        go_wp2
        go_ret
        exact ⟨rfl, q, rfl⟩
  · have hnb : ((n : Int) != (n' : Int)) = true := by simp; omega
    have HE := Lib.hid (show decide (l = l') = false from by
      simp only [decide_eq_false_iff_not]
      rintro rfl
      exact hn (HL.out.symm.trans HL'.out))
    clear hn
    go_enter Try.func22, Try.ntmps22
    go_wp2
    go_ret
    exact ⟨ret1b HE.out.symm, 0, rfl⟩

def wk1 : LS := ⟨[⟨7, 20, 1⟩], 1⟩
def wk2 : LS := ⟨[⟨3, 10, 2⟩, ⟨7, 20, 1⟩], 2⟩
def wk3 : LS := ⟨[⟨3, 10, 2⟩, ⟨7, 20, 1⟩, ⟨9, 20, 3⟩], 3⟩
def wk4 : LS := ⟨[⟨7, 20, 1⟩, ⟨9, 20, 3⟩], 3⟩
theorem fits_lit (x : Int) (h : -9223372036854775808 ≤ x ∧ x ≤ 9223372036854775807) : fits x := h
theorem wk_facts : addE LS.new 7 20 = 0 ∧ addS LS.new 7 20 = wk1 ∧ addE wk1 3 10 = 0 ∧ addS wk1 3 10 = wk2 ∧ addE wk2 9 20 = 0 ∧ addS wk2 9 20 = wk3 ∧ addE wk3 3 5 = 6 ∧ addS wk3 3 5 = wk3 ∧ addE wk3 1 (-1) = 2 ∧ addS wk3 1 (-1) = wk3 ∧
    nextV wk3 = 10 ∧ nextB wk3 = true ∧ getV wk3 9 = 20 ∧ getB wk3 9 = true ∧ ids wk3.l = [3, 7, 9] ∧ pastN wk3 10 = 0 ∧ pastS wk3 10 = wk3 ∧ pastN wk3 11 = 1 ∧ pastG wk3 11 = [3] ∧ pastS wk3 11 = wk4 ∧ remE wk4 3 = 5 :=
  ⟨rfl, rfl, rfl, rfl, rfl, rfl, rfl, rfl, rfl, rfl, rfl, rfl, rfl, rfl, rfl, rfl, rfl, rfl, rfl, rfl, rfl⟩

/-- A slice of numbers that a call lays. -/
theorem reads_lay (w : World) (l : List Int) (n : Nat) (hn : l.length = n) : Reads (w.alloc (.cells (cells .i64 l).toArray 3)) (w.alloc (.cells (cells .i64 l).toArray 3)).heap.size 1 (some ⟨w.heap.size, 0, none⟩) n (l.map (Value.int .i64)) :=
  reads_blk w 3 (cells .i64 l) n 1 (by simp [cells, hn])

set_option maxRecDepth 100000 in
set_option maxHeartbeats 4000000 in
theorem works_any (w : World) : Calls Try.prog 12 #[] w fun e w' => e = .returned (.bool true) ∧ Fr No w w' := by
  obtain ⟨e1, t1, e2, t2, e3, t3, e4, t4, e5, t5, n1, n2, g1, g2, i1, p1, p2, q1, q2, q3, r1⟩ := wk_facts
  have A1 := Lib.hid (fun X b D h => Add_at b D LS.new 7 20 (by unfold fits; omega) (by decide) X h)
  have A2 := Lib.hid (fun X b D h => Add_at b D wk1 3 10 (by unfold fits; omega) (by decide) X h)
  have A3 := Lib.hid (fun X b D h => Add_at b D wk2 9 20 (by unfold fits; omega) (by decide) X h)
  have A4 := Lib.hid (fun X b D h => Add_at b D wk3 3 5 (by unfold fits; omega) (by decide) X h)
  have A5 := Lib.hid (fun X b D h => Add_at b D wk3 1 (-1) (by unfold fits; omega) (by decide) X h)
  have A6 := Lib.hid (fun X b D h => Next_at b D wk3 X h)
  have A7 := Lib.hid (fun X b D h => Get_at b D wk3 9 (by unfold fits; omega) X h)
  have A8 := Lib.hid (fun X b D h => Ids_at b D wk3 X h)
  have A9 := Lib.hid (fun X b D h => Past_at b D wk3 10 X h)
  have A10 := Lib.hid (fun X b D h => Past_at b D wk3 11 X h)
  have A11 := Lib.hid (fun X b D h => Len_at b D wk4 X h)
  have A12 := Lib.hid (fun X b D h => Remove_at b D wk4 3 (by unfold fits; omega) X h)
  rw [e1, t1] at A1
  rw [e2, t2] at A2
  rw [e3, t3] at A3
  rw [e4, t4] at A4
  rw [e5, t5] at A5
  rw [n1, n2] at A6
  rw [g1, g2] at A7
  rw [i1] at A8
  unfold PastAt at A9 A10
  rw [p1, p2] at A9
  rw [q1, q2, q3] at A10
  rw [r1] at A12
  have hl3 : wk3.l.length = 3 := rfl
  have hl4 : wk4.l.length = 2 := rfl
  rw [hl3] at A8
  rw [hl4] at A11
  clear e1 t1 e2 t2 e3 t3 e4 t4 e5 t5 n1 n2 g1 g2 i1 p1 p2 q1 q2 q3 r1 hl3 hl4
  have tr : ∀ (X Y : World) (D D' : Nat → Prop) (B : Nat), (∀ k, D k → B ≤ k) → B ≤ X.heap.size → (∀ k, D' k → D k ∨ X.heap.size ≤ k) → ∀ k, D' k → B ≤ k := fun X Y D D' B h1 h2 h3 k hk => by
    rcases h3 k hk with h | h
    · exact h1 k h
    · omega
  go_enter Try.func12, Try.ntmps12
  go_wp2_with fail
  refine (New_any _).mono ?_
  rintro e w1 ⟨b, D1, rfl, hl1, hD1, hf1⟩
  have F1 := Lib.hid hf1
  go_wp2_with fail
  refine (A1.out _ b _ hl1).mono ?_
  rintro e w2 ⟨rfl, D2, hl2, hf2, hd2⟩
  have F2 := Lib.hid (F1.out.ownS hf2 hD1)
  have hD2 := tr w1 w2 D1 D2 w.heap.size hD1 F1.out.size hd2
  clear hl1 hf1 hf2 hd2 hD1
  go_wp2_with fail
  refine (A2.out _ b _ hl2).mono ?_
  rintro e w3 ⟨rfl, D3, hl3, hf3, hd3⟩
  have F3 := Lib.hid (F2.out.ownS hf3 hD2)
  have hD3 := tr w2 w3 D2 D3 w.heap.size hD2 F2.out.size hd3
  clear hl2 hf3 hd3 hD2
  go_wp2_with fail
  refine (A3.out _ b _ hl3).mono ?_
  rintro e w4 ⟨rfl, D4, hl4, hf4, hd4⟩
  have F4 := Lib.hid (F3.out.ownS hf4 hD3)
  have hD4 := tr w3 w4 D3 D4 w.heap.size hD3 F3.out.size hd4
  clear hl3 hf4 hd4 hD3
  go_wp2_with fail
  refine (A4.out _ b _ hl4).mono ?_
  rintro e w5 ⟨rfl, D5, hl5, hf5, hd5⟩
  have F5 := Lib.hid (F4.out.ownS hf5 hD4)
  have hD5 := tr w4 w5 D4 D5 w.heap.size hD4 F4.out.size hd5
  clear hl4 hf5 hd5 hD4
  go_wp2_with fail
  refine (A5.out _ b _ hl5).mono ?_
  rintro e w6 ⟨rfl, D6, hl6, hf6, hd6⟩
  have F6 := Lib.hid (F5.out.ownS hf6 hD5)
  have hD6 := tr w5 w6 D5 D6 w.heap.size hD5 F5.out.size hd6
  clear hl5 hf6 hd6 hD5
  go_wp2_with fail
  refine (A6.out _ b _ hl6).mono ?_
  rintro e w7 ⟨rfl, hf⟩
  have F7 := Lib.hid (F6.out.then0 hf)
  have hl7 := hl6.fr0 hf
  clear hf hl6
  go_wp2_with fail
  refine (A7.out _ b _ hl7).mono ?_
  rintro e w8 ⟨rfl, hf⟩
  have F8 := Lib.hid (F7.out.then0 hf)
  have hl8 := hl7.fr0 hf
  clear hf hl7
  go_wp2_with fail
  refine (A8.out _ b _ hl8).mono ?_
  rintro e w9 ⟨G, gc, rfl, ho, hgc, hf⟩
  have F9 := Lib.hid (F8.out.then0 hf)
  have hl9 := hl8.fr0 hf
  have R9 := Lib.hid ((Reads.of_own ho).fr0 ((Fr.refl No w9).alloc (.cells (cells .i64 [3, 7, 9]).toArray 3)))
  have S9 := Lib.hid (same_any G (some ⟨w9.heap.size, 0, none⟩) 3 gc 3 3 [3, 7, 9] [3, 7, 9] _ R9.out (reads_lay w9 [3, 7, 9] 3 rfl) (by omega))
  rw [show decide ([3, 7, 9] = ([3, 7, 9] : List Int)) = true by decide] at S9
  simp only [cells, List.map_cons, List.map_nil] at S9
  clear hf hl8 ho
  go_wp2_with fail
  refine S9.out.mono ?_
  rintro e w10 ⟨rfl, q, rfl⟩
  have F10 := Lib.hid ((F9.out.alloc (.cells #[.int .i64 3, .int .i64 7, .int .i64 9] 3)).drewN q)
  have hl10 := hl9.fr0 (((Fr.refl No w9).alloc (.cells #[.int .i64 3, .int .i64 7, .int .i64 9] 3)).drewN q)
  generalize hw10 : (w9.alloc (.cells #[.int .i64 3, .int .i64 7, .int .i64 9] 3)).drewN q = w10 at *
  clear hw10 hl9
  go_wp2_with fail
  refine (A9.out _ b _ hl10).mono ?_
  rintro e w11 ⟨G2, gc2, rfl, ho, hgc2, hl11, hf⟩
  have F11 := Lib.hid (F10.out.ownS hf hD6)
  clear hf hl10 ho
  go_wp2_with fail
  refine (A10.out _ b _ hl11).mono ?_
  rintro e w12 ⟨G3, gc3, rfl, ho, hgc3, hl12, hf⟩
  have F12 := Lib.hid (F11.out.ownS hf hD6)
  have R12 := Lib.hid ((Reads.of_own ho).fr0 ((Fr.refl No w12).alloc (.cells (cells .i64 [3]).toArray 3)))
  have S12 := Lib.hid (same_any G3 (some ⟨w12.heap.size, 0, none⟩) 1 gc3 1 1 [3] [3] _ R12.out (reads_lay w12 [3] 1 rfl) (by omega))
  rw [show decide ([3] = ([3] : List Int)) = true by decide] at S12
  simp only [cells, List.map_cons, List.map_nil] at S12
  clear hf hl11 ho
  go_wp2_with fail
  refine S12.out.mono ?_
  rintro e w13 ⟨rfl, q2, rfl⟩
  have F13 := Lib.hid ((F12.out.alloc (.cells #[.int .i64 3] 3)).drewN q2)
  have hl13 := hl12.fr0 (((Fr.refl No w12).alloc (.cells #[.int .i64 3] 3)).drewN q2)
  generalize hw13 : (w12.alloc (.cells #[.int .i64 3] 3)).drewN q2 = w13 at *
  clear hw13 hl12
  go_wp2_with fail
  refine (A11.out _ b _ hl13).mono ?_
  rintro e w14 ⟨rfl, rfl⟩
  go_wp2_with fail
  refine (A12.out _ b _ hl13).mono ?_
  rintro e w15 ⟨rfl, D15, hl15, hf15, hd15⟩
  go_wp2
  go_ret
  exact ⟨rfl, F13.out.ownS hf15 hD6⟩
end Go.Proofs.Ytgkpmckbdagkcaa
