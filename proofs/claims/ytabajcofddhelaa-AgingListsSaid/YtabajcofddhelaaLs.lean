/- AgingLists: the walk. -/
import Derived.Test.YtabajcofddhelaaRp
import Derived.Test.YtabajcofddhelaaWk
namespace Go.Proofs.Ytabajcofddhelaa
open Go.RowKit Go.Wk

/-- What Sort shows: nothing with an error, or the list sorted. -/
def SOf (y : Int) (l s : List IV) : Prop := (listE y l [] ≠ 0 ∧ s = []) ∨ (listE y l [] = 0 ∧ SortOf y l s)
theorem SOf.one {y : Int} {l s t : List IV} (h : SOf y l s) (k : SOf y l t) : s = t := by
  rcases h with ⟨h1, rfl⟩ | ⟨h1, h2⟩
  · rcases k with ⟨k1, rfl⟩ | ⟨k1, k2⟩
    · rfl
    · exact absurd k1 h1
  · rcases k with ⟨k1, rfl⟩ | ⟨k1, k2⟩
    · exact absurd h1 k1
    · exact h2.one k2
def SortRow (y : Int) (n : Nat) (l : List IV) (w : World) (x : Ending) (w' : World) : Prop := ∃ A m c s, x = .returned (.tuple #[.slice A m c, .int .i64 (listE y l [])]) ∧ SOf y l s ∧ w'.ownsRow w.heap.size 23 4 (.slice A m c) m (icells s) ∧ Fr No w w' ∧ (m = 0 ∨ m = n)
theorem SortR.row {y : Int} {n : Nat} {l : List IV} {w w' : World} {x : Ending} (h : SortR y n l w x w') : SortRow y n l w x w' := by
  obtain ⟨hf, ⟨he, rfl⟩ | ⟨he, A, c, s, rfl, hs, _, ho⟩⟩ := h
  · exact ⟨none, 0, 0, [], rfl, .inl ⟨he, rfl⟩, own_nil _ _ _ _, hf, .inl rfl⟩
  · exact ⟨A, n, c, s, by rw [he], .inr ⟨he, hs⟩, ho, hf, .inr rfl⟩
/-- A row of the call's own that is written over. -/
def Wr (w wr : World) (A : Option Addr) (m : Nat) : Prop := 0 < m → ∃ g cur, A = some ⟨g, 0, none⟩ ∧ w.heap.size ≤ g ∧ Blk wr g 23 cur ∧ m * 4 ≤ cur.size
theorem Wr.of {w wr : World} {A : Option Addr} {m c : Nat} {xs : List Value} (h : wr.ownsRow w.heap.size 23 4 (.slice A m c) m xs) : Wr w wr A m := by
  intro h0
  rcases h.2 with ⟨_, hn⟩ | ⟨g, cap, cur, hv, hg, hh, hmc, _, hcs, _⟩
  · omega
  · injection hv with hA hn hc
    exact ⟨g, cur, hA, hg, hh, by omega⟩
theorem Wr.fr {w wr w' : World} {A : Option Addr} {m : Nat} (h : Wr w wr A m) (hf : Fr No wr w') : Wr w w' A m := fun h0 => by
  obtain ⟨g, cur, e, hg, hb, hs⟩ := h h0
  exact ⟨g, cur, e, hg, hb.fr hf (fun x => x), hs⟩

set_option maxRecDepth 100000 in
set_option maxHeartbeats 16000000 in
theorem agingLists_walk (A : Option Addr) (n c : Nat) (l : List IV) (x : IV) (y : Int) (w : World) (h : Reads w w.heap.size 4 A n (icells l)) (hn : n ≤ 9223372036854775807) :
    Calls Try.prog 10 #[.slice A n c, .agg #[.int .i64 x.id, .int .i64 x.pr, .int .i64 x.since, .int .i64 x.seq], .int .i64 y] w fun e w' => e = .returned (.bool true) ∧ Fr No w w' := by
  obtain ⟨i0, hi, hz0, hz1, hz2⟩ : ∃ i, Try.prog.info? 23 = some i ∧ i.zero = some (.agg #[.int .i64 0, .int .i64 0, .int .i64 0, .int .i64 0]) ∧ i.size = 4 ∧ i.bytes = 32 := ⟨_, rfl, rfl, rfl, rfl⟩
  obtain ⟨w0, hw0⟩ : ∃ w0, w0 = w.alloc (.cells #[.int .i64 x.id, .int .i64 x.pr, .int .i64 x.since, .int .i64 x.seq] 23) := ⟨_, rfl⟩
  have B0 := Lib.hid (show Blk w0 w.heap.size 23 #[.int .i64 x.id, .int .i64 x.pr, .int .i64 x.since, .int .i64 x.seq] by rw [hw0]; exact Blk.new _ _ _)
  have F0 := Lib.hid (show Fr No w w0 by rw [hw0]; exact (Fr.refl No w).alloc _)
  have R0 := Lib.hid (h.fr0 F0.out)
  have HW := Lib.hid hw0
  have HA := Lib.hid (fun X (hX : Fr No w0 X) => Ahead_any A n c l x y X (R0.out.fr0 hX) hn)
  have HB := Lib.hid (fun X (hX : Fr No w0 X) => rAhead_any A n c l x y X (R0.out.fr0 hX) hn)
  clear h hw0
  generalize aheadV y l x = av at *
  generalize listE y l [x] = ae at *
  obtain ⟨xi, xp, xs, xq⟩ := x
  dsimp only at B0 HW HA HB ⊢
  have hav : (av != av) = false := by simp
  have hae : (ae != ae) = false := by simp
  by_cases b1 : 100 < n
  · by_cases b2 : n ≤ 1024
    · go_enter Try.func10, Try.ntmps10
      go_wp2_with fail
      rw [← HW.out]
      refine (works_any _).mono ?_
      rintro x w1 ⟨rfl, hf⟩
      go_wp2
      go_ret
      exact ⟨rfl, F0.out.then0 hf⟩
    · by_cases b3 : 2000 < n
      · go_enter Try.func10, Try.ntmps10
        go_wp2_with fail
        rw [← HW.out]
        refine (works_any _).mono ?_
        rintro x w1 ⟨rfl, hf⟩
        go_wp2
        go_ret
        exact ⟨rfl, F0.out.then0 hf⟩
      · skip
        have hn2 : n ≤ 2000 := by omega
        have O1 := Lib.hid (show (w0.alloc (.cells #[] 23)).ownsRow w.heap.size 23 4 (.slice (some ⟨w0.heap.size, 0, none⟩) 0 0) 0 [] from ⟨rfl, .inr ⟨w0.heap.size, 0, #[], rfl, F0.out.size, Blk.new w0 23 #[], Nat.le_refl _, Nat.zero_le _, rfl, rfl⟩⟩)
        have R1 := Lib.hid (R0.out.alloc (Nat.le_refl _) (.cells #[] 23))
        have hsz := Lib.hid (Nat.le_trans F0.out.size ((Fr.refl No w0).alloc (.cells #[] 23)).size)
        have hs0 : w0.heap.size = w.heap.size + 1 := by rw [HW.out]; simp
        have HS0 := Lib.hid hs0
        clear hs0
        go_enter Try.func10, Try.ntmps10
        go_wp2_with (at_builtin; rw [← HW.out, ← HS0.out]; refine wpList_append_any (w0.alloc (.cells #[] 23)) rfl (.tmp 35) (.tmp 36) 40 rfl w.heap.size 23 i0 (.agg #[.int .i64 0, .int .i64 0, .int .i64 0, .int .i64 0]) 4 32 Try.underlying40 hi hz0 hz1 hz2 rfl (by omega) (.slice (some ⟨w0.heap.size, 0, none⟩) 0 0) 0 [] rfl O1.out w0.heap.size A n c (icells l) rfl R1.out (icells_one _) (by unfold maxLen; omega) (by omega) hsz.out ?_)
        intro v1 w1 ho1 hg1 hl1
        have F1 := Lib.hid (show Fr No w0 w1 from ((Fr.refl No w0).alloc (.cells #[] 23)).own (Fr.of_grown (S := (· = w0.heap.size)) hg1 (fun k hk => by simpa [Value.ownBlock] using hk.symm)) (Nat.le_refl _))
        try rw [Nat.zero_add] at ho1
        try rw [List.nil_append] at ho1
        obtain ⟨G, gc, rfl⟩ := own_form' ho1
        have RW := Lib.hid (Reads.of_own ho1)
        have RL := Lib.hid (R0.out.fr0 F1.out)
        clear ho1 hg1 hl1 O1 R1 hsz
        go_wp2_with fail
        refine (Sort_any A n c l y w1 RL.out hn).mono ?_
        rintro e w2 hr
        obtain ⟨As, m, cs, s, rfl, hso, ho, hf2, hm⟩ := SortR.row hr
        have RA := Lib.hid (Reads.of_own ho)
        have HWr := Lib.hid (Wr.of ho)
        have F2 := Lib.hid hf2
        have HSO := Lib.hid hso
        clear hr ho hf2 hso
        go_wp2_with fail
        refine (rSort_any A n c l y w2 (RL.out.fr0 F2.out) hn).mono ?_
        rintro e w3 hr
        obtain ⟨Bs, m', cs', s', rfl, hso, ho, hf3, -⟩ := SortR.row hr
        obtain rfl := HSO.out.one hso
        obtain rfl : m' = m := by have h1 := reads_ilen (Reads.of_own ho); have h2 := reads_ilen RA.out; omega
        have RB := Lib.hid (Reads.of_own ho)
        replace RA := Lib.hid (RA.out.fr0 hf3)
        replace HWr := Lib.hid (HWr.out.fr hf3)
        have F3 := Lib.hid (F2.out.then0 hf3)
        clear hr ho hf3 hso F2
        go_wp2_with fail
        refine (Span_any A n c l y w3 (RL.out.fr0 F3.out) hn).mono ?_
        rintro e w4 ⟨⟨v, rfl, hsp⟩, hf⟩
        have HSP := Lib.hid hsp
        have F4 := Lib.hid (F3.out.then0 hf)
        replace RA := Lib.hid (RA.out.fr0 hf)
        replace RB := Lib.hid (RB.out.fr0 hf)
        replace HWr := Lib.hid (HWr.out.fr hf)
        clear hsp hf F3
        go_wp2_with fail
        refine (rSpan_any A n c l y w4 (RL.out.fr0 F4.out) hn).mono ?_
        rintro e w5 ⟨⟨v', rfl, hsp⟩, hf⟩
        obtain rfl := HSP.out.one hsp
        have F5 := Lib.hid (F4.out.then0 hf)
        replace RA := Lib.hid (RA.out.fr0 hf)
        replace RB := Lib.hid (RB.out.fr0 hf)
        replace HWr := Lib.hid (HWr.out.fr hf)
        clear hsp hf F4 HSP HSO
        generalize listE y l [] = e0 at *
        have hve : (v != v) = false := by simp
        have hee : (e0 != e0) = false := by simp
        obtain ⟨b0, b1, b2, b3⟩ := blk4 (B0.out.fr (F1.out.then0 F5.out) (fun x => x))
        go_wp2_with fail
        refine (HA.out w5 (F1.out.then0 F5.out)).mono ?_
        rintro e w6 ⟨rfl, hf⟩
        have F6 := Lib.hid (F5.out.then0 hf)
        replace RA := Lib.hid (RA.out.fr0 hf)
        replace RB := Lib.hid (RB.out.fr0 hf)
        replace HWr := Lib.hid (HWr.out.fr hf)
        clear hf F5 b0 b1 b2 b3
        obtain ⟨b0, b1, b2, b3⟩ := blk4 (B0.out.fr (F1.out.then0 F6.out) (fun x => x))
        go_wp2_with fail
        refine (HB.out w6 (F1.out.then0 F6.out)).mono ?_
        rintro e w7 ⟨rfl, hf⟩
        have F7 := Lib.hid (F6.out.then0 hf)
        replace RA := Lib.hid (RA.out.fr0 hf)
        replace RB := Lib.hid (RB.out.fr0 hf)
        replace HWr := Lib.hid (HWr.out.fr hf)
        clear hf F6 b0 b1 b2 b3 HA HB
        have hm2 : m' ≤ 2000 := by omega
        go_wp2_with fail
        refine (same_eq As Bs m' cs m' cs' s w7 RA.out RB.out (by omega)).mono ?_
        rintro e w8 ⟨rfl, hf⟩
        have F8 := Lib.hid (F7.out.then0 hf)
        replace HWr := Lib.hid (HWr.out.fr hf)
        clear hf F7 RA RB
        go_wp2
        go_loopw [20] (fun i wr => ∃ k : Nat, i = .int .i64 k ∧ k ≤ m' ∧ Hid (Fr No w1 wr) ∧ Hid (Wr w1 wr As m')) (fun i _ => m' - (intOf i).toNat)
        case atStart => exact ⟨0, rfl, Nat.zero_le _, F8, HWr⟩
        case round =>
          clear F8 HWr
          obtain ⟨k, rfl, hk, HF, HQ⟩ := hrel
          by_cases hlt : k < m'
          · obtain ⟨g, cur, rfl, hg, hb, hcs⟩ := HQ.out (by omega)
            have hlt2 : (k : Int) < (m' : Int) := by omega
            have cell : ∀ j, j < 4 → ∃ u, wr.cell? ⟨g, k * 4 + j, none⟩ = some u := fun j hj => by
              rw [hb.cell]
              exact ⟨_, Array.getElem?_eq_getElem (by omega)⟩
            obtain ⟨u0, c0⟩ := cell 0 (by omega)
            obtain ⟨u1, c1⟩ := cell 1 (by omega)
            obtain ⟨u2, c2⟩ := cell 2 (by omega)
            obtain ⟨u3, c3⟩ := cell 3 (by omega)
            rw [Nat.add_zero] at c0
            have z0 := hb.frozen (k * 4)
            have z1 := hb.frozen (k * 4 + 1)
            have z2 := hb.frozen (k * 4 + 2)
            have z3 := hb.frozen (k * 4 + 3)
            have HX := Lib.hid (show ∀ X, X = ((((wr.setCell ⟨g, k * 4, none⟩ (.int .i64 (-1))).setCell ⟨g, k * 4 + 1, none⟩ (.int .i64 0)).setCell ⟨g, k * 4 + 2, none⟩ (.int .i64 0)).setCell ⟨g, k * 4 + 3, none⟩ (.int .i64 0)) → Fr No w1 X ∧ Wr w1 X (some ⟨g, 0, none⟩) m' from fun X hX => by
              subst hX
              exact ⟨(((HF.out.setCell (.inl hg) _).setCell (.inl hg) _).setCell (.inl hg) _).setCell (.inl hg) _, fun _ => ⟨g, _, rfl, hg, (((hb.set_ _ _).set_ _ _).set_ _ _).set_ _ _, by simpa using hcs⟩⟩)
            clear cell hb hcs HQ
            go_wp2
            go_roundw
            case rel => exact ⟨k + 1, by go_num, by omega, Lib.hid (HX.out _ rfl).1, Lib.hid (HX.out _ rfl).2⟩
            case measure => simp [intOf]; omega
          · clear HQ
            go_wp2_with fail
            refine (same_eq A G n c n gc l wr (RL.out.fr0 HF.out) (RW.out.fr0 HF.out) hn).mono ?_
            rintro e w9 ⟨rfl, hf⟩
            have F9 := Lib.hid (HF.out.then0 hf)
            clear hf
            go_wp2_with fail
            refine (works_any _).mono ?_
            rintro e w10 ⟨rfl, hf⟩
            go_wp2
            go_ret
            exact ⟨rfl, ((F0.out.then0 F1.out).then0 F9.out).then0 hf⟩
  · skip
    have hn2 : n ≤ 2000 := by omega
    have O1 := Lib.hid (show (w0.alloc (.cells #[] 23)).ownsRow w.heap.size 23 4 (.slice (some ⟨w0.heap.size, 0, none⟩) 0 0) 0 [] from ⟨rfl, .inr ⟨w0.heap.size, 0, #[], rfl, F0.out.size, Blk.new w0 23 #[], Nat.le_refl _, Nat.zero_le _, rfl, rfl⟩⟩)
    have R1 := Lib.hid (R0.out.alloc (Nat.le_refl _) (.cells #[] 23))
    have hsz := Lib.hid (Nat.le_trans F0.out.size ((Fr.refl No w0).alloc (.cells #[] 23)).size)
    have hs0 : w0.heap.size = w.heap.size + 1 := by rw [HW.out]; simp
    have HS0 := Lib.hid hs0
    clear hs0
    go_enter Try.func10, Try.ntmps10
    go_wp2_with (at_builtin; rw [← HW.out, ← HS0.out]; refine wpList_append_any (w0.alloc (.cells #[] 23)) rfl (.tmp 35) (.tmp 36) 40 rfl w.heap.size 23 i0 (.agg #[.int .i64 0, .int .i64 0, .int .i64 0, .int .i64 0]) 4 32 Try.underlying40 hi hz0 hz1 hz2 rfl (by omega) (.slice (some ⟨w0.heap.size, 0, none⟩) 0 0) 0 [] rfl O1.out w0.heap.size A n c (icells l) rfl R1.out (icells_one _) (by unfold maxLen; omega) (by omega) hsz.out ?_)
    intro v1 w1 ho1 hg1 hl1
    have F1 := Lib.hid (show Fr No w0 w1 from ((Fr.refl No w0).alloc (.cells #[] 23)).own (Fr.of_grown (S := (· = w0.heap.size)) hg1 (fun k hk => by simpa [Value.ownBlock] using hk.symm)) (Nat.le_refl _))
    try rw [Nat.zero_add] at ho1
    try rw [List.nil_append] at ho1
    obtain ⟨G, gc, rfl⟩ := own_form' ho1
    have RW := Lib.hid (Reads.of_own ho1)
    have RL := Lib.hid (R0.out.fr0 F1.out)
    clear ho1 hg1 hl1 O1 R1 hsz
    go_wp2_with fail
    refine (Sort_any A n c l y w1 RL.out hn).mono ?_
    rintro e w2 hr
    obtain ⟨As, m, cs, s, rfl, hso, ho, hf2, hm⟩ := SortR.row hr
    have RA := Lib.hid (Reads.of_own ho)
    have HWr := Lib.hid (Wr.of ho)
    have F2 := Lib.hid hf2
    have HSO := Lib.hid hso
    clear hr ho hf2 hso
    go_wp2_with fail
    refine (rSort_any A n c l y w2 (RL.out.fr0 F2.out) hn).mono ?_
    rintro e w3 hr
    obtain ⟨Bs, m', cs', s', rfl, hso, ho, hf3, -⟩ := SortR.row hr
    obtain rfl := HSO.out.one hso
    obtain rfl : m' = m := by have h1 := reads_ilen (Reads.of_own ho); have h2 := reads_ilen RA.out; omega
    have RB := Lib.hid (Reads.of_own ho)
    replace RA := Lib.hid (RA.out.fr0 hf3)
    replace HWr := Lib.hid (HWr.out.fr hf3)
    have F3 := Lib.hid (F2.out.then0 hf3)
    clear hr ho hf3 hso F2
    go_wp2_with fail
    refine (Span_any A n c l y w3 (RL.out.fr0 F3.out) hn).mono ?_
    rintro e w4 ⟨⟨v, rfl, hsp⟩, hf⟩
    have HSP := Lib.hid hsp
    have F4 := Lib.hid (F3.out.then0 hf)
    replace RA := Lib.hid (RA.out.fr0 hf)
    replace RB := Lib.hid (RB.out.fr0 hf)
    replace HWr := Lib.hid (HWr.out.fr hf)
    clear hsp hf F3
    go_wp2_with fail
    refine (rSpan_any A n c l y w4 (RL.out.fr0 F4.out) hn).mono ?_
    rintro e w5 ⟨⟨v', rfl, hsp⟩, hf⟩
    obtain rfl := HSP.out.one hsp
    have F5 := Lib.hid (F4.out.then0 hf)
    replace RA := Lib.hid (RA.out.fr0 hf)
    replace RB := Lib.hid (RB.out.fr0 hf)
    replace HWr := Lib.hid (HWr.out.fr hf)
    clear hsp hf F4 HSP HSO
    generalize listE y l [] = e0 at *
    have hve : (v != v) = false := by simp
    have hee : (e0 != e0) = false := by simp
    obtain ⟨b0, b1, b2, b3⟩ := blk4 (B0.out.fr (F1.out.then0 F5.out) (fun x => x))
    go_wp2_with fail
    refine (HA.out w5 (F1.out.then0 F5.out)).mono ?_
    rintro e w6 ⟨rfl, hf⟩
    have F6 := Lib.hid (F5.out.then0 hf)
    replace RA := Lib.hid (RA.out.fr0 hf)
    replace RB := Lib.hid (RB.out.fr0 hf)
    replace HWr := Lib.hid (HWr.out.fr hf)
    clear hf F5 b0 b1 b2 b3
    obtain ⟨b0, b1, b2, b3⟩ := blk4 (B0.out.fr (F1.out.then0 F6.out) (fun x => x))
    go_wp2_with fail
    refine (HB.out w6 (F1.out.then0 F6.out)).mono ?_
    rintro e w7 ⟨rfl, hf⟩
    have F7 := Lib.hid (F6.out.then0 hf)
    replace RA := Lib.hid (RA.out.fr0 hf)
    replace RB := Lib.hid (RB.out.fr0 hf)
    replace HWr := Lib.hid (HWr.out.fr hf)
    clear hf F6 b0 b1 b2 b3 HA HB
    have hm2 : m' ≤ 2000 := by omega
    go_wp2_with fail
    refine (same_eq As Bs m' cs m' cs' s w7 RA.out RB.out (by omega)).mono ?_
    rintro e w8 ⟨rfl, hf⟩
    have F8 := Lib.hid (F7.out.then0 hf)
    replace HWr := Lib.hid (HWr.out.fr hf)
    clear hf F7 RA RB
    go_wp2
    go_loopw [20] (fun i wr => ∃ k : Nat, i = .int .i64 k ∧ k ≤ m' ∧ Hid (Fr No w1 wr) ∧ Hid (Wr w1 wr As m')) (fun i _ => m' - (intOf i).toNat)
    case atStart => exact ⟨0, rfl, Nat.zero_le _, F8, HWr⟩
    case round =>
      clear F8 HWr
      obtain ⟨k, rfl, hk, HF, HQ⟩ := hrel
      by_cases hlt : k < m'
      · obtain ⟨g, cur, rfl, hg, hb, hcs⟩ := HQ.out (by omega)
        have hlt2 : (k : Int) < (m' : Int) := by omega
        have cell : ∀ j, j < 4 → ∃ u, wr.cell? ⟨g, k * 4 + j, none⟩ = some u := fun j hj => by
          rw [hb.cell]
          exact ⟨_, Array.getElem?_eq_getElem (by omega)⟩
        obtain ⟨u0, c0⟩ := cell 0 (by omega)
        obtain ⟨u1, c1⟩ := cell 1 (by omega)
        obtain ⟨u2, c2⟩ := cell 2 (by omega)
        obtain ⟨u3, c3⟩ := cell 3 (by omega)
        rw [Nat.add_zero] at c0
        have z0 := hb.frozen (k * 4)
        have z1 := hb.frozen (k * 4 + 1)
        have z2 := hb.frozen (k * 4 + 2)
        have z3 := hb.frozen (k * 4 + 3)
        have HX := Lib.hid (show ∀ X, X = ((((wr.setCell ⟨g, k * 4, none⟩ (.int .i64 (-1))).setCell ⟨g, k * 4 + 1, none⟩ (.int .i64 0)).setCell ⟨g, k * 4 + 2, none⟩ (.int .i64 0)).setCell ⟨g, k * 4 + 3, none⟩ (.int .i64 0)) → Fr No w1 X ∧ Wr w1 X (some ⟨g, 0, none⟩) m' from fun X hX => by
          subst hX
          exact ⟨(((HF.out.setCell (.inl hg) _).setCell (.inl hg) _).setCell (.inl hg) _).setCell (.inl hg) _, fun _ => ⟨g, _, rfl, hg, (((hb.set_ _ _).set_ _ _).set_ _ _).set_ _ _, by simpa using hcs⟩⟩)
        clear cell hb hcs HQ
        go_wp2
        go_roundw
        case rel => exact ⟨k + 1, by go_num, by omega, Lib.hid (HX.out _ rfl).1, Lib.hid (HX.out _ rfl).2⟩
        case measure => simp [intOf]; omega
      · clear HQ
        go_wp2_with fail
        refine (same_eq A G n c n gc l wr (RL.out.fr0 HF.out) (RW.out.fr0 HF.out) hn).mono ?_
        rintro e w9 ⟨rfl, hf⟩
        have F9 := Lib.hid (HF.out.then0 hf)
        clear hf
        go_wp2_with fail
        refine (works_any _).mono ?_
        rintro e w10 ⟨rfl, hf⟩
        go_wp2
        go_ret
        exact ⟨rfl, ((F0.out.then0 F1.out).then0 F9.out).then0 hf⟩
end Go.Proofs.Ytabajcofddhelaa
