/- The document's list, Same, Ahead. -/
import Derived.Test.YtabajcofddhelaaSn
namespace Go.Proofs.Ytabajcofddhelaa
open Go.RowKit Go.Wk

theorem firstE_cons (a : IV) (l : List IV) : firstE (a :: l) = if oneE a ≠ 0 then oneE a else firstE l := rfl
theorem firstE_app (l m : List IV) : firstE (l ++ m) = if firstE l = 0 then firstE m else firstE l := by
  induction l with
  | nil => rfl
  | cons a l ih =>
    rw [List.cons_append, firstE_cons, firstE_cons]
    by_cases h : oneE a = 0
    · have e : ∀ v : Int, (if oneE a ≠ 0 then oneE a else v) = v := fun v => if_neg (by simpa using h)
      rw [e, e]; exact ih
    · have e : ∀ v : Int, (if oneE a ≠ 0 then oneE a else v) = oneE a := fun v => if_pos h
      rw [e, e, if_neg h]
theorem chkE_in {y : Int} (h0 : yearsE y = 0) (l : List IV) : chkE y l = firstE l := by unfold chkE; rw [if_neg (by rw [h0]; decide)]
theorem listE_two (y : Int) (l m : List IV) (h0 : yearsE y = 0) (hl : ¬ 1024 < l.length) : listE y l m = if chkE y l = 0 then chkE y m else chkE y l := by
  unfold listE
  rw [if_neg (by rw [h0]; decide), if_neg hl, chkE_in h0, chkE_in h0, chkE_in h0]
  exact firstE_app l m
set_option maxRecDepth 100000 in
set_option maxHeartbeats 4000000 in
theorem rlist_any (A : Option Addr) (n c : Nat) (l : List IV) (x : IV) (y : Int) (w : World) (h : Reads w w.heap.size 4 A n (icells l)) (hn : n ≤ 9223372036854775807) :
    Calls Try.prog 42 #[.int .i64 y, .slice A n c, .agg #[.int .i64 x.id, .int .i64 x.pr, .int .i64 x.since, .int .i64 x.seq]] w fun e w' => e = .returned (.int .i64 (listE y l [x])) ∧ Fr No w w' := by
  have HR := Lib.hid h
  have hl := reads_ilen h
  obtain ⟨w0, hw0⟩ : ∃ w0, w0 = w.alloc (.cells #[.int .i64 x.id, .int .i64 x.pr, .int .i64 x.since, .int .i64 x.seq] 23) := ⟨_, rfl⟩
  have B := Lib.hid (show Blk w0 w.heap.size 23 #[.int .i64 x.id, .int .i64 x.pr, .int .i64 x.since, .int .i64 x.seq] by rw [hw0]; exact Blk.new _ _ _)
  have F0 := Lib.hid (show Fr No w w0 by rw [hw0]; exact (Fr.refl No w).alloc _)
  have HW := Lib.hid hw0
  have C0 := Lib.hid (fun X => rcheck_loop none 0 0 [] y X Reads.none_ (by omega))
  have C1 := Lib.hid (fun X (hX : Fr No w X) => rcheck_loop A n c l y X (HR.out.fr0 hX) hn)
  have C2 := Lib.hid (fun X => rcheck1 x y X)
  rw [chkE_nil] at C0
  have HE := Lib.hid (show listE y l [x] = if yearsE y ≠ 0 then yearsE y else if 1024 < n then 12 else if chkE y l = 0 then chkE y [x] else chkE y l by
    by_cases h0 : yearsE y = 0
    · have e1 : (if yearsE y ≠ 0 then yearsE y else if 1024 < n then 12 else if chkE y l = 0 then chkE y [x] else chkE y l) = if 1024 < n then 12 else if chkE y l = 0 then chkE y [x] else chkE y l := if_neg (by rw [h0]; decide)
      rw [e1]
      by_cases h1 : 1024 < l.length
      · rw [if_pos (show 1024 < n by omega)]
        unfold listE; rw [if_neg (by rw [h0]; decide), if_pos h1]
      · rw [listE_two y l [x] h0 h1, if_neg (show ¬ 1024 < n by omega)]
    · unfold listE; rw [if_pos h0, if_pos h0])
  clear h hw0 hl
  generalize listE y l [x] = r at *
  generalize yearsE y = ye at *
  generalize chkE y l = c1 at *
  generalize chkE y [x] = c2 at *
  obtain ⟨xi, xp, xs, xq⟩ := x
  dsimp only at B HW C2
  by_cases h0 : ye = 0
  · subst h0
    have HE := Lib.hid ((HE.out).trans (if_neg (by decide)))
    by_cases h1 : 1024 < n
    · have HE := Lib.hid ((HE.out).trans (if_pos h1))
      have h1' : (1024 : Int) < (n : Int) := by omega
      go_enter Try.func42, Try.ntmps42
      go_wp2_with fail
      rw [← HW.out]
      refine (C0.out _).mono ?_
      rintro e w1 ⟨rfl, hf⟩
      go_wp2
      go_ret
      exact ⟨ret1i HE.out.symm, F0.out.then0 hf⟩
    · have HE := Lib.hid ((HE.out).trans (if_neg h1))
      have h1' : ¬ (1024 : Int) < (n : Int) := by omega
      by_cases h2 : c1 = 0
      · subst h2
        have HE := Lib.hid ((HE.out).trans (if_pos rfl))
        go_enter Try.func42, Try.ntmps42
        go_wp2_with fail
        rw [← HW.out]
        refine (C0.out _).mono ?_
        rintro e w1 ⟨rfl, hf⟩
        have F1 := F0.out.then0 hf
        have B1 := Lib.hid (B.out.fr hf (fun x => x))
        clear hf
        go_wp2_with fail
        refine (C1.out _ F1).mono ?_
        rintro e w2 ⟨rfl, hf⟩
        have F2 := Lib.hid (F1.then0 hf)
        obtain ⟨b0, b1, b2, b3⟩ := blk4 (B1.out.fr hf (fun x => x))
        clear hf F1
        go_wp2_with fail
        refine (C2.out _).mono ?_
        rintro e w3 ⟨rfl, hf⟩
        have F3 := Lib.hid ((F2.out.alloc _).then0 hf)
        clear hf b0 b1 b2 b3
        go_wp2
        go_ret
        exact ⟨ret1i HE.out.symm, F3.out⟩
      · have HE := Lib.hid ((HE.out).trans (if_neg h2))
        have hb : (c1 == 0) = false := by simpa using h2
        clear h2
        go_enter Try.func42, Try.ntmps42
        go_wp2_with fail
        rw [← HW.out]
        refine (C0.out _).mono ?_
        rintro e w1 ⟨rfl, hf⟩
        have F1 := F0.out.then0 hf
        clear hf
        go_wp2_with fail
        refine (C1.out _ F1).mono ?_
        rintro e w2 ⟨rfl, hf⟩
        have F2 := Lib.hid (F1.then0 hf)
        clear hf F1
        go_wp2
        go_ret
        exact ⟨ret1i HE.out.symm, F2.out⟩
  · have HE := Lib.hid ((HE.out).trans (if_pos h0))
    have hb : (ye == 0) = false := by simpa using h0
    clear h0
    go_enter Try.func42, Try.ntmps42
    go_wp2_with fail
    rw [← HW.out]
    refine (C0.out _).mono ?_
    rintro e w1 ⟨rfl, hf⟩
    go_wp2
    go_ret
    exact ⟨ret1i HE.out.symm, F0.out.then0 hf⟩

set_option maxRecDepth 100000 in
set_option maxHeartbeats 4000000 in
theorem same_eq (A A' : Option Addr) (n c n' c' : Nat) (l : List IV) (w : World) (h : Reads w w.heap.size 4 A n (icells l)) (h' : Reads w w.heap.size 4 A' n' (icells l)) (hn : n ≤ 9223372036854775807) :
    Calls Try.prog 31 #[.slice A n c, .slice A' n' c'] w fun e w' => e = .returned (.bool true) ∧ Fr No w w' := by
  have e : n' = n := by have := reads_ilen h; have := reads_ilen h'; omega
  subst e
  have HR := Lib.hid h
  have HR' := Lib.hid h'
  clear h h'
  go_enter Try.func31, Try.ntmps31
  go_wp2
  go_loopw [5] (fun i wr => ∃ k : Nat, i = .int .i64 k ∧ k ≤ n' ∧ Hid (Fr No w wr)) (fun i _ => n' - (intOf i).toNat)
  case atStart => exact ⟨0, rfl, Nat.zero_le _, Lib.hid (Fr.refl _ _)⟩
  case round =>
    obtain ⟨k, rfl, hk, HF⟩ := hrel
    by_cases hlt : k < n'
    · obtain ⟨q1, o1, rfl, _, _, a0, a1, a2, a3⟩ := reads_item' HR.out hlt HF.out
      obtain ⟨q2, o2, rfl, _, _, b0, b1, b2, b3⟩ := reads_item' HR'.out hlt HF.out
      have hlt2 : (k : Int) < (n' : Int) := by omega
      generalize l.getD k IV.zero = x at *
      obtain ⟨xi, xp, xs, xq⟩ := x
      dsimp only at *
      go_wp2
      go_quiet (fail)
      go_wp2
      go_roundw
      case rel => exact ⟨k + 1, by go_num, by omega, Lib.hid (HF.out.drewN _)⟩
      case measure => simp [intOf]; omega
    · go_wp2
      go_ret
      exact ⟨rfl, HF.out⟩

set_option maxRecDepth 100000 in
set_option maxHeartbeats 4000000 in
theorem rAhead_any (A : Option Addr) (n c : Nat) (l : List IV) (x : IV) (y : Int) (w : World) (h : Reads w w.heap.size 4 A n (icells l)) (hn : n ≤ 9223372036854775807) :
    Calls Try.prog 30 #[.slice A n c, .agg #[.int .i64 x.id, .int .i64 x.pr, .int .i64 x.since, .int .i64 x.seq], .int .i64 y] w fun e w' => e = .returned (.tuple #[.int .i64 (aheadV y l x), .int .i64 (listE y l [x])]) ∧ Fr No w w' := by
  have HR := Lib.hid h
  have hl := reads_ilen h
  obtain ⟨w0, hw0⟩ : ∃ w0, w0 = w.alloc (.cells #[.int .i64 x.id, .int .i64 x.pr, .int .i64 x.since, .int .i64 x.seq] 23) := ⟨_, rfl⟩
  have B := Lib.hid (show Blk w0 w.heap.size 23 #[.int .i64 x.id, .int .i64 x.pr, .int .i64 x.since, .int .i64 x.seq] by rw [hw0]; exact Blk.new _ _ _)
  have F0 := Lib.hid (show Fr No w w0 by rw [hw0]; exact (Fr.refl No w).alloc _)
  have HLE := Lib.hid (rlist_any A n c l x y w0 (h.fr0 F0.out) hn)
  have HW := Lib.hid hw0
  have HA := Lib.hid (show aheadV y l x = if listE y l [x] = 0 then ((aheadN y l x : Nat) : Int) else 0 from rfl)
  have HOK := Lib.hid (show listE y l [x] = 0 → _ from listE_ok)
  clear h hw0
  obtain ⟨c0, c1, c2, c3⟩ := blk4 B.out
  by_cases h0 : listE y l [x] = 0
  · obtain ⟨⟨y0, y1⟩, hlen, hok, hokx⟩ := HOK.out h0
    have HOX := Lib.hid (hokx x (by simp))
    rw [h0] at HLE ⊢
    rw [if_pos h0] at HA
    have hn1 : n ≤ 1024 := by omega
    have HK := Lib.hid (show ∀ i, i < n → Ok (l.getD i IV.zero) from fun i hi => hok _ (getD_mem' (by omega)))
    clear h0 HOK hok hlen hokx
    have HL := Lib.hid hl
    clear hl
    have HSN := Lib.hid (fun k hk => aheadN_snoc y l x k (by rw [HL.out]; exact hk))
    have HLEN := Lib.hid (fun k => aheadN_le y (l.take k) x)
    have HFIN := Lib.hid (show aheadN y (l.take n) x = aheadN y l x by rw [List.take_of_length_le (by rw [HL.out]; omega)])
    have HC := Lib.hid (fun k (hk : k < n) X => rbefore_any (l.getD k IV.zero) x y X (HK.out k hk) HOX.out y0 y1)
    obtain ⟨N, hN⟩ : ∃ N : Nat → Nat, N = fun k => aheadN y (l.take k) x := ⟨_, rfl⟩
    have HN0 := Lib.hid (show N 0 = 0 by rw [hN]; rfl)
    have HSN2 := Lib.hid (show ∀ k, k < n → N (k + 1) = N k + if ordI y (l.getD k IV.zero) x < 0 then 1 else 0 from fun k hk => by rw [hN]; exact HSN.out k hk)
    have HNF := Lib.hid (show aheadV y l x = N n by rw [HA.out, hN]; show _ = ((aheadN y (l.take n) x : Nat) : Int); rw [HFIN.out])
    have HNL := Lib.hid (show ∀ k, k ≤ n → N k ≤ 1024 from fun k hk => by rw [hN]; have := HLEN.out k; rw [List.length_take, HL.out] at this; show aheadN y (l.take k) x ≤ 1024; omega)
    clear hN HSN HLEN HFIN HA
    generalize aheadV y l x = r at *
    obtain ⟨xi, xp, xs, xq⟩ := x
    dsimp only at *
    go_enter Try.func30, Try.ntmps30
    go_wp2_with fail
    rw [← HW.out]
    refine HLE.out.mono ?_
    rintro e w1 ⟨rfl, hf⟩
    have F1 := Lib.hid hf
    clear hf c0 c1 c2 c3
    go_wp2
    go_loopw [9, 10] (fun m i wr => ∃ k : Nat, i = .int .i64 k ∧ m = .int .i64 (N k) ∧ k ≤ n ∧ Hid (Fr No w0 wr)) (fun _ i _ => n - (intOf i).toNat)
    case atStart => exact ⟨0, rfl, by rw [HN0.out]; rfl, Nat.zero_le _, F1⟩
    case round =>
      clear F1
      obtain ⟨k, rfl, rfl, hk, HF⟩ := hrel
      by_cases hlt : k < n
      · obtain ⟨q, off, rfl, hq, _, a0, a1, a2, a3⟩ := reads_item' HR.out hlt (F0.out.then0 HF.out)
        have SK := Lib.hid (show ∀ X, Fr No w0 X → X.cell? ⟨q, off + k * 4, none⟩ = some (.int .i64 (l.getD k IV.zero).id) ∧ X.cell? ⟨q, off + k * 4 + 1, none⟩ = some (.int .i64 (l.getD k IV.zero).pr) ∧ X.cell? ⟨q, off + k * 4 + 2, none⟩ = some (.int .i64 (l.getD k IV.zero).since) ∧ X.cell? ⟨q, off + k * 4 + 3, none⟩ = some (.int .i64 (l.getD k IV.zero).seq) ∧ X.cell? ⟨w.heap.size, 0, none⟩ = some (.int .i64 xi) ∧ X.cell? ⟨w.heap.size, 1, none⟩ = some (.int .i64 xp) ∧ X.cell? ⟨w.heap.size, 2, none⟩ = some (.int .i64 xs) ∧ X.cell? ⟨w.heap.size, 3, none⟩ = some (.int .i64 xq) from fun X hX => by
          obtain ⟨_, _, e, _, _, u0, u1, u2, u3⟩ := reads_item' HR.out hlt (F0.out.then0 hX)
          cases e
          obtain ⟨v0, v1, v2, v3⟩ := blk4 (B.out.fr hX (fun x => x))
          exact ⟨u0, u1, u2, u3, v0, v1, v2, v3⟩)
        have HCX := Lib.hid (fun X => HC.out k hlt X)
        have HS := Lib.hid (HSN2.out k hlt)
        have hNk := HNL.out k hk
        have hlt2 : (k : Int) < (n : Int) := by omega
        generalize ordI y (l.getD k IV.zero) ⟨xi, xp, xs, xq⟩ = o at *
        generalize l.getD k IV.zero = z at *
        obtain ⟨zi, zp, zs, zq⟩ := z
        dsimp only at *
        have F4 : Fr No w0 wr.drew := HF.out.drew
        have K0 := SK.out _ F4
        by_cases ho : o < 0
        all_goals
          first
            | rw [if_pos ho] at HS
            | rw [if_neg ho] at HS
          first
            | rw [decide_eq_true ho] at HCX
            | rw [decide_eq_false ho] at HCX
          go_wp2
          go_region_held3 (fun w' => w'.cell? ⟨q, off + k * 4, none⟩ = some (.int .i64 zi) ∧ w'.cell? ⟨q, off + k * 4 + 1, none⟩ = some (.int .i64 zp) ∧ w'.cell? ⟨q, off + k * 4 + 2, none⟩ = some (.int .i64 zs) ∧ w'.cell? ⟨q, off + k * 4 + 3, none⟩ = some (.int .i64 zq) ∧ w'.cell? ⟨w.heap.size, 0, none⟩ = some (.int .i64 xi) ∧ w'.cell? ⟨w.heap.size, 1, none⟩ = some (.int .i64 xp) ∧ w'.cell? ⟨w.heap.size, 2, none⟩ = some (.int .i64 xs) ∧ w'.cell? ⟨w.heap.size, 3, none⟩ = some (.int .i64 xq))
            (first | exact K1 | exact K0 | go_keep)
            (first | (go_at_call 36; refine (HCX.out _).mono ?_; rintro e w3 ⟨rfl, hf⟩; have F5 : Fr No w0 w3 := F4.then0 hf; have K1 := SK.out w3 F5))
          have HF2 := Lib.hid F5
          clear F4 F5 K0 K1 a0 a1 a2 a3
          go_wp2
          go_roundw
          case rel => exact ⟨k + 1, by go_num, by rw [HS.out]; go_num, by omega, HF2⟩
          case measure => simp [intOf]; omega
      · obtain rfl : k = n := by omega
        go_wp2
        go_ret2
        exact ⟨ret2i HNF.out.symm, F0.out.then0 HF.out⟩
  · have hb : (listE y l [x] != 0) = true := by simpa using h0
    rw [if_neg h0] at HA
    rw [HA.out]
    clear HOK h0 hl HA
    generalize listE y l [x] = r at *
    obtain ⟨xi, xp, xs, xq⟩ := x
    dsimp only at *
    go_enter Try.func30, Try.ntmps30
    go_wp2_with fail
    rw [← HW.out]
    refine HLE.out.mono ?_
    rintro e w1 ⟨rfl, hf⟩
    go_wp2
    go_ret2
    exact ⟨rfl, F0.out.then0 hf⟩
end Go.Proofs.Ytabajcofddhelaa
