/- The contract of aging's Ahead. -/
import Derived.Test.YtabajcofddhelaaMn
namespace Go.Proofs.Ytabajcofddhelaa
open Go.RowKit Go.Wk

def aheadN (y : Int) (l : List IV) (x : IV) : Nat := l.countP (fun z => decide (ordI y z x < 0))
def aheadV (y : Int) (l : List IV) (x : IV) : Int := if listE y l [x] = 0 then aheadN y l x else 0
theorem aheadN_snoc (y : Int) (l : List IV) (x : IV) (k : Nat) (hk : k < l.length) : aheadN y (l.take (k + 1)) x = aheadN y (l.take k) x + if ordI y (l.getD k IV.zero) x < 0 then 1 else 0 := by
  unfold aheadN
  rw [List.take_succ_eq_append_getElem hk, List.countP_append]
  have e : l.getD k IV.zero = l[k] := by simp [hk]
  rw [e]
  by_cases h : ordI y l[k] x < 0
  · rw [if_pos h]; simp [h]
  · rw [if_neg h]; simp [h]
theorem aheadN_le (y : Int) (l : List IV) (x : IV) : aheadN y l x ≤ l.length := List.countP_le_length
theorem reads_one (w : World) (x : IV) : Reads (w.alloc (.cells #[.int .i64 x.id, .int .i64 x.pr, .int .i64 x.since, .int .i64 x.seq] 23)) (w.alloc (.cells #[.int .i64 x.id, .int .i64 x.pr, .int .i64 x.since, .int .i64 x.seq] 23)).heap.size 4 (some ⟨w.heap.size, 0, none⟩) 1 (icells [x]) := reads1 w x

set_option maxRecDepth 100000 in
set_option maxHeartbeats 4000000 in
theorem Ahead_any (A : Option Addr) (n c : Nat) (l : List IV) (x : IV) (y : Int) (w : World) (h : Reads w w.heap.size 4 A n (icells l)) (hn : n ≤ 9223372036854775807) :
    Calls Try.prog 25 #[.slice A n c, .agg #[.int .i64 x.id, .int .i64 x.pr, .int .i64 x.since, .int .i64 x.seq], .int .i64 y] w fun e w' => e = .returned (.tuple #[.int .i64 (aheadV y l x), .int .i64 (listE y l [x])]) ∧ Fr No w w' := by
  have HR := Lib.hid h
  have hl := reads_ilen h
  obtain ⟨w0, hw0⟩ : ∃ w0, w0 = w.alloc (.cells #[.int .i64 x.id, .int .i64 x.pr, .int .i64 x.since, .int .i64 x.seq] 23) := ⟨_, rfl⟩
  have B := Lib.hid (show Blk w0 w.heap.size 23 #[.int .i64 x.id, .int .i64 x.pr, .int .i64 x.since, .int .i64 x.seq] by rw [hw0]; exact Blk.new _ _ _)
  have F0 := Lib.hid (show Fr No w w0 by rw [hw0]; exact (Fr.refl No w).alloc _)
  have hf1 := (Fr.refl No w0).alloc (.cells #[.int .i64 x.id, .int .i64 x.pr, .int .i64 x.since, .int .i64 x.seq] 23)
  have F1 := Lib.hid hf1
  have hf2 := F0.out.then0 hf1
  have HLE := Lib.hid (list_any A (some ⟨w0.heap.size, 0, none⟩) n c 1 1 l [x] y _ (h.fr0 hf2) (reads1 w0 x) hn (by omega))
  have HOK := Lib.hid (show listE y l [x] = 0 → _ from listE_ok)
  have hs0 : w0.heap.size = w.heap.size + 1 := by rw [hw0]; simp
  rw [hs0] at HLE
  have HW := Lib.hid hw0
  have HA := Lib.hid (show aheadV y l x = if listE y l [x] = 0 then ((aheadN y l x : Nat) : Int) else 0 from rfl)
  clear h hw0 hf1 hf2 hs0
  obtain ⟨c0, c1, c2, c3⟩ := blk4 B.out
  by_cases h0 : listE y l [x] = 0
  · obtain ⟨⟨y0, y1⟩, hlen, hok, hokx⟩ := HOK.out h0
    have HOX := Lib.hid (hokx x (by simp))
    rw [h0] at HLE ⊢
    rw [if_pos h0] at HA
    have hn1 : n ≤ 1024 := by omega
    have HK := Lib.hid (show ∀ i, i < n → Ok (l.getD i IV.zero) from fun i hi => by
      have e : l.getD i IV.zero = l[i]'(by omega) := by simp [show i < l.length by omega]
      rw [e]; exact hok _ (List.getElem_mem _))
    clear h0 HOK hok hlen hokx
    have HL := Lib.hid hl
    clear hl
    have HSN := Lib.hid (fun k hk => aheadN_snoc y l x k (by rw [HL.out]; exact hk))
    have HLEN := Lib.hid (fun k => aheadN_le y (l.take k) x)
    have HFIN := Lib.hid (show aheadN y (l.take n) x = aheadN y l x by rw [List.take_of_length_le (by rw [HL.out]; omega)])
    have HC := Lib.hid (fun g k (hk : k < n) X (hX : Blk X g 2 #[.int .i64 y]) => ord_any g (l.getD k IV.zero) x y X hX (HK.out k hk) HOX.out y0 y1)
    obtain ⟨N, hN⟩ : ∃ N : Nat → Nat, N = fun k => aheadN y (l.take k) x := ⟨_, rfl⟩
    have HN0 := Lib.hid (show N 0 = 0 by rw [hN]; rfl)
    have HSN2 := Lib.hid (show ∀ k, k < n → N (k + 1) = N k + if ordI y (l.getD k IV.zero) x < 0 then 1 else 0 from fun k hk => by rw [hN]; exact HSN.out k hk)
    have HNF := Lib.hid (show aheadV y l x = N n by rw [HA.out, hN]; show _ = ((aheadN y (l.take n) x : Nat) : Int); rw [HFIN.out])
    have HNL := Lib.hid (show ∀ k, k ≤ n → N k ≤ 1024 from fun k hk => by rw [hN]; have := HLEN.out k; rw [List.length_take, HL.out] at this; show aheadN y (l.take k) x ≤ 1024; omega)
    clear hN HSN HLEN HFIN HA
    generalize aheadV y l x = r at *
    obtain ⟨xi, xp, xs, xq⟩ := x
    dsimp only at *
    go_enter Try.func25, Try.ntmps25
    go_wp2_with fail
    rw [← HW.out]
    refine HLE.out.mono ?_
    rintro e w1 ⟨rfl, hf⟩
    have F2 := Lib.hid (F1.out.then0 hf)
    clear hf
    go_wp2_with fail
    refine (order_any _ _).mono ?_
    rintro e w2 ⟨rfl, hw2⟩
    have HG := Lib.hid (show Blk w2 w1.heap.size 2 #[.int .i64 y] by rw [hw2]; exact Blk.new _ _ _)
    have F3 := Lib.hid (show Fr No w0 w2 by rw [hw2]; exact F2.out.alloc _)
    clear hw2 c0 c1 c2 c3
    generalize hgg : w1.heap.size = g at *
    clear hgg
    go_wp2
    go_loopw [9, 25] (fun m i wr => ∃ k : Nat, i = .int .i64 k ∧ m = .int .i64 (N k) ∧ k ≤ n ∧ Hid (Fr No w0 wr) ∧ Hid (Blk wr g 2 #[.int .i64 y])) (fun _ i _ => n - (intOf i).toNat)
    case atStart => exact ⟨0, rfl, by rw [HN0.out]; rfl, Nat.zero_le _, F3, HG⟩
    case round =>
      clear HG F3 F2
      obtain ⟨k, rfl, rfl, hk, HF, HG⟩ := hrel
      by_cases hlt : k < n
      · obtain ⟨q, off, rfl, hq, _, a0, a1, a2, a3⟩ := reads_item' HR.out hlt (F0.out.then0 HF.out)
        obtain ⟨b0, b1, b2, b3⟩ := blk4 (B.out.fr HF.out (fun x => x))
        have HCX := Lib.hid (fun X (hX : Fr No wr X) => HC.out g k hlt X (HG.out.fr hX (fun x => x)))
        have HS := Lib.hid (HSN2.out k hlt)
        have hNk := HNL.out k hk
        have hlt2 : (k : Int) < (n : Int) := by omega
        generalize ordI y (l.getD k IV.zero) ⟨xi, xp, xs, xq⟩ = o at *
        generalize l.getD k IV.zero = z at *
        obtain ⟨zi, zp, zs, zq⟩ := z
        dsimp only at *
        obtain ⟨b0', b1', b2', b3'⟩ := blk4 (B.out.fr (HF.out.alloc (.cells #[.int .i64 zi, .int .i64 zp, .int .i64 zs, .int .i64 zq] 23)) (fun x => x))
        have hne : ¬ w.heap.size = wr.heap.size := by have := (B.out.fr HF.out (fun x => x)).lt; omega
        have HC2 := Lib.hid (HCX.out _ ((Fr.refl No wr).alloc (.cells #[.int .i64 zi, .int .i64 zp, .int .i64 zs, .int .i64 zq] 23)))
        by_cases ho : o < 0
        · rw [if_pos ho] at HS
          go_wp2_with fail
          refine HC2.out.mono ?_
          rintro e w3 ⟨rfl, hf⟩
          have HF2 := Lib.hid ((HF.out.alloc (.cells #[.int .i64 zi, .int .i64 zp, .int .i64 zs, .int .i64 zq] 23)).then0 hf)
          have HG2 := Lib.hid ((HG.out.alloc (.cells #[.int .i64 zi, .int .i64 zp, .int .i64 zs, .int .i64 zq] 23)).fr hf (fun x => x))
          clear hf
          go_wp2
          go_roundw
          case rel => exact ⟨k + 1, by go_num, by rw [HS.out]; go_num, by omega, HF2, HG2⟩
          case measure => simp [intOf]; omega
        · rw [if_neg ho] at HS
          go_wp2_with fail
          refine HC2.out.mono ?_
          rintro e w3 ⟨rfl, hf⟩
          have HF2 := Lib.hid ((HF.out.alloc (.cells #[.int .i64 zi, .int .i64 zp, .int .i64 zs, .int .i64 zq] 23)).then0 hf)
          have HG2 := Lib.hid ((HG.out.alloc (.cells #[.int .i64 zi, .int .i64 zp, .int .i64 zs, .int .i64 zq] 23)).fr hf (fun x => x))
          clear hf
          go_wp2
          go_roundw
          case rel => exact ⟨k + 1, by go_num, by rw [HS.out]; go_num, by omega, HF2, HG2⟩
          case measure => simp [intOf]; omega
      · obtain rfl : k = n := by omega
        go_wp2
        go_ret2
        exact ⟨ret2i HNF.out.symm, F0.out.then0 HF.out⟩
  · have hb : (listE y l [x] != 0) = true := by simpa using h0
    rw [if_neg h0] at HA
    rw [HA.out]
    clear HOK h0 hl HA
    generalize listE y l [x] = r at *
    obtain ⟨xi, xp, xs, xq⟩ := x
    dsimp only at *
    go_enter Try.func25, Try.ntmps25
    go_wp2_with fail
    rw [← HW.out]
    refine HLE.out.mono ?_
    rintro e w1 ⟨rfl, hf⟩
    go_wp2
    go_ret2
    exact ⟨rfl, F0.out.then0 (F1.out.then0 hf)⟩
end Go.Proofs.Ytabajcofddhelaa
