/- The iterator both: it hands out the times of two lists. -/
import Derived.Test.YtclhdhgagjpicaaE
import Derived.Test.YtclhdhgagjpicaaIt
import Derived.Sort.QuietIn
namespace Go.Wk
open Go.RowKit
/-- Below n, but for the blocks of S, all lies as it lay. -/
structure KpX (n : Nat) (S : Nat → Prop) (A B : World) : Prop where
  os : B.os = A.os
  tape : B.tape = A.tape
  output : B.output = A.output
  size : A.heap.size ≤ B.heap.size
  block : ∀ k, k < n → ¬ S k → B.heap[k]? = A.heap[k]?
theorem KpX.trans {n : Nat} {S : Nat → Prop} {A B C : World} (h : KpX n S A B) (k : KpX n S B C) : KpX n S A C :=
  ⟨k.os.trans h.os, k.tape.trans h.tape, k.output.trans h.output, Nat.le_trans h.size k.size, fun b hb hs => (k.block b hb hs).trans (h.block b hb hs)⟩
theorem KpX.of_fr {n : Nat} {S : Nat → Prop} {A B : World} (h : Fr S A B) (hn : n ≤ A.heap.size) : KpX n S A B := ⟨h.os, h.tape, h.output, h.size, fun k hk hs => h.block k (by omega) hs⟩
theorem KpX.put {n : Nat} {S : Nat → Prop} (W : World) (l : Nat) (o o' : Obj) (hl : n ≤ l) (hW : W.heap[l]? = some o) : KpX n S W (W.putObj l o') := by
  have hlt : l < W.heap.size := (Array.getElem?_eq_some_iff.1 hW).1
  have hg := grownBy_putObj' W l o'
  exact ⟨hg.os, hg.tape, hg.output, hg.size, fun k hk _ => hg.block k (by omega) (fun e => by injection e; omega)⟩
theorem Reads.kpx {n B : Nat} {S : Nat → Prop} {W Y : World} {m : Nat} {A : Option Addr} {xs : List Value} (h : Reads W B 1 A m xs) (k : KpX n S W Y) (hB : B ≤ n) (hS : ∀ b, b < B → ¬ S b) : Reads Y B 1 A m xs :=
  h.keep fun p hp => World.cell?_of_block (k.block p.block (by omega) (hS _ hp))
theorem Blk.kpx {n : Nat} {S : Nat → Prop} {W Y : World} {g : Nat} {t : TypeId} {cs : Array Value} (h : Blk W g t cs) (k : KpX n S W Y) (hg : g < n) (hS : ¬ S g) : Blk Y g t cs := (k.block g hg hS).trans h
end Go.Wk
namespace Go.Proofs.Ytclhdhgagjpicaa
open Go.RowKit Go.Shelf Go.Wk

/-- The times of two lists in order, each with the lists that have it. -/
def bothL : List Int → List Int → List (Int × Int)
  | [], [] => []
  | x :: a, [] => (x, 1) :: bothL a []
  | [], y :: b => (y, 2) :: bothL [] b
  | x :: a, y :: b => if x < y then (x, 1) :: bothL a (y :: b) else if y < x then (y, 2) :: bothL (x :: a) b else (x, 3) :: bothL a b
termination_by a b => a.length + b.length

def encP (p : Int × Int) : Array Value := #[.int .i64 p.1, .int .i64 p.2]

/-- A box that holds the rest of a list. -/
structure Rest (W : World) (g B n : Nat) (A : Option Addr) (c : Nat) (l : List Int) : Prop where
  box : Blk W g 25 #[.slice A n c]
  rd : Reads W B 1 A n (l.map (Value.int .i64))
  nc : n ≤ c
  len : l.length = n
theorem Rest.fr {S : Nat → Prop} {W Y : World} {g B n : Nat} {A : Option Addr} {c : Nat} {l : List Int} (h : Rest W g B n A c l) (hf : Fr S W Y) (hB : B ≤ W.heap.size) (hS : ∀ b, b < B → ¬ S b) (hg : ¬ S g) : Rest Y g B n A c l :=
  ⟨h.box.fr hf hg, h.rd.fr hf hB hS, h.nc, h.len⟩
theorem Rest.kpx {n1 : Nat} {S : Nat → Prop} {W Y : World} {g B n : Nat} {A : Option Addr} {c : Nat} {l : List Int} (h : Rest W g B n A c l) (hk : KpX n1 S W Y) (hB : B ≤ n1) (hS : ∀ b, b < B → ¬ S b) (hg1 : g < n1) (hg : ¬ S g) : Rest Y g B n A c l :=
  ⟨h.box.kpx hk hg1 hg, h.rd.kpx hk hB hS, h.nc, h.len⟩
theorem Rest.head {W : World} {g B n : Nat} {A : Option Addr} {c : Nat} {x : Int} {l : List Int} (h : Rest W g B n A c (x :: l)) : ∃ b off, A = some ⟨b, off, none⟩ ∧ b < B ∧ W.cell? ⟨b, off, none⟩ = some (.int .i64 x) := by
  obtain ⟨b, off, hA, hb, hc⟩ := h.rd.int_at (k := 0) (by have := h.len; simp at this; omega)
  exact ⟨b, off, hA, hb, by simpa using hc⟩
theorem Rest.cell0 {W : World} {g B n : Nat} {A : Option Addr} {c : Nat} {l : List Int} (h : Rest W g B n A c l) : W.cell? ⟨g, 0, none⟩ = some (.slice A n c) := h.box.cell 0
/-- Behind 's = s[1:]'. -/
theorem Rest.next {W : World} {g B n : Nat} {b off c : Nat} {x : Int} {l : List Int} (h : Rest W g B n (some ⟨b, off, none⟩) c (x :: l)) (hg : B ≤ g) {A' : Option Addr} (hA : A' = if c = 1 then some ⟨b, off, none⟩ else some ⟨b, off + 1, none⟩) :
    Rest (W.setCell ⟨g, 0, none⟩ (.slice A' (n - 1) (c - 1))) g B (n - 1) A' (c - 1) l := by
  have hl := h.len
  simp at hl
  refine ⟨h.box.set_ 0 _, ?_, by have := h.nc; omega, by omega⟩
  have hc := h.rd.cut (k := 1) (cap := c) (by omega) h.nc
  have hr : Reads W B 1 A' (n - 1) (l.map (Value.int .i64)) := by
    rw [hA]
    by_cases h1 : c = 1
    · simpa [h1] using hc
    · simpa [h1, add_plain] using hc
  exact hr.setCell hg _

structure BothI (BA BB B : Nat) (W : World) (na nb ca cb : Nat) (Aa Ab : Option Addr) (ra rb : List Int) : Prop where
  a : Rest W BA B na Aa ca ra
  b : Rest W BB B nb Ab cb rb
  hB : B ≤ W.heap.size
section
variable {BA BB B : Nat} {W Y : World} {na nb ca cb : Nat} {Aa Ab : Option Addr} {ra rb : List Int}
theorem BothI.fr0 (h : BothI BA BB B W na nb ca cb Aa Ab ra rb) (hf : Fr No W Y) : BothI BA BB B Y na nb ca cb Aa Ab ra rb :=
  ⟨h.a.fr hf h.hB (fun _ _ x => x) (fun x => x), h.b.fr hf h.hB (fun _ _ x => x) (fun x => x), Nat.le_trans h.hB hf.size⟩
theorem BothI.nextA {b off : Nat} {x : Int} {l : List Int} (h : BothI BA BB B W na nb ca cb (some ⟨b, off, none⟩) Ab (x :: l) rb) (h1 : B ≤ BA) (hne : BB ≠ BA) {A' : Option Addr} (hA : A' = if ca = 1 then some ⟨b, off, none⟩ else some ⟨b, off + 1, none⟩) :
    BothI BA BB B (W.setCell ⟨BA, 0, none⟩ (.slice A' (na - 1) (ca - 1))) (na - 1) nb (ca - 1) cb A' Ab l rb :=
  ⟨h.a.next h1 hA, ⟨h.b.box.far hne _, h.b.rd.setCell h1 _, h.b.nc, h.b.len⟩, by have := h.hB; simpa [World.setCell] using this⟩
theorem BothI.nextB {b off : Nat} {x : Int} {l : List Int} (h : BothI BA BB B W na nb ca cb Aa (some ⟨b, off, none⟩) ra (x :: l)) (h2 : B ≤ BB) (hne : BA ≠ BB) {A' : Option Addr} (hA : A' = if cb = 1 then some ⟨b, off, none⟩ else some ⟨b, off + 1, none⟩) :
    BothI BA BB B (W.setCell ⟨BB, 0, none⟩ (.slice A' (nb - 1) (cb - 1))) na (nb - 1) ca (cb - 1) Aa A' ra l :=
  ⟨⟨h.a.box.far hne _, h.a.rd.setCell h2 _, h.a.nc, h.a.len⟩, h.b.next h2 hA, by have := h.hB; simpa [World.setCell] using this⟩
theorem BothI.kpx {n1 : Nat} {S : Nat → Prop} (h : BothI BA BB B W na nb ca cb Aa Ab ra rb) (hk : KpX n1 S W Y) (hB : B ≤ n1) (hS : ∀ b, b < B → ¬ S b) (h3 : BA < n1) (h4 : BB < n1) (hSA : ¬ S BA) (hSB : ¬ S BB) : BothI BA BB B Y na nb ca cb Aa Ab ra rb :=
  ⟨h.a.kpx hk hB hS h3 hSA, h.b.kpx hk hB hS h4 hSB, Nat.le_trans h.hB hk.size⟩
end
/-- The length of the slice in a box. -/
def lenAt (W : World) (g : Nat) : Nat := match W.cell? ⟨g, 0, none⟩ with | some (.slice _ n _) => n | _ => 0
theorem BothI.lens {BA BB B : Nat} {W : World} {na nb ca cb : Nat} {Aa Ab : Option Addr} {ra rb : List Int} (h : BothI BA BB B W na nb ca cb Aa Ab ra rb) : lenAt W BA + lenAt W BB = na + nb := by
  unfold lenAt
  rw [h.a.cell0, h.b.cell0]

attribute [local go_sem] Oper.semAt_some

set_option maxRecDepth 100000 in
set_option maxHeartbeats 4000000 in
theorem both_feeds (n : Nat) (hn : 2 ≤ n) (BA BB B n1 : Nat) (S : Nat → Prop) (A A' : Option Addr) (m c m' c' : Nat) (la lb : List Int) (w : World) (hA : Rest w BA B m A c la) (hA' : Rest w BB B m' A' c' lb)
    (hm : m ≤ 100000) (hm' : m' ≤ 100000) (hne : BA ≠ BB) (h1 : B ≤ BA) (h2 : B ≤ BB) (h3 : BA < n1) (h4 : BB < n1) (hS : ∀ b, b < B → ¬ S b) (hSA : ¬ S BA) (hSB : ¬ S BB) :
    Feeds Try.prog n 54 #[.pointer (some ⟨BA, 0, none⟩), .pointer (some ⟨BB, 0, none⟩)] encP (fun k => k = BA ∨ k = BB) (KpX n1 S) (bothL la lb) w := by
  intro l J W hW hJ hY h0
  have HJ := Lib.hid hJ
  have HY := Lib.hid hY
  have HBN := Lib.hid (show B ≤ n1 by omega)
  have ra0 := hA.fr (Fr.of_below (S := No) hW) (by have := hA.box.lt; omega) (fun _ _ x => x) (fun x => x)
  have rb0 := hA'.fr (Fr.of_below (S := No) hW) (by have := hA.box.lt; omega) (fun _ _ x => x) (fun x => x)
  have hd1 : 1 ≤ n := by omega
  clear hA hA' hJ hY
  refine callsIn_of_wp Try.func54 rfl trivial ?_ rfl
  simp only [Try.ntmps54, List.size_toArray, List.length_cons, List.length_nil, Nat.reduceAdd, Nat.reduceSub, Array.replicate_succ, Array.replicate_zero, List.push_toArray, List.append_toArray, List.nil_append, List.cons_append]
  gi_wp2
  gi_loopw [4] (fun _ wr => ∃ (na nb ca cb : Nat) (Aa Ab : Option Addr) (ra rb : List Int) (pre : List (Int × Int)), BothI BA BB B wr na nb ca cb Aa Ab ra rb ∧ na ≤ 100000 ∧ nb ≤ 100000 ∧ pre ++ bothL ra rb = bothL la lb ∧ J pre wr) (fun _ wr => lenAt wr BA + lenAt wr BB)
  case atStart => exact ⟨m, m', c, c', A, A', la, lb, [], ⟨ra0, rb0, by have := ra0.box.lt; omega⟩, hm, hm', rfl, h0⟩
  case round =>
    clear ra0 rb0 h0
    obtain ⟨na, nb, ca, cb, Aa, Ab, ra, rb, pre, BI0, hna, hnb, hpre, hj⟩ := hrel
    have BI := Lib.hid BI0
    have HP := Lib.hid hpre
    have HJJ := Lib.hid hj
    have ka := BI0.a.cell0
    have kb := BI0.b.cell0
    have za := BI0.a.box.frozen 0
    have zb := BI0.b.box.frozen 0
    have lra := BI0.a.len
    have lrb := BI0.b.len
    clear BI0 hpre hj
    have bo1 : bits BinOp.or IntKind.i64 0 1 = 1 := by decide
    have bo2 : bits BinOp.or IntKind.i64 0 2 = 2 := by decide
    have bo3 : bits BinOp.or IntKind.i64 1 2 = 3 := by decide
    have ba1 : bits BinOp.and IntKind.i64 1 1 = 1 := by decide
    have ba2 : bits BinOp.and IntKind.i64 1 2 = 0 := by decide
    have ba3 : bits BinOp.and IntKind.i64 2 1 = 0 := by decide
    have ba4 : bits BinOp.and IntKind.i64 2 2 = 2 := by decide
    have ba5 : bits BinOp.and IntKind.i64 3 1 = 1 := by decide
    have ba6 : bits BinOp.and IntKind.i64 3 2 = 2 := by decide
    match ra, rb with
    | [], [] =>
      have hn0 : na = 0 := by simpa using lra.symm
      subst hn0
      have hn1 : nb = 0 := by simpa using lrb.symm
      subst hn1
      gi_wp2
      go_end0
      have := HP.out
      rw [bothL, List.append_nil] at this
      rw [← this]
      exact ⟨⟨_, rfl⟩, HJJ.out⟩
    | x :: r, [] =>
      obtain ⟨b, off, rfl, hb, hx⟩ := BI.out.a.head
      have hb1 : b ≠ BA := by omega
      have hb2 : b ≠ BB := by omega
      have hna1 : 0 < na := by simp at lra; omega
      have hna2 : (0 : Int) < (na : Int) := by omega
      have hna3 : ((na : Int) == 0) = false := by simp; omega
      have hna4 : 1 ≤ na := hna1
      have hca : na ≤ ca := BI.out.a.nc
      have hca1 : 1 ≤ ca := by omega
      have hn0 : nb = 0 := by simpa using lrb.symm
      subst hn0
      clear lra lrb
      have HL := Lib.hid (show bothL (x :: r) [] = (x, 1) :: bothL r [] by rw [bothL])
      by_cases hc1 : ca = 1
      · obtain rfl : na = 1 := by omega
        subst hc1
        gi_wp2
        gi_quiet (fail)
        generalize nq = q1
        gi_wp2
        gi_quiet (fail)
        generalize nq = q2
        gi_wp2
        gi_region
        obtain ⟨X, hX⟩ : ∃ X, X = (wr.drewN (q1 + q2 + 1)).setCell ⟨BA, 0, none⟩ (.slice (some ⟨b, off, none⟩) 0 0) := ⟨_, rfl⟩
        rw [← hX]
        have BX := Lib.hid (show BothI BA BB B X _ _ _ _ _ _ _ _ from by rw [hX]; exact (BI.out.fr0 ((Fr.refl No wr).drewN _)).nextA h1 (fun h => hne h.symm) (by simp))
        have JX := Lib.hid (HJ.out _ _ X HJJ.out (by rw [hX]; exact ((Fr.refl _ wr).drewN _).setCell (.inr (.inl rfl)) _))
        clear hX HJJ ka kb za zb
        obtain ⟨fn, tmps, assign, body, hyy, hR⟩ := HY.out pre (x, 1) X JX.out ⟨bothL r [], by rw [← HP.out, HL.out]; simp⟩
        simp only [encP] at hyy hR
        gi_wp2
        refine hR.mono ?_
        rintro e W3 ⟨rfl, hJ3, hk3⟩
        have B3 := Lib.hid (BX.out.kpx hk3 HBN.out hS h3 h4 hSA hSB)
        have L3 := Lib.hid B3.out.lens
        have L0 := Lib.hid BI.out.lens
        clear hyy hk3 hR
        gi_wp2
        go_roundw
        case rel => exact ⟨_, 0, _, cb, _, Ab, r, [], pre ++ [(x, 1)], B3.out, by omega, by omega, by rw [List.append_assoc, ← HP.out, HL.out]; rfl, hJ3⟩
        case measure => rw [L3.out, L0.out]; omega
      · gi_wp2
        gi_quiet (fail)
        generalize nq = q1
        gi_wp2
        gi_quiet (fail)
        generalize nq = q2
        gi_wp2
        gi_region
        obtain ⟨X, hX⟩ : ∃ X, X = (wr.drewN (q1 + q2 + 1)).setCell ⟨BA, 0, none⟩ (.slice (some ⟨b, off + 1, none⟩) (na - 1) (ca - 1)) := ⟨_, rfl⟩
        rw [← hX]
        have BX := Lib.hid (show BothI BA BB B X _ _ _ _ _ _ _ _ from by rw [hX]; exact (BI.out.fr0 ((Fr.refl No wr).drewN _)).nextA h1 (fun h => hne h.symm) (by simp [hc1]))
        have JX := Lib.hid (HJ.out _ _ X HJJ.out (by rw [hX]; exact ((Fr.refl _ wr).drewN _).setCell (.inr (.inl rfl)) _))
        clear hX HJJ ka kb za zb
        obtain ⟨fn, tmps, assign, body, hyy, hR⟩ := HY.out pre (x, 1) X JX.out ⟨bothL r [], by rw [← HP.out, HL.out]; simp⟩
        simp only [encP] at hyy hR
        gi_wp2
        refine hR.mono ?_
        rintro e W3 ⟨rfl, hJ3, hk3⟩
        have B3 := Lib.hid (BX.out.kpx hk3 HBN.out hS h3 h4 hSA hSB)
        have L3 := Lib.hid B3.out.lens
        have L0 := Lib.hid BI.out.lens
        clear hyy hk3 hR
        gi_wp2
        go_roundw
        case rel => exact ⟨_, 0, _, cb, _, Ab, r, [], pre ++ [(x, 1)], B3.out, by omega, by omega, by rw [List.append_assoc, ← HP.out, HL.out]; rfl, hJ3⟩
        case measure => rw [L3.out, L0.out]; omega
    | [], y :: s =>
      obtain ⟨b', off', rfl, hb', hy⟩ := BI.out.b.head
      have hb3 : b' ≠ BA := by omega
      have hb4 : b' ≠ BB := by omega
      have hnb1 : 0 < nb := by simp at lrb; omega
      have hnb2 : (0 : Int) < (nb : Int) := by omega
      have hnb3 : ((nb : Int) == 0) = false := by simp; omega
      have hnb4 : 1 ≤ nb := hnb1
      have hcb : nb ≤ cb := BI.out.b.nc
      have hcb1 : 1 ≤ cb := by omega
      have hn0 : na = 0 := by simpa using lra.symm
      subst hn0
      clear lra lrb
      have HL := Lib.hid (show bothL [] (y :: s) = (y, 2) :: bothL [] s by rw [bothL])
      by_cases hc2 : cb = 1
      · obtain rfl : nb = 1 := by omega
        subst hc2
        gi_wp2
        gi_quiet (fail)
        generalize nq = q1
        gi_wp2
        gi_quiet (fail)
        generalize nq = q2
        gi_wp2
        gi_region
        obtain ⟨X, hX⟩ : ∃ X, X = (wr.drewN (q1 + q2 + 1)).setCell ⟨BB, 0, none⟩ (.slice (some ⟨b', off', none⟩) 0 0) := ⟨_, rfl⟩
        rw [← hX]
        have BX := Lib.hid (show BothI BA BB B X _ _ _ _ _ _ _ _ from by rw [hX]; exact (BI.out.fr0 ((Fr.refl No wr).drewN _)).nextB h2 hne (by simp))
        have JX := Lib.hid (HJ.out _ _ X HJJ.out (by rw [hX]; exact ((Fr.refl _ wr).drewN _).setCell (.inr (.inr rfl)) _))
        clear hX HJJ ka kb za zb
        obtain ⟨fn, tmps, assign, body, hyy, hR⟩ := HY.out pre (y, 2) X JX.out ⟨bothL [] s, by rw [← HP.out, HL.out]; simp⟩
        simp only [encP] at hyy hR
        gi_wp2
        refine hR.mono ?_
        rintro e W3 ⟨rfl, hJ3, hk3⟩
        have B3 := Lib.hid (BX.out.kpx hk3 HBN.out hS h3 h4 hSA hSB)
        have L3 := Lib.hid B3.out.lens
        have L0 := Lib.hid BI.out.lens
        clear hyy hk3 hR
        gi_wp2
        go_roundw
        case rel => exact ⟨0, _, ca, _, Aa, _, [], s, pre ++ [(y, 2)], B3.out, by omega, by omega, by rw [List.append_assoc, ← HP.out, HL.out]; rfl, hJ3⟩
        case measure => rw [L3.out, L0.out]; omega
      · gi_wp2
        gi_quiet (fail)
        generalize nq = q1
        gi_wp2
        gi_quiet (fail)
        generalize nq = q2
        gi_wp2
        gi_region
        obtain ⟨X, hX⟩ : ∃ X, X = (wr.drewN (q1 + q2 + 1)).setCell ⟨BB, 0, none⟩ (.slice (some ⟨b', off' + 1, none⟩) (nb - 1) (cb - 1)) := ⟨_, rfl⟩
        rw [← hX]
        have BX := Lib.hid (show BothI BA BB B X _ _ _ _ _ _ _ _ from by rw [hX]; exact (BI.out.fr0 ((Fr.refl No wr).drewN _)).nextB h2 hne (by simp [hc2]))
        have JX := Lib.hid (HJ.out _ _ X HJJ.out (by rw [hX]; exact ((Fr.refl _ wr).drewN _).setCell (.inr (.inr rfl)) _))
        clear hX HJJ ka kb za zb
        obtain ⟨fn, tmps, assign, body, hyy, hR⟩ := HY.out pre (y, 2) X JX.out ⟨bothL [] s, by rw [← HP.out, HL.out]; simp⟩
        simp only [encP] at hyy hR
        gi_wp2
        refine hR.mono ?_
        rintro e W3 ⟨rfl, hJ3, hk3⟩
        have B3 := Lib.hid (BX.out.kpx hk3 HBN.out hS h3 h4 hSA hSB)
        have L3 := Lib.hid B3.out.lens
        have L0 := Lib.hid BI.out.lens
        clear hyy hk3 hR
        gi_wp2
        go_roundw
        case rel => exact ⟨0, _, ca, _, Aa, _, [], s, pre ++ [(y, 2)], B3.out, by omega, by omega, by rw [List.append_assoc, ← HP.out, HL.out]; rfl, hJ3⟩
        case measure => rw [L3.out, L0.out]; omega
    | x :: r, y :: s =>
      obtain ⟨b, off, rfl, hb, hx⟩ := BI.out.a.head
      have hb1 : b ≠ BA := by omega
      have hb2 : b ≠ BB := by omega
      have hna1 : 0 < na := by simp at lra; omega
      have hna2 : (0 : Int) < (na : Int) := by omega
      have hna3 : ((na : Int) == 0) = false := by simp; omega
      have hna4 : 1 ≤ na := hna1
      have hca : na ≤ ca := BI.out.a.nc
      have hca1 : 1 ≤ ca := by omega
      obtain ⟨b', off', rfl, hb', hy⟩ := BI.out.b.head
      have hb3 : b' ≠ BA := by omega
      have hb4 : b' ≠ BB := by omega
      have hnb1 : 0 < nb := by simp at lrb; omega
      have hnb2 : (0 : Int) < (nb : Int) := by omega
      have hnb3 : ((nb : Int) == 0) = false := by simp; omega
      have hnb4 : 1 ≤ nb := hnb1
      have hcb : nb ≤ cb := BI.out.b.nc
      have hcb1 : 1 ≤ cb := by omega
      clear lra lrb
      by_cases hlt : x < y
      · have HL := Lib.hid (show bothL (x :: r) (y :: s) = (x, 1) :: bothL r (y :: s) by rw [bothL, if_pos hlt])
        by_cases hc1 : ca = 1
        · obtain rfl : na = 1 := by omega
          subst hc1
          gi_wp2
          gi_quiet (fail)
          generalize nq = q1
          gi_wp2
          gi_quiet (fail)
          generalize nq = q2
          gi_wp2
          gi_region
          obtain ⟨X, hX⟩ : ∃ X, X = (wr.drewN (q1 + q2 + 1)).setCell ⟨BA, 0, none⟩ (.slice (some ⟨b, off, none⟩) 0 0) := ⟨_, rfl⟩
          rw [← hX]
          have BX := Lib.hid (show BothI BA BB B X _ _ _ _ _ _ _ _ from by rw [hX]; exact (BI.out.fr0 ((Fr.refl No wr).drewN _)).nextA h1 (fun h => hne h.symm) (by simp))
          have JX := Lib.hid (HJ.out _ _ X HJJ.out (by rw [hX]; exact ((Fr.refl _ wr).drewN _).setCell (.inr (.inl rfl)) _))
          clear hX HJJ ka kb za zb
          obtain ⟨fn, tmps, assign, body, hyy, hR⟩ := HY.out pre (x, 1) X JX.out ⟨bothL r (y :: s), by rw [← HP.out, HL.out]; simp⟩
          simp only [encP] at hyy hR
          gi_wp2
          refine hR.mono ?_
          rintro e W3 ⟨rfl, hJ3, hk3⟩
          have B3 := Lib.hid (BX.out.kpx hk3 HBN.out hS h3 h4 hSA hSB)
          have L3 := Lib.hid B3.out.lens
          have L0 := Lib.hid BI.out.lens
          clear hyy hk3 hR
          gi_wp2
          go_roundw
          case rel => exact ⟨_, nb, _, cb, _, _, r, y :: s, pre ++ [(x, 1)], B3.out, by omega, by omega, by rw [List.append_assoc, ← HP.out, HL.out]; rfl, hJ3⟩
          case measure => rw [L3.out, L0.out]; omega
        · gi_wp2
          gi_quiet (fail)
          generalize nq = q1
          gi_wp2
          gi_quiet (fail)
          generalize nq = q2
          gi_wp2
          gi_region
          obtain ⟨X, hX⟩ : ∃ X, X = (wr.drewN (q1 + q2 + 1)).setCell ⟨BA, 0, none⟩ (.slice (some ⟨b, off + 1, none⟩) (na - 1) (ca - 1)) := ⟨_, rfl⟩
          rw [← hX]
          have BX := Lib.hid (show BothI BA BB B X _ _ _ _ _ _ _ _ from by rw [hX]; exact (BI.out.fr0 ((Fr.refl No wr).drewN _)).nextA h1 (fun h => hne h.symm) (by simp [hc1]))
          have JX := Lib.hid (HJ.out _ _ X HJJ.out (by rw [hX]; exact ((Fr.refl _ wr).drewN _).setCell (.inr (.inl rfl)) _))
          clear hX HJJ ka kb za zb
          obtain ⟨fn, tmps, assign, body, hyy, hR⟩ := HY.out pre (x, 1) X JX.out ⟨bothL r (y :: s), by rw [← HP.out, HL.out]; simp⟩
          simp only [encP] at hyy hR
          gi_wp2
          refine hR.mono ?_
          rintro e W3 ⟨rfl, hJ3, hk3⟩
          have B3 := Lib.hid (BX.out.kpx hk3 HBN.out hS h3 h4 hSA hSB)
          have L3 := Lib.hid B3.out.lens
          have L0 := Lib.hid BI.out.lens
          clear hyy hk3 hR
          gi_wp2
          go_roundw
          case rel => exact ⟨_, nb, _, cb, _, _, r, y :: s, pre ++ [(x, 1)], B3.out, by omega, by omega, by rw [List.append_assoc, ← HP.out, HL.out]; rfl, hJ3⟩
          case measure => rw [L3.out, L0.out]; omega
      · by_cases hgt : y < x
        · have HL := Lib.hid (show bothL (x :: r) (y :: s) = (y, 2) :: bothL (x :: r) s by rw [bothL, if_neg hlt, if_pos hgt])
          by_cases hc2 : cb = 1
          · obtain rfl : nb = 1 := by omega
            subst hc2
            gi_wp2
            gi_quiet (fail)
            generalize nq = q1
            gi_wp2
            gi_quiet (fail)
            generalize nq = q2
            gi_wp2
            gi_region
            obtain ⟨X, hX⟩ : ∃ X, X = (wr.drewN (q1 + q2 + 1)).setCell ⟨BB, 0, none⟩ (.slice (some ⟨b', off', none⟩) 0 0) := ⟨_, rfl⟩
            rw [← hX]
            have BX := Lib.hid (show BothI BA BB B X _ _ _ _ _ _ _ _ from by rw [hX]; exact (BI.out.fr0 ((Fr.refl No wr).drewN _)).nextB h2 hne (by simp))
            have JX := Lib.hid (HJ.out _ _ X HJJ.out (by rw [hX]; exact ((Fr.refl _ wr).drewN _).setCell (.inr (.inr rfl)) _))
            clear hX HJJ ka kb za zb
            obtain ⟨fn, tmps, assign, body, hyy, hR⟩ := HY.out pre (y, 2) X JX.out ⟨bothL (x :: r) s, by rw [← HP.out, HL.out]; simp⟩
            simp only [encP] at hyy hR
            gi_wp2
            refine hR.mono ?_
            rintro e W3 ⟨rfl, hJ3, hk3⟩
            have B3 := Lib.hid (BX.out.kpx hk3 HBN.out hS h3 h4 hSA hSB)
            have L3 := Lib.hid B3.out.lens
            have L0 := Lib.hid BI.out.lens
            clear hyy hk3 hR
            gi_wp2
            go_roundw
            case rel => exact ⟨na, _, ca, _, _, _, x :: r, s, pre ++ [(y, 2)], B3.out, by omega, by omega, by rw [List.append_assoc, ← HP.out, HL.out]; rfl, hJ3⟩
            case measure => rw [L3.out, L0.out]; omega
          · gi_wp2
            gi_quiet (fail)
            generalize nq = q1
            gi_wp2
            gi_quiet (fail)
            generalize nq = q2
            gi_wp2
            gi_region
            obtain ⟨X, hX⟩ : ∃ X, X = (wr.drewN (q1 + q2 + 1)).setCell ⟨BB, 0, none⟩ (.slice (some ⟨b', off' + 1, none⟩) (nb - 1) (cb - 1)) := ⟨_, rfl⟩
            rw [← hX]
            have BX := Lib.hid (show BothI BA BB B X _ _ _ _ _ _ _ _ from by rw [hX]; exact (BI.out.fr0 ((Fr.refl No wr).drewN _)).nextB h2 hne (by simp [hc2]))
            have JX := Lib.hid (HJ.out _ _ X HJJ.out (by rw [hX]; exact ((Fr.refl _ wr).drewN _).setCell (.inr (.inr rfl)) _))
            clear hX HJJ ka kb za zb
            obtain ⟨fn, tmps, assign, body, hyy, hR⟩ := HY.out pre (y, 2) X JX.out ⟨bothL (x :: r) s, by rw [← HP.out, HL.out]; simp⟩
            simp only [encP] at hyy hR
            gi_wp2
            refine hR.mono ?_
            rintro e W3 ⟨rfl, hJ3, hk3⟩
            have B3 := Lib.hid (BX.out.kpx hk3 HBN.out hS h3 h4 hSA hSB)
            have L3 := Lib.hid B3.out.lens
            have L0 := Lib.hid BI.out.lens
            clear hyy hk3 hR
            gi_wp2
            go_roundw
            case rel => exact ⟨na, _, ca, _, _, _, x :: r, s, pre ++ [(y, 2)], B3.out, by omega, by omega, by rw [List.append_assoc, ← HP.out, HL.out]; rfl, hJ3⟩
            case measure => rw [L3.out, L0.out]; omega
        · have HL := Lib.hid (show bothL (x :: r) (y :: s) = (x, 3) :: bothL r s by rw [bothL, if_neg hlt, if_neg hgt])
          obtain rfl : x = y := by omega
          by_cases hc1 : ca = 1
          · obtain rfl : na = 1 := by omega
            subst hc1
            by_cases hc2 : cb = 1
            · obtain rfl : nb = 1 := by omega
              subst hc2
              gi_wp2
              gi_quiet (fail)
              generalize nq = q1
              gi_wp2
              gi_quiet (fail)
              generalize nq = q2
              gi_wp2
              gi_region
              obtain ⟨X1, hX1⟩ : ∃ X, X = (wr.drewN (q1 + q2 + 1)).setCell ⟨BA, 0, none⟩ (.slice (some ⟨b, off, none⟩) 0 0) := ⟨_, rfl⟩
              rw [← hX1]
              have BX1 := Lib.hid (show BothI BA BB B X1 _ _ _ _ _ _ _ _ from by rw [hX1]; exact (BI.out.fr0 ((Fr.refl No wr).drewN _)).nextA h1 (fun h => hne h.symm) (by simp))
              have JX1 := Lib.hid (HJ.out _ _ X1 HJJ.out (by rw [hX1]; exact ((Fr.refl _ wr).drewN _).setCell (.inr (.inl rfl)) _))
              have kb1 := BX1.out.b.cell0
              have zb1 := BX1.out.b.box.frozen 0
              have hy1 : X1.cell? ⟨b', off', none⟩ = some (.int .i64 x) := by
                obtain ⟨b2, off2, hq, _, hyx⟩ := BX1.out.b.head
                injection hq with hq
                injection hq with hq1 hq2
                subst hq1
                subst hq2
                exact hyx
              clear hX1 HJJ ka kb za zb
              gi_wp2
              gi_region
              obtain ⟨X, hX⟩ : ∃ X, X = (X1.setCell ⟨BB, 0, none⟩ (.slice (some ⟨b', off', none⟩) 0 0)).drew := ⟨_, rfl⟩
              rw [← hX]
              have BX := Lib.hid (show BothI BA BB B X _ _ _ _ _ _ _ _ from by rw [hX]; exact (BX1.out.nextB h2 hne (by simp)).fr0 (Fr.refl No _).drew)
              have JX := Lib.hid (HJ.out _ _ X JX1.out (by rw [hX]; exact ((Fr.refl _ X1).setCell (.inr (.inr rfl)) _).drew))
              clear hX JX1 BX1 kb1 zb1 hy1
              obtain ⟨fn, tmps, assign, body, hyy, hR⟩ := HY.out pre (x, 3) X JX.out ⟨bothL r s, by rw [← HP.out, HL.out]; simp⟩
              simp only [encP] at hyy hR
              gi_wp2
              refine hR.mono ?_
              rintro e W3 ⟨rfl, hJ3, hk3⟩
              have B3 := Lib.hid (BX.out.kpx hk3 HBN.out hS h3 h4 hSA hSB)
              have L3 := Lib.hid B3.out.lens
              have L0 := Lib.hid BI.out.lens
              clear hyy hk3 hR
              gi_wp2
              go_roundw
              case rel => exact ⟨_, _, _, _, _, _, r, s, pre ++ [(x, 3)], B3.out, by omega, by omega, by rw [List.append_assoc, ← HP.out, HL.out]; rfl, hJ3⟩
              case measure => rw [L3.out, L0.out]; omega
            · gi_wp2
              gi_quiet (fail)
              generalize nq = q1
              gi_wp2
              gi_quiet (fail)
              generalize nq = q2
              gi_wp2
              gi_region
              obtain ⟨X1, hX1⟩ : ∃ X, X = (wr.drewN (q1 + q2 + 1)).setCell ⟨BA, 0, none⟩ (.slice (some ⟨b, off, none⟩) 0 0) := ⟨_, rfl⟩
              rw [← hX1]
              have BX1 := Lib.hid (show BothI BA BB B X1 _ _ _ _ _ _ _ _ from by rw [hX1]; exact (BI.out.fr0 ((Fr.refl No wr).drewN _)).nextA h1 (fun h => hne h.symm) (by simp))
              have JX1 := Lib.hid (HJ.out _ _ X1 HJJ.out (by rw [hX1]; exact ((Fr.refl _ wr).drewN _).setCell (.inr (.inl rfl)) _))
              have kb1 := BX1.out.b.cell0
              have zb1 := BX1.out.b.box.frozen 0
              have hy1 : X1.cell? ⟨b', off', none⟩ = some (.int .i64 x) := by
                obtain ⟨b2, off2, hq, _, hyx⟩ := BX1.out.b.head
                injection hq with hq
                injection hq with hq1 hq2
                subst hq1
                subst hq2
                exact hyx
              clear hX1 HJJ ka kb za zb
              gi_wp2
              gi_region
              obtain ⟨X, hX⟩ : ∃ X, X = (X1.setCell ⟨BB, 0, none⟩ (.slice (some ⟨b', off' + 1, none⟩) (nb - 1) (cb - 1))).drew := ⟨_, rfl⟩
              rw [← hX]
              have BX := Lib.hid (show BothI BA BB B X _ _ _ _ _ _ _ _ from by rw [hX]; exact (BX1.out.nextB h2 hne (by simp [hc2])).fr0 (Fr.refl No _).drew)
              have JX := Lib.hid (HJ.out _ _ X JX1.out (by rw [hX]; exact ((Fr.refl _ X1).setCell (.inr (.inr rfl)) _).drew))
              clear hX JX1 BX1 kb1 zb1 hy1
              obtain ⟨fn, tmps, assign, body, hyy, hR⟩ := HY.out pre (x, 3) X JX.out ⟨bothL r s, by rw [← HP.out, HL.out]; simp⟩
              simp only [encP] at hyy hR
              gi_wp2
              refine hR.mono ?_
              rintro e W3 ⟨rfl, hJ3, hk3⟩
              have B3 := Lib.hid (BX.out.kpx hk3 HBN.out hS h3 h4 hSA hSB)
              have L3 := Lib.hid B3.out.lens
              have L0 := Lib.hid BI.out.lens
              clear hyy hk3 hR
              gi_wp2
              go_roundw
              case rel => exact ⟨_, _, _, _, _, _, r, s, pre ++ [(x, 3)], B3.out, by omega, by omega, by rw [List.append_assoc, ← HP.out, HL.out]; rfl, hJ3⟩
              case measure => rw [L3.out, L0.out]; omega
          · by_cases hc2 : cb = 1
            · obtain rfl : nb = 1 := by omega
              subst hc2
              gi_wp2
              gi_quiet (fail)
              generalize nq = q1
              gi_wp2
              gi_quiet (fail)
              generalize nq = q2
              gi_wp2
              gi_region
              obtain ⟨X1, hX1⟩ : ∃ X, X = (wr.drewN (q1 + q2 + 1)).setCell ⟨BA, 0, none⟩ (.slice (some ⟨b, off + 1, none⟩) (na - 1) (ca - 1)) := ⟨_, rfl⟩
              rw [← hX1]
              have BX1 := Lib.hid (show BothI BA BB B X1 _ _ _ _ _ _ _ _ from by rw [hX1]; exact (BI.out.fr0 ((Fr.refl No wr).drewN _)).nextA h1 (fun h => hne h.symm) (by simp [hc1]))
              have JX1 := Lib.hid (HJ.out _ _ X1 HJJ.out (by rw [hX1]; exact ((Fr.refl _ wr).drewN _).setCell (.inr (.inl rfl)) _))
              have kb1 := BX1.out.b.cell0
              have zb1 := BX1.out.b.box.frozen 0
              have hy1 : X1.cell? ⟨b', off', none⟩ = some (.int .i64 x) := by
                obtain ⟨b2, off2, hq, _, hyx⟩ := BX1.out.b.head
                injection hq with hq
                injection hq with hq1 hq2
                subst hq1
                subst hq2
                exact hyx
              clear hX1 HJJ ka kb za zb
              gi_wp2
              gi_region
              obtain ⟨X, hX⟩ : ∃ X, X = (X1.setCell ⟨BB, 0, none⟩ (.slice (some ⟨b', off', none⟩) 0 0)).drew := ⟨_, rfl⟩
              rw [← hX]
              have BX := Lib.hid (show BothI BA BB B X _ _ _ _ _ _ _ _ from by rw [hX]; exact (BX1.out.nextB h2 hne (by simp)).fr0 (Fr.refl No _).drew)
              have JX := Lib.hid (HJ.out _ _ X JX1.out (by rw [hX]; exact ((Fr.refl _ X1).setCell (.inr (.inr rfl)) _).drew))
              clear hX JX1 BX1 kb1 zb1 hy1
              obtain ⟨fn, tmps, assign, body, hyy, hR⟩ := HY.out pre (x, 3) X JX.out ⟨bothL r s, by rw [← HP.out, HL.out]; simp⟩
              simp only [encP] at hyy hR
              gi_wp2
              refine hR.mono ?_
              rintro e W3 ⟨rfl, hJ3, hk3⟩
              have B3 := Lib.hid (BX.out.kpx hk3 HBN.out hS h3 h4 hSA hSB)
              have L3 := Lib.hid B3.out.lens
              have L0 := Lib.hid BI.out.lens
              clear hyy hk3 hR
              gi_wp2
              go_roundw
              case rel => exact ⟨_, _, _, _, _, _, r, s, pre ++ [(x, 3)], B3.out, by omega, by omega, by rw [List.append_assoc, ← HP.out, HL.out]; rfl, hJ3⟩
              case measure => rw [L3.out, L0.out]; omega
            · gi_wp2
              gi_quiet (fail)
              generalize nq = q1
              gi_wp2
              gi_quiet (fail)
              generalize nq = q2
              gi_wp2
              gi_region
              obtain ⟨X1, hX1⟩ : ∃ X, X = (wr.drewN (q1 + q2 + 1)).setCell ⟨BA, 0, none⟩ (.slice (some ⟨b, off + 1, none⟩) (na - 1) (ca - 1)) := ⟨_, rfl⟩
              rw [← hX1]
              have BX1 := Lib.hid (show BothI BA BB B X1 _ _ _ _ _ _ _ _ from by rw [hX1]; exact (BI.out.fr0 ((Fr.refl No wr).drewN _)).nextA h1 (fun h => hne h.symm) (by simp [hc1]))
              have JX1 := Lib.hid (HJ.out _ _ X1 HJJ.out (by rw [hX1]; exact ((Fr.refl _ wr).drewN _).setCell (.inr (.inl rfl)) _))
              have kb1 := BX1.out.b.cell0
              have zb1 := BX1.out.b.box.frozen 0
              have hy1 : X1.cell? ⟨b', off', none⟩ = some (.int .i64 x) := by
                obtain ⟨b2, off2, hq, _, hyx⟩ := BX1.out.b.head
                injection hq with hq
                injection hq with hq1 hq2
                subst hq1
                subst hq2
                exact hyx
              clear hX1 HJJ ka kb za zb
              gi_wp2
              gi_region
              obtain ⟨X, hX⟩ : ∃ X, X = (X1.setCell ⟨BB, 0, none⟩ (.slice (some ⟨b', off' + 1, none⟩) (nb - 1) (cb - 1))).drew := ⟨_, rfl⟩
              rw [← hX]
              have BX := Lib.hid (show BothI BA BB B X _ _ _ _ _ _ _ _ from by rw [hX]; exact (BX1.out.nextB h2 hne (by simp [hc2])).fr0 (Fr.refl No _).drew)
              have JX := Lib.hid (HJ.out _ _ X JX1.out (by rw [hX]; exact ((Fr.refl _ X1).setCell (.inr (.inr rfl)) _).drew))
              clear hX JX1 BX1 kb1 zb1 hy1
              obtain ⟨fn, tmps, assign, body, hyy, hR⟩ := HY.out pre (x, 3) X JX.out ⟨bothL r s, by rw [← HP.out, HL.out]; simp⟩
              simp only [encP] at hyy hR
              gi_wp2
              refine hR.mono ?_
              rintro e W3 ⟨rfl, hJ3, hk3⟩
              have B3 := Lib.hid (BX.out.kpx hk3 HBN.out hS h3 h4 hSA hSB)
              have L3 := Lib.hid B3.out.lens
              have L0 := Lib.hid BI.out.lens
              clear hyy hk3 hR
              gi_wp2
              go_roundw
              case rel => exact ⟨_, _, _, _, _, _, r, s, pre ++ [(x, 3)], B3.out, by omega, by omega, by rw [List.append_assoc, ← HP.out, HL.out]; rfl, hJ3⟩
              case measure => rw [L3.out, L0.out]; omega
end Go.Proofs.Ytclhdhgagjpicaa
