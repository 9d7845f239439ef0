/- The runs of a table, as an iterator. -/
import Derived.RangeFuncNested
import Derived.RangeFuncBound
import Derived.RangeFuncCalls
import Derived.RangeFuncLeaves
import Derived.RangeFuncBox
import Derived.Shelf.Abstract
import Derived.Shelf.RegionOpen
import Derived.OwnWalkIn
import Derived.TacticsInMore
import Derived.LoopNIn
import Derived.LoopIn
import Derived.Test.YtopcjakgfaobcaaB
namespace Go.Proofs.Ytopcjakgfaobcaa
open Go.RowKit Go.Shelf Go.Wk

attribute [local go_sem] Oper.semAt_some

/-- Below n, but for the blocks of S, all lies as it lay. -/
structure KpX (n : Nat) (S : Nat → Prop) (A B : World) : Prop where
  os : B.os = A.os
  tape : B.tape = A.tape
  output : B.output = A.output
  size : A.heap.size ≤ B.heap.size
  block : ∀ k, k < n → ¬ S k → B.heap[k]? = A.heap[k]?
theorem KpX.trans {n : Nat} {S : Nat → Prop} {A B C : World} (h : KpX n S A B) (k : KpX n S B C) : KpX n S A C :=
  ⟨k.os.trans h.os, k.tape.trans h.tape, k.output.trans h.output, Nat.le_trans h.size k.size, fun b hb hs => (k.block b hb hs).trans (h.block b hb hs)⟩
theorem KpX.refl (n : Nat) (S : Nat → Prop) (A : World) : KpX n S A A := ⟨rfl, rfl, rfl, Nat.le_refl _, fun _ _ _ => rfl⟩
theorem KpX.cell {n : Nat} {S : Nat → Prop} {A B : World} (h : KpX n S A B) {p : Addr} (hp : p.block < n) (hs : ¬ S p.block) : B.cell? p = A.cell? p := World.cell?_of_block (h.block p.block hp hs)
theorem KpX.of_fr {n : Nat} {S : Nat → Prop} {A B : World} (h : Fr S A B) (hn : n ≤ A.heap.size) : KpX n S A B := ⟨h.os, h.tape, h.output, h.size, fun k hk hs => h.block k (by omega) hs⟩
theorem KpX.put {n : Nat} {S : Nat → Prop} (W : World) (l : Nat) (o o' : Obj) (hl : n ≤ l) (hW : W.heap[l]? = some o) : KpX n S W (W.putObj l o') := by
  have hlt : l < W.heap.size := (Array.getElem?_eq_some_iff.1 hW).1
  have hg := grownBy_putObj' W l o'
  exact ⟨hg.os, hg.tape, hg.output, hg.size, fun k hk _ => hg.block k (by omega) (fun e => by injection e; omega)⟩

theorem valid_in (F : Fence) (n : Nat) (h35 : F.fn 35) (hro : F.round = none) (b : Nat) (w : World) (c3 : w.cell? ⟨b, 3, none⟩ = some (.bool true)) :
    CallsIn F n Try.prog 35 #[.pointer (some ⟨b, 0, none⟩)] w fun e w' => e = .returned (.bool true) ∧ w' = w := by
  refine callsIn_of_wp Try.func35 rfl h35 ?_ hro
  simp only [Try.ntmps35, List.size_toArray, List.length_cons, List.length_nil, Nat.reduceAdd, Nat.reduceSub, Array.replicate_succ, Array.replicate_zero, List.push_toArray, List.append_toArray, List.nil_append, List.cons_append]
  gi_wp2
  go_ret
  exact ⟨rfl, rfl⟩

theorem all_in (F : Fence) (n : Nat) (h39 : F.fn 39) (hro : F.round = none) (p : Option Addr) (w : World) :
    CallsIn F n Try.prog 39 #[.pointer p] w fun e w' => e = .returned (.func (.func 47) #[] #[.pointer (some ⟨w.heap.size, 0, none⟩)]) ∧ w' = w.alloc (.cells #[.pointer p] 22) := by
  refine callsIn_of_wp Try.func39 rfl h39 ?_ hro
  simp only [Try.ntmps39, List.size_toArray, List.length_cons, List.length_nil, Nat.reduceAdd, Nat.reduceSub, Array.replicate_succ, Array.replicate_zero, List.push_toArray, List.append_toArray, List.nil_append, List.cons_append]
  gi_wp2
  go_ret
  exact ⟨rfl, rfl⟩

/-- The runs as a function of the index. -/
def TS.at_ (s : TS) (j : Nat) : RV := s.live.getD j RV.zero

def encR (x : RV) : Array Value := #[.agg #[.int .i64 x.id, .int .i64 x.job, .int .i64 x.due, .int .i64 x.att, .int .i64 x.start]]

set_option maxRecDepth 100000 in
set_option maxHeartbeats 2000000 in
theorem all1_in (F : Fence) (n : Nat) (h47 : F.fn 47) (h35 : F.fn 35) (hro : F.round = none) (hn : 2 ≤ n) (l Bs b n1 : Nat) (S : Nat → Prop) (v : Value) (s : TS) (J Jx : List RV → World → Prop)
    (hY : ∀ pre x W, J pre W → pre.length < s.live.length → YieldAt F (n - 1) Try.prog l (encR x) W fun e W' =>
      (e = .returned (.bool true) ∧ J (pre ++ [x]) W' ∧ KpX n1 S W W') ∨ (e = .returned (.bool false) ∧ Jx (pre ++ [x]) W'))
    (W : World) (hBs : W.cell? ⟨Bs, 0, none⟩ = some (.pointer (some ⟨b, 0, none⟩))) (hBn : Bs < n1) (hBS : ¬ S Bs) (hT : TabV W b v s) (hD : ∀ k, dom b v k → k < n1 ∧ ¬ S k) (h0 : J [] W) :
    CallsIn F n Try.prog 47 #[.func (.yield l) #[] #[], .pointer (some ⟨Bs, 0, none⟩)] W fun e W' => (∃ v, e = .returned v) ∧
      ((∃ ys, ys = s.live ∧ J ys W') ∨ (∃ pre, pre <+: s.live ∧ Jx pre W')) := by
  have hTT := Lib.hid hT
  obtain ⟨A, c, hv, _⟩ := hT.form
  subst hv
  have c1 := hT.blk.cell 1
  have c3 := hT.blk.cell 3
  simp at c1 c3
  have hb := hD b (.inl rfl)
  have HD := Lib.hid hD
  have hlen := hT.ok.len
  have hsz := hT.ok.s1
  clear hT hD
  obtain ⟨m, hm⟩ : ∃ m, m = s.live.length := ⟨_, rfl⟩
  rw [← hm] at c1 hlen hY
  have HM := Lib.hid hm
  have hm1 : (m : Int) ≤ 1000 := by omega
  clear hm hlen hsz
  have hd1 : 1 ≤ n := by omega
  refine callsIn_of_wp Try.func47 rfl h47 ?_ hro
  simp only [Try.ntmps47, List.size_toArray, List.length_cons, List.length_nil, Nat.reduceAdd, Nat.reduceSub, Array.replicate_succ, Array.replicate_zero, List.push_toArray, List.append_toArray, List.nil_append, List.cons_append]
  gi_wp2
  gi_loopw [3] (fun i wr => ∃ k : Nat, k ≤ m ∧ i = .int .i64 k ∧ J (s.live.take k) wr ∧ KpX n1 S W wr) (fun i _ => m - (intOf i).toNat)
  case atStart => exact ⟨0, Nat.zero_le _, rfl, by simpa using h0, KpX.refl _ _ _⟩
  case round =>
    obtain ⟨k, hk, rfl, hJs, hK⟩ := hrel
    have b0 := (hK.cell (p := ⟨Bs, 0, none⟩) hBn hBS).trans hBs
    have b1 := (hK.cell (p := ⟨b, 1, none⟩) hb.1 hb.2).trans c1
    have b3 := (hK.cell (p := ⟨b, 3, none⟩) hb.1 hb.2).trans c3
    have HV := Lib.hid (valid_in F (n - 1) h35 hro b wr b3)
    by_cases hlt : k < m
    · obtain ⟨g, c', hv', hg, a0, a1, a2, a3, a4⟩ := hTT.out.at5 (i := k) (by rw [← HM.out]; exact hlt)
      rw [← HM.out] at hv'
      obtain ⟨rfl, rfl⟩ : A = some ⟨g, 0, none⟩ ∧ c = c' := by injection hv' with h1 _ h2; exact ⟨h1, h2⟩
      have hgd := HD.out g (.inr rfl)
      have key : ∀ j u, W.cell? ⟨g, j, none⟩ = some u → wr.cell? ⟨g, j, none⟩ = some u := fun j u h => (hK.cell (p := ⟨g, j, none⟩) hgd.1 hgd.2).trans h
      replace a0 := key _ _ a0; replace a1 := key _ _ a1; replace a2 := key _ _ a2; replace a3 := key _ _ a3; replace a4 := key _ _ a4
      obtain ⟨x, hx⟩ : ∃ x, x = s.live.getD k RV.zero := ⟨_, rfl⟩
      rw [← hx] at a0 a1 a2 a3 a4
      have hstep : s.live.take (k + 1) = s.live.take k ++ [x] := by
        have hkl : k < s.live.length := by rw [← HM.out]; exact hlt
        rw [List.take_succ_eq_append_getElem hkl, hx]
        simp [hkl]
      obtain ⟨fn, tmps, assign, body, hy, hR⟩ := hY _ x wr hJs (by rw [List.length_take]; have := HM.out; omega)
      simp only [encR] at hy hR
      have HST := Lib.hid hstep
      clear hx key hv' hstep
      gi_wp2_with (gi_at_call 35; refine HV.out.mono ?_; rintro e w' ⟨rfl, rfl⟩)
      refine hR.mono ?_
      rintro e W3 (⟨rfl, hJ3, hk3⟩ | ⟨rfl, hJx3⟩)
      · gi_wp2
        go_roundw
        case rel => exact ⟨k + 1, by omega, by go_num, by rw [HST.out]; exact hJ3, hK.trans hk3⟩
        case measure => simp [intOf]; omega
      · gi_wp2
        refine bodyPost_ret (results_none rfl _ _ _) rfl ?_
        exact ⟨⟨_, rfl⟩, .inr ⟨_, List.take_prefix (k + 1) s.live, by rw [HST.out]; exact hJx3⟩⟩
    · gi_wp2_with (gi_at_call 35; refine HV.out.mono ?_; rintro e w' ⟨rfl, rfl⟩)
      go_end0
      refine ⟨⟨_, rfl⟩, .inl ⟨_, rfl, ?_⟩⟩
      have hkm : k = s.live.length := by rw [← HM.out]; omega
      rw [hkm, List.take_length] at hJs
      exact hJs

/-- The value that all hands back stops by the law, and gives the runs in their order. -/
theorem all_stops (F : Fence) (n : Nat) (h47 : F.fn 47) (h35 : F.fn 35) (hro : F.round = none) (hn : 2 ≤ n) (Bs b n1 : Nat) (S : Nat → Prop) (v : Value) (s : TS) (w : World) (hB : Bs < w.heap.size)
    (hc : w.cell? ⟨Bs, 0, none⟩ = some (.pointer (some ⟨b, 0, none⟩))) (hBn : Bs < n1) (hBS : ¬ S Bs) (hT : TabV w b v s) (hD : ∀ k, dom b v k → k < n1 ∧ ¬ S k) :
    SeqStopsK F n Try.prog 47 #[.pointer (some ⟨Bs, 0, none⟩)] encR (KpX n1 S) (fun ys => ys = s.live) (fun pre => pre <+: s.live) s.live.length w := fun l J Jx W hW _ _ hY h0 =>
  all1_in F n h47 h35 hro hn l Bs b n1 S v s J Jx hY W ((hW.cell hB).trans hc) hBn hBS (hT.fr (Fr.of_below (S := No) hW) (fun _ _ x => x)) hD h0
end Go.Proofs.Ytopcjakgfaobcaa
