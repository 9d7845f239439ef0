/- works: the examples of the chapter hold. -/
import Derived.Test.YtopcjakgfaobcaaJ
namespace Go.Proofs.Ytopcjakgfaobcaa
open Go.RowKit Go.Wk

def k0 : TS := TS.new 2
def k1 : TS := k0.startS 0 100 1 105
def k2 : TS := k1.startS 3 90 2 100
def k3 : TS := k2.startS 0 200 1 200
def k4 : TS := k3.finS 1
def k5 : TS := k4.startS 0 200 1 200
theorem k0v : k0.startV 0 100 1 105 = 1 := by decide +kernel
theorem k0e : k0.startE 0 100 1 105 = 0 := by decide +kernel
theorem k1v : k1.startV 3 90 2 100 = 2 := by decide +kernel
theorem k1e : k1.startE 3 90 2 100 = 0 := by decide +kernel
theorem k2v : k2.startV 0 200 1 200 = 0 := by decide +kernel
theorem k2e : k2.startE 0 200 1 200 = 4 := by decide +kernel
theorem k3i : k3.oldId = 2 := by decide +kernel
theorem k3a : k3.oldAge 130 = 30 := by decide +kernel
theorem k3n : decide (k3.live ≠ []) = true := by decide +kernel
theorem k3g : (k3.getV 1).agg = .agg #[.int .i64 1, .int .i64 0, .int .i64 100, .int .i64 1, .int .i64 105] := by rfl
theorem k3f : k3.finE 1 = 0 := by decide +kernel
theorem k4v : k4.startV 0 200 1 200 = 3 := by decide +kernel
theorem k4e : k4.startE 0 200 1 200 = 0 := by decide +kernel
theorem k5l : k5.last = 3 := by decide +kernel
theorem k5c : cntJ 0 k5.live = 1 := by decide +kernel

theorem fr_dom {w w1 w2 : World} {D : Nat → Prop} (h : Fr No w w1) (k : Fr D w1 w2) (hD : ∀ b, D b → w.heap.size ≤ b) : Fr No w w2 := h.ownS k hD

set_option maxHeartbeats 2000000 in
theorem works_any (w : World) : Calls Try.prog 12 #[] w fun e w' => e = .returned (.bool true) ∧ Fr No w w' := by
  go_enter Try.func12, Try.ntmps12
  go_wp2_with fail
  refine (new_good 2 _ (by omega) (by omega)).mono ?_
  rintro e w1 ⟨rfl, hc, hf⟩
  have F := Lib.hid ((Fr.refl No w).then0 hf)
  have hc0 : TabAt w1 w.heap.size _ k0 := hc
  have HC := Lib.hid hc0
  have HD := Lib.hid (show ∀ k, k = w.heap.size → w.heap.size ≤ k from fun k h => by omega)
  clear hc hf hc0
  go_wp2_with fail
  refine (start_any _ _ _ _ 0 100 1 105 HC.out (by decide +kernel)).mono ?_
  rintro e w2 ⟨rfl, D2, hc, hf, hd⟩
  rw [k0v, k0e]
  have HD2 := Lib.hid (show ∀ k, D2 k → w.heap.size ≤ k from fun k h => (hd k h).elim (HD.out k) (fun h => Nat.le_trans F.out.size h))
  replace F := Lib.hid (fr_dom F.out hf HD.out)
  replace HC := Lib.hid (show TabAt w2 w.heap.size _ k1 from hc)
  replace HD := HD2
  clear hc hf hd
  go_wp2_with fail
  refine (start_any _ _ _ _ 3 90 2 100 HC.out (by decide +kernel)).mono ?_
  rintro e w3 ⟨rfl, D3, hc, hf, hd⟩
  rw [k1v, k1e]
  have HD3 := Lib.hid (show ∀ k, D3 k → w.heap.size ≤ k from fun k h => (hd k h).elim (HD.out k) (fun h => Nat.le_trans F.out.size h))
  replace F := Lib.hid (fr_dom F.out hf HD.out)
  replace HC := Lib.hid (show TabAt w3 w.heap.size _ k2 from hc)
  replace HD := HD3
  clear hc hf hd
  go_wp2_with fail
  refine (start_any _ _ _ _ 0 200 1 200 HC.out (by decide +kernel)).mono ?_
  rintro e w4 ⟨rfl, D4, hc, hf, hd⟩
  rw [k2v, k2e]
  have HD4 := Lib.hid (show ∀ k, D4 k → w.heap.size ≤ k from fun k h => (hd k h).elim (HD.out k) (fun h => Nat.le_trans F.out.size h))
  replace F := Lib.hid (fr_dom F.out hf HD.out)
  replace HC := Lib.hid (show TabAt w4 w.heap.size _ k3 from hc)
  replace HD := HD4
  clear hc hf hd
  go_wp2_with fail
  refine (oldest_any _ _ _ 130 _ HC.out (by omega)).mono ?_
  rintro e w5 ⟨rfl, hf⟩
  rw [k3i, k3a, k3n]
  replace F := Lib.hid (F.out.then0 hf)
  replace HC := Lib.hid (HC.out.fr0 hf)
  clear hf
  go_wp2_with fail
  refine (finish_any _ _ _ _ 1 HC.out).mono ?_
  rintro e w6 ⟨rfl, hc, hf⟩
  rw [k3g, k3f]
  replace F := Lib.hid (fr_dom F.out hf HD.out)
  replace HC := Lib.hid (show TabAt w6 w.heap.size _ k4 from hc)
  clear hc hf
  have hX := Blk.new w6 31 #[.int .i64 1, .int .i64 0, .int .i64 100, .int .i64 1, .int .i64 105]
  have HC6 := Lib.hid (HC.out.fr0 ((Fr.refl No w6).alloc (.cells #[.int .i64 1, .int .i64 0, .int .i64 100, .int .i64 1, .int .i64 105] 31)))
  have F6 := Lib.hid (F.out.alloc (.cells #[.int .i64 1, .int .i64 0, .int .i64 100, .int .i64 1, .int .i64 105] 31))
  have HXN := Lib.hid (show ¬ D4 w6.heap.size from fun h => Nat.lt_irrefl _ (HC.out.lt h))
  go_wp2_with fail
  refine (start_any _ _ _ _ 0 200 1 200 HC6.out (by decide +kernel)).mono ?_
  rintro e w7 ⟨rfl, D7, hc, hf, hd⟩
  rw [k4v, k4e]
  have hX7 := hX.fr hf HXN.out
  obtain ⟨e0, e1, e2, e3, e4⟩ := cells5 hX7
  replace F := Lib.hid (fr_dom F6.out hf HD.out)
  replace HC := Lib.hid (show TabAt w7 w.heap.size _ k5 from hc)
  clear hc hf hd hX hX7 HC6 F6 HXN HD
  go_wp2_with fail
  refine (last_any _ _ _ _ HC.out).mono ?_
  rintro e w8 ⟨rfl, rfl⟩
  rw [k5l]
  go_wp2_with fail
  refine (count_any _ _ _ 0 _ HC.out).mono ?_
  rintro e w9 ⟨rfl, hf⟩
  rw [k5c]
  replace F := Lib.hid (F.out.then0 hf)
  clear hf
  go_wp2
  go_ret
  exact ⟨rfl, F.out⟩
end Go.Proofs.Ytopcjakgfaobcaa
