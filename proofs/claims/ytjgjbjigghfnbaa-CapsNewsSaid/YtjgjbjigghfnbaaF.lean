/- works: the examples of the chapter hold. -/
import Derived.Test.YtjgjbjigghfnbaaE
namespace Go.Proofs.Ytjgjbjigghfnbaa
open Go.RowKit Go.Wk

def k0 : CS := CS.fresh 3 [2, 5, 0]
def k1 : CS := k0.takeS 0
def k2 : CS := k1.takeS 0
def k3 : CS := k2.takeS 0
def k4 : CS := k3.takeS 2
def k5 : CS := k4.takeS 1
def k6 : CS := k5.takeS 1
def k7 : CS := k6.giveS 2
def k8 : CS := k7.giveS 0
theorem k0e : k0.takeE 0 = 0 := by decide +kernel
theorem k1e : k1.takeE 0 = 0 := by decide +kernel
theorem k2e : k2.takeE 0 = 4 := by decide +kernel
theorem k3e : k3.takeE 2 = 4 := by decide +kernel
theorem k4f : k4.freeV 1 = true := by decide +kernel
theorem k4l : k4.leftV 1 = 1 := by decide +kernel
theorem k4r : k4.err 1 = 0 := by decide +kernel
theorem k4e : k4.takeE 1 = 0 := by decide +kernel
theorem k5e : k5.takeE 1 = 4 := by decide +kernel
theorem k6t : k6.total = 3 := by decide +kernel
theorem k6e : k6.giveE 2 = 5 := by decide +kernel
theorem k7e : k7.giveE 0 = 0 := by decide +kernel
theorem k8f : k8.freeV 1 = true := by decide +kernel

theorem reads_three (w : World) (a b c : Int) : Reads (w.alloc (.cells #[.int .i64 a, .int .i64 b, .int .i64 c] 3)) (w.heap.size + 1) 1 (some ⟨w.heap.size, 0, none⟩) 3 ([a, b, c].map (Value.int .i64)) := by
  refine ⟨rfl, fun _ => ⟨_, rfl, Nat.lt_succ_self _, fun j u hu => ?_⟩⟩
  rw [add_plain, Nat.zero_add]
  rw [World.cell?_alloc_new]
  simpa using hu

theorem works_any (w : World) : Calls Try.prog 14 #[] w fun e w' => e = .returned (.bool true) ∧ Fr No w w' := by
  have hr := reads_three w 2 5 0
  go_enter Try.func14, Try.ntmps14
  go_wp2_with fail
  refine (new_good 3 _ _ _ [2, 5, 0] _ hr (by simp) (by decide) (by decide) (by decide)).mono ?_
  rintro e w1 ⟨rfl, hc, hb⟩
  simp only [World.size_alloc] at hc hb
  have F : Fr No w w1 := ((Fr.refl No w).alloc _).then0 (Fr.of_below (S := No) (by simpa using hb))
  have hc0 : CapsAt w1 (w.heap.size + 1) k0 := hc
  clear hr hb hc
  go_wp2_with fail
  refine (take_any _ _ _ _ hc0).mono ?_
  rintro e w2 ⟨rfl, hc, hf⟩
  rw [k0e]
  replace F := F.own hf (Nat.le_succ _)
  have hc1 : CapsAt w2 (w.heap.size + 1) k1 := hc
  clear hc hf hc0
  go_wp2_with fail
  refine (take_any _ _ _ _ hc1).mono ?_
  rintro e w3 ⟨rfl, hc, hf⟩
  rw [k1e]
  replace F := F.own hf (Nat.le_succ _)
  have hc2 : CapsAt w3 (w.heap.size + 1) k2 := hc
  clear hc hf hc1
  go_wp2_with fail
  refine (take_any _ _ _ _ hc2).mono ?_
  rintro e w4 ⟨rfl, hc, hf⟩
  rw [k2e]
  replace F := F.own hf (Nat.le_succ _)
  have hc3 : CapsAt w4 (w.heap.size + 1) k3 := hc
  clear hc hf hc2
  go_wp2_with fail
  refine (take_any _ _ _ _ hc3).mono ?_
  rintro e w5 ⟨rfl, hc, hf⟩
  rw [k3e]
  replace F := F.own hf (Nat.le_succ _)
  have hc4 : CapsAt w5 (w.heap.size + 1) k4 := hc
  clear hc hf hc3
  go_wp2_with fail
  refine (free_any _ _ _ _ hc4).mono ?_
  rintro e w6 ⟨rfl, hf⟩
  rw [k4f]
  replace F := F.then0 hf
  replace hc4 := hc4.fr hf (fun x => x)
  clear hf
  go_wp2_with fail
  refine (left_any _ _ _ _ hc4).mono ?_
  rintro e w7 ⟨rfl, hf⟩
  rw [k4l, k4r]
  replace F := F.then0 hf
  replace hc4 := hc4.fr hf (fun x => x)
  clear hf
  go_wp2_with fail
  refine (take_any _ _ _ _ hc4).mono ?_
  rintro e w8 ⟨rfl, hc, hf⟩
  rw [k4e]
  replace F := F.own hf (Nat.le_succ _)
  have hc5 : CapsAt w8 (w.heap.size + 1) k5 := hc
  clear hc hf hc4
  go_wp2_with fail
  refine (take_any _ _ _ _ hc5).mono ?_
  rintro e w9 ⟨rfl, hc, hf⟩
  rw [k5e]
  replace F := F.own hf (Nat.le_succ _)
  have hc6 : CapsAt w9 (w.heap.size + 1) k6 := hc
  clear hc hf hc5
  go_wp2_with fail
  refine (total_any _ _ _ hc6).mono ?_
  rintro e _ ⟨rfl, rfl⟩
  rw [k6t]
  go_wp2_with fail
  refine (give_any _ _ _ _ hc6).mono ?_
  rintro e w10 ⟨rfl, hc, hf⟩
  rw [k6e]
  replace F := F.own hf (Nat.le_succ _)
  have hc7 : CapsAt w10 (w.heap.size + 1) k7 := hc
  clear hc hf hc6
  go_wp2_with fail
  refine (give_any _ _ _ _ hc7).mono ?_
  rintro e w11 ⟨rfl, hc, hf⟩
  rw [k7e]
  replace F := F.own hf (Nat.le_succ _)
  have hc8 : CapsAt w11 (w.heap.size + 1) k8 := hc
  clear hc hf hc7
  go_wp2_with fail
  refine (free_any _ _ _ _ hc8).mono ?_
  rintro e w12 ⟨rfl, hf⟩
  rw [k8f]
  replace F := F.then0 hf
  replace hc8 := hc8.fr hf (fun x => x)
  clear hf
  go_wp2
  go_ret
  exact ⟨rfl, F⟩
end Go.Proofs.Ytjgjbjigghfnbaa
