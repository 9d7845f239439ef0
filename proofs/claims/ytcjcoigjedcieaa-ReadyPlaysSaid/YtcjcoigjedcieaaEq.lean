/- slices.Equal at items that are the same; slices.IndexFunc for any function. -/
import Derived.Test.YtcjcoigjedcieaaF
namespace Go.Proofs.Ytcjcoigjedcieaa
open Go.RowKit Go.Wk

set_option maxRecDepth 100000 in
set_option maxHeartbeats 4000000 in
theorem equal_eq (A A' : Option Addr) (n c n' c' : Nat) (l : List IV) (w : World) (h : Reads w w.heap.size 4 A n (icells l)) (h' : Reads w w.heap.size 4 A' n' (icells l)) (hn : n ≤ 9223372036854775807) :
    Calls Try.prog 27 #[.slice A n c, .slice A' n' c'] w fun e w' => e = .returned (.bool true) ∧ ∃ q, w' = w.drewN q := by
  have e : n' = n := by have := reads_ilen h; have := reads_ilen h'; omega
  subst e
  have HR := Lib.hid h
  have HR' := Lib.hid h'
  have hnb : ((n' : Int) != (n' : Int)) = false := by simp
  clear h h'
  go_enter Try.func27, Try.ntmps27
  go_wp2
  go_loopw [13] (fun i wr => ∃ k q : Nat, i = .int .i64 k ∧ k ≤ n' ∧ Hid (wr = w.drewN q)) (fun i _ => n' - (intOf i).toNat)
  case atStart => exact ⟨0, 0, rfl, Nat.zero_le _, Lib.hid rfl⟩
  case round =>
    obtain ⟨k, q, rfl, hk, HW⟩ := hrel
    by_cases hlt : k < n'
    · obtain ⟨q1, o1, rfl, _, _, a0, a1, a2, a3⟩ := reads_item HR.out hlt
      obtain ⟨q2, o2, rfl, _, _, b0, b1, b2, b3⟩ := reads_item HR'.out hlt
      have hlt2 : (k : Int) < (n' : Int) := by omega
      generalize l.getD k IV.zero = x at *
      obtain ⟨xi, xp, xs, xq⟩ := x
      dsimp only at *
      have SK := Lib.hid (show (wr.cell? ⟨q1, o1 + k * 4, none⟩ = some (.int .i64 xi) ∧ wr.cell? ⟨q1, o1 + k * 4 + 1, none⟩ = some (.int .i64 xp) ∧ wr.cell? ⟨q1, o1 + k * 4 + 2, none⟩ = some (.int .i64 xs) ∧ wr.cell? ⟨q1, o1 + k * 4 + 3, none⟩ = some (.int .i64 xq)) ∧
        (wr.cell? ⟨q2, o2 + k * 4, none⟩ = some (.int .i64 xi) ∧ wr.cell? ⟨q2, o2 + k * 4 + 1, none⟩ = some (.int .i64 xp) ∧ wr.cell? ⟨q2, o2 + k * 4 + 2, none⟩ = some (.int .i64 xs) ∧ wr.cell? ⟨q2, o2 + k * 4 + 3, none⟩ = some (.int .i64 xq)) from by
          rw [HW.out]; exact ⟨⟨a0, a1, a2, a3⟩, b0, b1, b2, b3⟩)
      clear a0 a1 a2 a3 b0 b1 b2 b3
      obtain ⟨⟨a0, a1, a2, a3⟩, b0, b1, b2, b3⟩ := SK.out
      go_wp2
      go_quiet (fail)
      go_wp2
      go_roundw
      case rel => exact ⟨k + 1, q + nq, by go_num, by omega, Lib.hid (by rw [HW.out, World.drewN_drewN])⟩
      case measure => simp [intOf]; omega
    · go_wp2
      go_ret
      exact ⟨rfl, q, HW.out⟩

/-- Where the first is that has a property; -1: nowhere. -/
def idxF (p : IV → Bool) (l : List IV) : Int := if l.findIdx p < l.length then (l.findIdx p : Int) else -1
set_option maxRecDepth 100000 in
set_option maxHeartbeats 4000000 in
theorem index_any (f : Nat) (cs : Array Value) (p : IV → Bool) (A : Option Addr) (n c : Nat) (l : List IV) (w : World) (h : Reads w w.heap.size 4 A n (icells l)) (hn : n ≤ 9223372036854775807)
    (hent : ∀ (args : Array Value) (w : World), (callFunc f args).run Try.prog w = .ok (.enter f args) w)
    (hcall : ∀ x X, x ∈ l → Fr No w X → Calls Try.prog f (#[valI x] ++ cs) X (fun e X' => e = .returned (.bool (p x)) ∧ Fr No X X')) :
    Calls Try.prog 25 #[.slice A n c, .func (.func f) #[] cs] w fun e w' => e = .returned (.int .i64 (idxF p l)) ∧ Fr No w w' := by
  have HR := Lib.hid h
  have HL := Lib.hid (reads_ilen h)
  have HC := Lib.hid hcall
  clear h hcall
  go_enter Try.func25, Try.ntmps25
  go_wp2
  go_loopw [8] (fun i wr => ∃ k : Nat, i = .int .i64 k ∧ k ≤ n ∧ Hid (Fr No w wr) ∧ Hid (∀ j, j < k → p (l.getD j IV.zero) = false)) (fun i _ => n - (intOf i).toNat)
  case atStart => exact ⟨0, rfl, Nat.zero_le _, Lib.hid (Fr.refl _ _), Lib.hid (fun j hj => by omega)⟩
  case round =>
    obtain ⟨k, rfl, hk, HF, HP⟩ := hrel
    by_cases hlt : k < n
    · have hkl : k < l.length := by rw [HL.out]; exact hlt
      obtain ⟨g, off, rfl, _, _, d0, d1, d2, d3⟩ := reads_item (HR.out.fr0 HF.out) hlt
      have HCk := Lib.hid (HC.out (l.getD k IV.zero) wr (getD_mem' hkl) HF.out)
      have hlt2 : (k : Int) < (n : Int) := by omega
      obtain ⟨x, hx⟩ : ∃ x, x = l.getD k IV.zero := ⟨_, rfl⟩
      rw [← hx] at d0 d1 d2 d3 HCk
      have HX := Lib.hid hx
      clear hx
      by_cases hp : p x = true
      · have HE := Lib.hid (show idxF p l = (k : Int) from by
          have : l.findIdx p = k := by
            rw [List.findIdx_eq hkl]
            refine ⟨by rw [← getD_get hkl, ← HX.out]; exact hp, fun j hj => ?_⟩
            have := HP.out j hj
            rwa [getD_get (show j < l.length by omega)] at this
          unfold idxF
          rw [this, if_pos hkl])
        rw [hp] at HCk
        clear hp hkl
        obtain ⟨x1, x2, x3, x4⟩ := x
        unfold valI at HCk
        dsimp only at *
        go_wp2_with fail
        refine HCk.out.mono ?_
        rintro e w2 ⟨rfl, hf⟩
        have HF2 := Lib.hid (HF.out.then0 hf)
        clear hf
        go_wp2
        go_ret
        exact ⟨ret1i HE.out.symm, HF2.out⟩
      · rw [Bool.not_eq_true] at hp
        have HP2 := Lib.hid (show ∀ j, j < k + 1 → p (l.getD j IV.zero) = false from fun j hj => by
          by_cases e : j = k
          · rw [e, ← HX.out]; exact hp
          · exact HP.out j (by omega))
        rw [hp] at HCk
        clear hp hkl
        obtain ⟨x1, x2, x3, x4⟩ := x
        unfold valI at HCk
        dsimp only at *
        go_wp2_with fail
        refine HCk.out.mono ?_
        rintro e w2 ⟨rfl, hf⟩
        have HF2 := Lib.hid (HF.out.then0 hf)
        clear hf
        go_wp2
        go_roundw
        case rel => exact ⟨k + 1, by go_num, by omega, HF2, HP2⟩
        case measure => simp [intOf]; omega
    · have HE := Lib.hid (show idxF p l = -1 from by
        have : l.findIdx p = l.length := by
          rw [List.findIdx_eq_length]
          intro z hz
          obtain ⟨j, hj, rfl⟩ := List.mem_iff_getElem.1 hz
          have := HP.out j (by rw [HL.out] at hj; omega)
          rw [getD_get hj] at this
          exact this
        unfold idxF
        rw [this, if_neg (Nat.lt_irrefl _)])
      go_wp2
      go_ret
      exact ⟨ret1i HE.out.symm, HF.out⟩
end Go.Proofs.Ytcjcoigjedcieaa
