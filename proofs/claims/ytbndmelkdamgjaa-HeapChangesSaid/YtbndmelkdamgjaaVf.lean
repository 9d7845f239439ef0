/- filled. -/
import Derived.Test.YtbndmelkdamgjaaVso
namespace Go.Proofs.Ytbndmelkdamgjaa.So
open Go.RowKit Go.Wk

/-- What filled leaves. -/
def FilledR (w : World) (xs : List Int) (n : Nat) (e : Ending) (w' : World) : Prop := ∃ b, e = .returned (.pointer (some ⟨b, 0, none⟩)) ∧ OwnI 39 ltI w w' b No (stF xs n) n
set_option maxRecDepth 100000 in
set_option maxHeartbeats 4000000 in
theorem filled_any (A : Option Addr) (n c : Nat) (xs : List Int) (w : World) (h : Reads w w.heap.size 1 A n (xs.map (Value.int .u8))) (hw : ∀ x ∈ xs, 0 ≤ x ∧ x ≤ 255) (hn : n ≤ 100) :
    Calls Try.prog 46 #[.slice A n c] w fun e w' => FilledR w xs n e w' := by
  have hl := h.length_ints
  have hx : ∀ q, q < n → 0 ≤ xs.getD q 0 ∧ xs.getD q 0 ≤ 255 := fun q hq => by
    have hq2 : q < xs.length := by omega
    have : xs.getD q 0 = xs[q] := by simp [hq2]
    rw [this]
    exact hw _ (List.getElem_mem _)
  have HR := Lib.hid h
  have HX := Lib.hid hx
  clear h hw hl hx
  go_enter Try.func46, Try.ntmps46
  go_wp2_with fail
  refine (oNew (f := 39) (bf := ltI) w).mono ?_
  rintro e w1 ⟨b, rfl, h⟩
  have HO := Lib.hid (show OwnI 39 ltI w w1 b No (stF xs 0) ((0 : Nat) : Int) from h)
  clear h
  go_wp2_with fail
  go_loopw [9] (fun iv wr => ∃ k : Nat, iv = .int .i64 k ∧ k ≤ n ∧ Hid (OwnI 39 ltI w wr b No (stF xs k) k)) (fun iv _ => n - (intOf iv).toNat)
  case atStart => exact ⟨0, rfl, Nat.zero_le _, HO⟩
  case round =>
    clear HO
    obtain ⟨k, rfl, hk, HO⟩ := hrel
    by_cases hlt : k < n
    · obtain ⟨bq, off, rfl, hbq, hc0⟩ := HR.out.int_at hlt
      have c0 := (HO.out.fr.cell (p := ⟨bq, off + k, none⟩) hbq (fun z => z)).trans hc0
      have hx := HX.out k hlt
      have HF := okF xs k
      have HP := Lib.hid (oPush bef_lt HO.out (100 - (k : Int)) (xs.getD k 0) (by unfold fits; omega) HF.nid (by omega))
      have HE := Lib.hid (show ins ltI ⟨100 - (k : Int), xs.getD k 0, k⟩ (stF xs k) = stF xs (k + 1) from rfl)
      rw [HE.out] at HP
      have hx0 := hx.1
      have hx1 := hx.2
      generalize xs.getD k 0 = x at *
      have hlt2 : (k : Int) < (n : Int) := by omega
      have HLN := Lib.hid (okF xs (k + 1)).ln
      clear hx hc0 HF HE
      go_wp2_with fail
      refine HP.out.mono ?_
      rintro e w2 ⟨rfl, h2, _⟩
      have H2 := Lib.hid h2
      have HL := Lib.hid (oLen h2)
      rw [HLN.out] at HL
      have hnb : (((k + 1 : Nat) : Int) != (k : Int) + 1) = false := by simp
      clear h2 c0
      go_wp2_with fail
      refine HL.out.mono ?_
      rintro e w3 ⟨rfl, rfl⟩
      go_wp2
      go_roundw
      case rel => exact ⟨k + 1, by go_num, hlt, H2⟩
      case measure => simp [intOf]; omega
    · obtain rfl : k = n := by omega
      go_wp2
      go_ret
      exact ⟨b, rfl, HO.out⟩
end Go.Proofs.Ytbndmelkdamgjaa.So
