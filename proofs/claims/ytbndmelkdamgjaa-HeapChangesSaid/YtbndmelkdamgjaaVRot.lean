/- The contract of rotate. -/
import Derived.Test.YtbndmelkdamgjaaVSwr
namespace Go.Proofs.Ytbndmelkdamgjaa.So
open Go.RowKit Go.Wk

set_option maxRecDepth 100000 in
set_option maxHeartbeats 4000000 in
theorem rot_any (g b c n p m q : Nat) (y : KY) (L : List TI) (w : World) (F : Value) (hs : Srtr w g b c y L) (hn : L.length = n) (hpm : p < m) (hmq : m < q) (hq : q ≤ n) (hn2 : n ≤ 1000000000000) :
    Calls Try.prog 99 #[.slice (some ⟨b, 0, none⟩) n c, .int .i64 p, .int .i64 m, .int .i64 q, F] w fun x w' => x = .returned (.tuple #[]) ∧ ∃ L', Srtr w' g b c y L' ∧ Rot p m q L L' ∧ Fr (· = b) w w' := by
  have HS := Lib.hid hs
  have HN := Lib.hid hn
  clear hs hn
  have w1 : IntKind.i64.wrap ((m : Int) - (p : Int)) = ((m - p : Nat) : Int) := by simp only [IntKind.wrap_i64]; omega
  have w2 : IntKind.i64.wrap ((q : Int) - (m : Int)) = ((q - m : Nat) : Int) := by simp only [IntKind.wrap_i64]; omega
  go_enter Try.func99, Try.ntmps99
  go_wp2
  go_loopw [10, 11] (fun i j wr => ∃ (k r : Nat) (M : List TI), i = .int .i64 k ∧ j = .int .i64 r ∧ Hid (RotI p m q k r L M) ∧ Hid (Srtr wr g b c y M) ∧ Hid (Fr (· = b) w wr)) (fun i j _ => (intOf i).toNat + (intOf j).toNat)
  case atStart => exact ⟨m - p, q - m, L, by go_num, by go_num, Lib.hid (RotI.start hpm hmq), HS, Lib.hid (Fr.refl _ _)⟩
  case round =>
    clear w1 w2
    obtain ⟨k, r, M, rfl, rfl, HI, HM, HF⟩ := hrel
    have hl2 : M.length = n := HI.out.turn.len.trans HN.out
    have k1 := HI.out.hi
    have k2 := HI.out.hj
    have k3 := HI.out.i1
    have k4 := HI.out.j1
    have w1 : IntKind.i64.wrap ((m : Int) - (k : Int)) = ((m - k : Nat) : Int) := by simp only [IntKind.wrap_i64]; omega
    have w2 : IntKind.i64.wrap ((m : Int) + (r : Int)) = ((m + r : Nat) : Int) := by simp only [IntKind.wrap_i64]; omega
    rcases (show k = r ∨ r < k ∨ k < r by omega) with rfl | h | h
    · have hb : ((k : Int) != (k : Int)) = false := by simp
      go_wp2_with fail
      refine (swr_any g b c n (m - k) m k y M wr F HM.out hl2 (by omega) (by omega) hn2).mono ?_
      rintro x w' ⟨rfl, L', hs', hx, hf⟩
      go_wp2
      go_end0
      exact ⟨rfl, L', hs', HI.out.last hx, HF.out.trans hf (fun _ _ x => x)⟩
    · have hb : ((k : Int) != (r : Int)) = true := by simp; omega
      have hgt : (r : Int) < (k : Int) := by omega
      have w3 : IntKind.i64.wrap ((k : Int) - (r : Int)) = ((k - r : Nat) : Int) := by simp only [IntKind.wrap_i64]; omega
      go_wp2_with fail
      refine (swr_any g b c n (m - k) m r y M wr F HM.out hl2 (by omega) (by omega) hn2).mono ?_
      rintro x w' ⟨rfl, L', hs', hx, hf⟩
      have HX := Lib.hid hx
      have HS' := Lib.hid hs'
      have HF' := Lib.hid (HF.out.trans hf (fun _ _ x => x))
      clear hx hs' hf
      go_wp2
      go_roundw
      case rel => exact ⟨k - r, r, L', by go_num, rfl, Lib.hid (HI.out.more h HX.out), HS', HF'⟩
      case measure => simp [intOf]; omega
    · have hb : ((k : Int) != (r : Int)) = true := by simp; omega
      have hgt : ¬ (r : Int) < (k : Int) := by omega
      have w3 : IntKind.i64.wrap ((r : Int) - (k : Int)) = ((r - k : Nat) : Int) := by simp only [IntKind.wrap_i64]; omega
      have w4 : IntKind.i64.wrap ((m : Int) + (r : Int) - (k : Int)) = ((m + r - k : Nat) : Int) := by simp only [IntKind.wrap_i64]; omega
      go_wp2_with fail
      refine (swr_any g b c n (m - k) (m + r - k) k y M wr F HM.out hl2 (by omega) (by omega) hn2).mono ?_
      rintro x w' ⟨rfl, L', hs', hx, hf⟩
      have HX := Lib.hid hx
      have HS' := Lib.hid hs'
      have HF' := Lib.hid (HF.out.trans hf (fun _ _ x => x))
      clear hx hs' hf
      go_wp2
      go_roundw
      case rel => exact ⟨k, r - k, L', rfl, by go_num, Lib.hid (HI.out.less h HX.out), HS', HF'⟩
      case measure => simp [intOf]; omega
end Go.Proofs.Ytbndmelkdamgjaa.So
