/- filled; key. -/
import Derived.Test.YtcjcoigjedcieaaFp
namespace Go.Proofs.Ytcjcoigjedcieaa
open Go.RowKit Go.Wk

def FilledQ (w : World) (s : QS) (e : Ending) (w' : World) : Prop := ∃ b D, e = .returned (.pointer (some ⟨b, 0, none⟩)) ∧ Mine w w' b D s

set_option maxRecDepth 100000 in
set_option maxHeartbeats 4000000 in
theorem filled_any (A : Option Addr) (n c sz : Nat) (ag : Int) (es : List (List Int)) (w : World) (h : RowF kOne 8 w A n c es) (hs : sz ≤ 1000) (hag : 1 ≤ ag ∧ ag ≤ 68719476736) :
    Calls Try.prog 11 #[.int .i64 sz, .int .i64 ag, .slice A n c] w (FilledQ w (fillK sz ag (ones es) (min n sz))) := by
  obtain ⟨m, hm⟩ : ∃ m, m = min n sz := ⟨_, rfl⟩
  rw [← hm]
  have HR := Lib.hid (h.cut (m := m) (by omega))
  have hel := h.2.2.2.1
  have HX := Lib.hid (show ∀ i, i < (ones es).length → ((ones es).getD i On.zero).Ok from fun i hi => ones_ok h (by rw [ones_len] at hi; omega))
  have HL := Lib.hid (show (ones es).length = n by rw [ones_len]; exact hel)
  have HG := Lib.hid hag
  have HSZ := Lib.hid (show (0 : Int) ≤ sz ∧ (sz : Int) ≤ 1024 by omega)
  have hc1 := h.1
  have hc2 := h.2.1
  have hmin : min (n : Int) (sz : Int) = (m : Int) := by omega
  have hmn : m ≤ n := by omega
  have hms : m ≤ sz := by omega
  have hmc : m ≤ c := by omega
  have N0 := Lib.hid (New_any sz ag HSZ.out hag w)
  clear h hag hm hel
  go_enter Try.func11, Try.ntmps11
  go_wp2_with fail
  refine N0.out.mono ?_
  rintro e w1 ⟨b, D, rfl, hn⟩
  have M0 := Lib.hid (show Mine w w1 b D (fillK sz ag (ones es) 0) from Mine.of hn (Fr.refl No w))
  clear hn
  go_wp2
  clear hmin
  go_loopw [26] (fun i wr => ∃ (k : Nat) (D : Nat → Prop), i = .int .i64 k ∧ k ≤ m ∧ Hid (Mine w wr b D (fillK sz ag (ones es) k))) (fun i _ => m - (intOf i).toNat)
  case atStart => exact ⟨0, D, rfl, Nat.zero_le _, M0⟩
  case round =>
    clear M0
    obtain ⟨k, D, rfl, hk, M⟩ := hrel
    by_cases hlt : k < m
    · obtain ⟨xb, xo, p, u, hx, rfl, hxb, hp, hu, h0, h1⟩ := one_at HR.out hlt
      have hgx : (ones (es.take m)).getD k On.zero = (ones es).getD k On.zero := by
        rw [ones_take]
        simp [List.getD_eq_getElem?_getD, hlt]
      rw [hgx] at hx
      obtain ⟨e1, e2⟩ := fillK_push (size := sz) (ag := ag) (xs := ones es) (k := k) (by rw [HL.out]; omega) (by omega) HX.out
      have hadd := (fillK_ag (size := sz) (ag := ag) (xs := ones es) k).2.2
      rw [hx] at e1 e2
      have c0 := (M.out.fr.cell (p := ⟨xb, xo + k * 2, none⟩) hxb (fun x => x)).trans h0
      have c1 := (M.out.fr.cell (p := ⟨xb, xo + k * 2 + 1, none⟩) hxb (fun x => x)).trans h1
      have PU := Lib.hid (fun X hX => Push_at b D _ X hX (k : Int) (p % 101) u (by unfold fits; omega) (by rw [hadd]; omega))
      dsimp only at e1 e2
      have hp1 : 0 ≤ p := hp.1
      have hp2 : p ≤ 255 := hp.2
      have hu1 : 0 ≤ u := hu.1
      have hu2 : u ≤ 4294967295 := hu.2
      generalize hg1 : fillK sz ag (ones es) k = s at *
      generalize hg2 : fillK sz ag (ones es) (k + 1) = s2 at *
      rw [e1, e2] at PU
      have HG2 := Lib.hid hg2
      have hlt2 : (k : Int) < (m : Int) := by omega
      clear h0 h1 hx hgx e1 e2 hadd hp hu hg1 hg2
      go_wp2_with fail
      refine (PU.out _ (M.out.at_.fr0 ((Fr.refl No wr).alloc _))).mono ?_
      rintro e w2 ⟨rfl, ht⟩
      obtain ⟨D2, M2, _, _⟩ := (M.out.fr0 ((Fr.refl No wr).alloc _)).next ht
      have M3 := Lib.hid M2
      clear ht M2
      go_wp2
      go_roundw
      case rel => exact ⟨k + 1, D2, by go_num, by omega, by rw [HG2.out]; exact M3⟩
      case measure => simp [intOf]; omega
    · obtain rfl : k = m := by omega
      go_wp2
      go_ret
      exact ⟨_, D, rfl, M.out⟩
end Go.Proofs.Ytcjcoigjedcieaa
