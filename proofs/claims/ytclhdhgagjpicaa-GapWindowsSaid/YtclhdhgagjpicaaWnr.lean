/- GapWindows: the walk. -/
import Derived.Test.YtclhdhgagjpicaaWnp
import Derived.Test.YtclhdhgagjpicaaRB
namespace Go.Proofs.Ytclhdhgagjpicaa
open Go.RowKit Go.Wk

set_option maxRecDepth 100000 in
set_option maxHeartbeats 8000000 in
theorem gapWindows_walk (f : Int) (A : Option Addr) (n c : Nat) (gs : List Int) (v0 o : Int) (w : World) (h : Reads w w.heap.size 1 A n (gs.map (Value.int .u16))) (hn : n ≤ 9223372036854775807) (hc : n ≤ c) (hf0 : 0 ≤ f) (hf1 : f ≤ 4294967295) (hg : ∀ x ∈ gs, 0 ≤ x ∧ x ≤ 65535) (hv0 : 0 ≤ v0) (hv1 : v0 ≤ 65535) (ho0 : 0 ≤ o) (ho1 : o ≤ 4294967295) :
    Calls Try.prog 9 #[.int .u32 f, .slice A n c, .int .u16 v0, .int .u32 o] w fun e w' => e = .returned (.bool true) ∧ Fr No w w' := by
  have HMD := Lib.hid (made_any f A n c gs w h hn hc hf0 hf1 hg)
  have HG := Lib.hid (madeL_good (m := min n 300) ⟨hf0, hf1⟩ hg (by omega))
  have HLN := Lib.hid (madeL_len f gs (min n 300))
  clear h hg
  generalize madeL f gs (min n 300) = L at *
  obtain ⟨m, hm, hm3⟩ : ∃ m, m = min n 300 ∧ m ≤ 300 := ⟨_, rfl, by omega⟩
  rw [← hm] at HLN
  clear hm
  obtain ⟨v, hv⟩ : ∃ v, v = v0 + 1 := ⟨_, rfl⟩
  have hv2 : 1 ≤ v := by omega
  have hv3 : v ≤ 65536 := by omega
  have HV := Lib.hid hv
  have HW0 := Lib.hid (wnd_good HG.out (v := v) (by omega) (by omega))
  obtain ⟨N, i, hmo, hmN, hmT⟩ := most_of HG.out (v := v) (by rw [HLN.out]; omega) (by omega) (by omega)
  have HMO := Lib.hid hmo
  have HMN := Lib.hid hmN
  have HMT := Lib.hid hmT
  have HC := Lib.hid (covN_frec HG.out (v := v) (by omega) (by omega))
  have HMUL := Lib.hid (cover_mul HG.out hv2 hmo)
  have hNl : N ≤ m + 1 := by rw [← hmo.eq]; have := win_le L v i; rw [HLN.out] at this; exact this
  have hN1 : 1 ≤ N := by rw [← hmo.eq]; exact win_pos hv2 hmo.lt
  have hC1 := frec_pos HG.out (v := v) (by rw [HLN.out]; omega)
  have hC2 := frec_le v L (-1)
  rw [HLN.out] at HMUL hC2
  have HANY := Lib.hid (fun x => insN_any HG.out.inc_ N hmo.le x)
  have HII := Lib.hid (show insN L (L.getD i 0) v = N by rw [insN_win HG.out.inc_ v hmo.lt, hmo.eq])
  have HIN := Lib.hid (show L.getD i 0 ∈ L from getD_mem hmo.lt)
  have HFST := Lib.hid (show ∀ j, j < m + 1 → insN L (L.getD j 0) v = N → L.getD i 0 ≤ L.getD j 0 from fun j hj he => by
    rcases Nat.lt_or_ge j i with h | h
    · rw [insN_win HG.out.inc_ v (by rw [HLN.out]; exact hj)] at he
      have := HMO.out.first j h
      omega
    · exact HG.out.le h (by rw [HLN.out]; exact hj))
  have hat := HG.out.val i hmo.lt
  obtain ⟨hat1, hat2⟩ := hat
  clear hv hmo hmN hmT
  generalize frec v L (-1) = C at *
  obtain ⟨at_, hat⟩ : ∃ a, a = L.getD i 0 := ⟨_, rfl⟩
  rw [← hat] at HMT HII HIN HFST hat1 hat2
  clear hat
  have hCm : N * C ≤ 301 * 301 := Nat.mul_le_mul (by omega) (by omega)
  have hmul := HMUL.out
  obtain ⟨P, hP⟩ : ∃ P, P = N * C := ⟨_, rfl⟩
  have HPP := Lib.hid (show (N : Int) * (C : Int) = (P : Int) by rw [hP]; push_cast; rfl)
  rw [← hP] at hCm hmul
  clear hP
  go_enter Try.func9, Try.ntmps9
  go_wp2_with fail
  refine HMD.out.mono ?_
  rintro e w2 ⟨A2, c2, rfl, ho, hf⟩
  have HL := Lib.hid (Reads.of_own ho)
  have HF := Lib.hid hf
  clear ho hf
  rw [HLN.out] at HL ⊢
  go_wp2_with fail
  rw [← HV.out]
  refine (most_any A2 (m + 1) c2 _ L v _ HL.out (Nat.le_refl _)).mono ?_
  rintro e w3 ⟨rfl, hf⟩
  replace HL := Lib.hid (HL.out.fr0 hf)
  replace HF := Lib.hid (HF.out.then0 hf)
  rw [HW0.out, HMN.out, HMT.out]
  clear hf
  go_wp2_with fail
  refine (cover_any A2 (m + 1) c2 _ L v _ HL.out (Nat.le_refl _)).mono ?_
  rintro e w4 ⟨rfl, hf⟩
  replace HL := Lib.hid (HL.out.fr0 hf)
  replace HF := Lib.hid (HF.out.then0 hf)
  rw [HW0.out, HC.out]
  clear hf
  have HINS := Lib.hid (fun x (h0 : -1000000 ≤ x) (h1 : x ≤ 253402300799) => inside_any A2 (m + 1) c2 _ L x v w4 (by omega) HL.out HG.out h0 h1 (by omega) (by omega))
  have HI1 := Lib.hid (HINS.out at_ (by omega) hat2)
  rw [HII.out] at HI1
  have HCT := Lib.hid (contains_any A2 (m + 1) c2 _ L at_ w4 (by omega) HL.out)
  rw [decide_eq_true HIN.out] at HCT
  have q1 : ((N : Int) != (N : Int)) = false := by simp
  have q2 : ¬ (N : Int) < 1 := by omega
  have q3 : ¬ (m : Int) + 1 < (N : Int) := by omega
  have q4 : ¬ (C : Int) < 1 := by omega
  have q5 : ¬ (m : Int) + 1 < (C : Int) := by omega
  have q6 : ¬ (P : Int) < (m : Int) + 1 := by omega
  have q7 : IntKind.i64.wrap (P : Int) = (P : Int) := by simp only [IntKind.wrap_i64]; omega
  have hPP := HPP.out
  go_wp2_with (first
    | (go_at_call 24; refine HI1.out.mono ?_; rintro e w5 ⟨rfl, rfl⟩)
    | (go_at_call 25; refine HCT.out.mono ?_; rintro e w5 ⟨rfl, rfl⟩))
  clear HI1 HCT
  go_loopw [89] (fun i wr => ∃ k : Nat, i = .int .i64 k ∧ k ≤ m + 1 ∧ w4 = wr) (fun i _ => m + 1 - (intOf i).toNat)
  case atStart => exact ⟨0, rfl, Nat.zero_le _, rfl⟩
  case round =>
    obtain ⟨k, rfl, hk, rfl⟩ := hrel
    by_cases hlt : k < m + 1
    · obtain ⟨b, off, rfl, hb, hcc⟩ := HL.out.int_at (k := k) hlt
      have hv := HG.out.val k (by rw [HLN.out]; exact hlt)
      have HFK := Lib.hid (HFST.out k hlt)
      obtain ⟨hva, hvb⟩ := hv
      have hl1 : (k : Int) < (m : Int) + 1 := by omega
      have HAK := Lib.hid (HANY.out (L.getD k 0))
      generalize L.getD k 0 = t at *
      have HIK := Lib.hid (HINS.out t (by omega) hvb)
      have hle := HAK.out
      have HFQ := HFK.out
      clear HFK
      by_cases he : insN L t v = N
      · have hta := HFQ he
        have htb : ¬ t < at_ := by omega
        rw [he] at HIK
        have q8 : ((N : Int) == (N : Int)) = true := by simp
        have q9 : ¬ (N : Int) < (N : Int) := by omega
        clear HFQ he hle
        go_wp2_with (go_at_call 24; refine HIK.out.mono ?_; rintro e w5 ⟨rfl, rfl⟩)
        go_roundw
        case rel => exact ⟨k + 1, by go_num, by omega, (by trivial)⟩
        case measure => simp [intOf]; omega
      · clear HFQ HAK
        generalize insN L t v = z at *
        have q8 : ((z : Int) == (N : Int)) = false := by simp; omega
        have q9 : ¬ (N : Int) < (z : Int) := by omega
        clear he
        go_wp2_with (go_at_call 24; refine HIK.out.mono ?_; rintro e w5 ⟨rfl, rfl⟩)
        go_roundw
        case rel => exact ⟨k + 1, by go_num, by omega, (by trivial)⟩
        case measure => simp [intOf]; omega
    · have hob0 : 0 ≤ o % 70000 := by omega
      have hob1 : o % 70000 ≤ 69999 := by omega
      have h1 := HANY.out (f + o % 70000 - 35000)
      have h2 := HANY.out o
      have HX1 := Lib.hid (HINS.out (f + o % 70000 - 35000) (by omega) (by omega))
      have HX2 := Lib.hid (HINS.out o (by omega) (by omega))
      have HWK := Lib.hid (works_any w4)
      generalize insN L (f + o % 70000 - 35000) v = z1 at *
      generalize insN L o v = z2 at *
      have q8 : (z1 : Int) ≤ (N : Int) := by omega
      have q9 : (z2 : Int) ≤ (N : Int) := by omega
      go_wp2_with fail
      refine HX1.out.mono ?_
      rintro e w5 ⟨rfl, rfl⟩
      go_wp2_with fail
      refine HX2.out.mono ?_
      rintro e w5 ⟨rfl, rfl⟩
      go_wp2_with fail
      refine HWK.out.mono ?_
      rintro e w7 ⟨rfl, hf⟩
      go_wp2
      go_ret
      exact ⟨rfl, HF.out.then0 hf⟩
end Go.Proofs.Ytclhdhgagjpicaa
