/- GapNearest: the walk. -/
import Derived.Test.YtclhdhgagjpicaaMd
import Derived.RegionTactic
namespace Go.Proofs.Ytclhdhgagjpicaa
open Go.RowKit Go.Wk

/-- What Near leaves, of a good list that is not empty and a valid time. -/
def NearG (l : List Int) (t : Int) (w : World) (e : Ending) (w' : World) : Prop := ∃ k : Nat, e = .returned (.tuple #[.int .i64 k, .int .i64 0]) ∧ Nearest l t k ∧ Fr No w w'
theorem near_good (A : Option Addr) (n c B : Nat) (l : List Int) (t : Int) (w : World) (h : Reads w B 1 A n (l.map (Value.int .i64))) (hB : B ≤ w.heap.size) (hg : Good l) (hl : l ≠ []) (ht : 0 ≤ t ∧ t ≤ 253402300799) :
    Calls Try.prog 17 #[.slice A n c, .int .i64 t] w fun e w' => NearG l t w e w' := by
  have hE : nearE l t = 0 := by
    have hv : vld t = true := by simp [vld]; omega
    unfold nearE
    rw [if_neg (by rw [hv]; simp), if_neg (by rw [ok_of_good hg]; simp), if_neg hl]
  refine (near_any A n c B l t w h hB (by omega) (by omega)).mono ?_
  rintro e w' ⟨i, rfl, _, h2, hf⟩
  obtain ⟨k, rfl, hk⟩ := h2 hE
  exact ⟨k, by rw [hE], hk, hf⟩
theorem Nearest.self {l : List Int} (hg : Good l) {k j : Nat} (hk : k < l.length) (h : Nearest l (l.getD k 0) j) : j = k := by
  have h1 := h.le k hk
  have h2 := h.lt
  unfold dist at h1
  rcases Nat.lt_trichotomy j k with h3 | h3 | h3
  · have := hg.lt h3 hk; omega
  · exact h3
  · have := hg.lt h3 h2; omega

theorem times4 (w : World) (a o : Int) (ha : 0 ≤ a ∧ a ≤ 253402300799) (ho : 0 ≤ o ∧ o ≤ 253402300799) : ∃ ts : List Int, Hid (Reads (w.alloc (.cells #[.int .i64 a, .int .i64 o, .int .i64 0, .int .i64 253402300799] 2)) (w.alloc (.cells #[.int .i64 a, .int .i64 o, .int .i64 0, .int .i64 253402300799] 2)).heap.size 1 (some ⟨w.heap.size, 0, none⟩) 4 (ts.map (Value.int .i64))) ∧ Hid (ts.length = 4) ∧ Hid (∀ k, k < 4 → 0 ≤ ts.getD k 0 ∧ ts.getD k 0 ≤ 253402300799) := by
  refine ⟨[a, o, 0, 253402300799], Lib.hid (reads_new w 2 [a, o, 0, 253402300799] (by simp)), Lib.hid rfl, Lib.hid (fun k hk => ?_)⟩
  rcases (show k = 0 ∨ k = 1 ∨ k = 2 ∨ k = 3 by omega) with rfl | rfl | rfl | rfl
  · exact ha
  · exact ho
  · simp
  · simp

set_option maxRecDepth 100000 in
set_option maxHeartbeats 8000000 in
theorem gapNearest_walk (f : Int) (A : Option Addr) (n c : Nat) (gs : List Int) (o v : Int) (w : World) (h : Reads w w.heap.size 1 A n (gs.map (Value.int .u16))) (hn : n ≤ 9223372036854775807) (hc : n ≤ c) (hf0 : 0 ≤ f) (hf1 : f ≤ 4294967295) (hg : ∀ x ∈ gs, 0 ≤ x ∧ x ≤ 65535) (ho0 : 0 ≤ o) (ho1 : o ≤ 4294967295) (hv0 : 0 ≤ v) (hv1 : v ≤ 65535) :
    Calls Try.prog 4 #[.int .u32 f, .slice A n c, .int .u32 o, .int .u16 v] w fun e w' => e = .returned (.bool true) ∧ Fr No w w' := by
  have HMD := Lib.hid (made_any f A n c gs w h hn hc hf0 hf1 hg)
  have HG := Lib.hid (madeL_good (m := min n 300) ⟨hf0, hf1⟩ hg (by omega))
  have HLN := Lib.hid (madeL_len f gs (min n 300))
  clear h hg
  generalize madeL f gs (min n 300) = L at *
  obtain ⟨p, hp⟩ : ∃ p, p = L.length := ⟨_, rfl⟩
  have hp1 : 1 ≤ p := by rw [hp, HLN.out]; omega
  have hp2 : p ≤ 301 := by rw [hp, HLN.out]; omega
  have HP := Lib.hid hp
  clear hp HLN
  go_enter Try.func4, Try.ntmps4
  go_wp2_with fail
  refine HMD.out.mono ?_
  rintro e w1 ⟨A2, c2, rfl, ho, hf⟩
  have HL := Lib.hid (Reads.of_own ho)
  have HF := Lib.hid hf
  rw [← HP.out] at HL ⊢
  clear ho hf HMD
  have hob0 : 0 ≤ o % 200000 := by omega
  have hob1 : o % 200000 ≤ 199999 := by omega
  have HL0 := Lib.hid (show L ≠ [] from fun h => by have h2 := HP.out; rw [h] at h2; simp at h2; omega)
  go_wp2
  · obtain ⟨ts, HT, HT4, HTV⟩ := times4 w1 (f + o % 200000 - 1000) o (by omega) (by omega)
    have HF2 := Lib.hid (HF.out.then0 ((Fr.refl No w1).alloc (.cells #[.int .i64 (f + o % 200000 - 1000), .int .i64 o, .int .i64 0, .int .i64 253402300799] 2)))
    replace HL := Lib.hid (HL.out.fr0 ((Fr.refl No w1).alloc (.cells #[.int .i64 (f + o % 200000 - 1000), .int .i64 o, .int .i64 0, .int .i64 253402300799] 2)))
    generalize w1.alloc (.cells #[.int .i64 (f + o % 200000 - 1000), .int .i64 o, .int .i64 0, .int .i64 253402300799] 2) = w2 at *
    generalize w1.heap.size = X at *
    clear HF
    go_loopw [38] (fun i wr => ∃ k : Nat, i = .int .i64 k ∧ k ≤ 4 ∧ Fr No w2 wr) (fun i _ => 4 - (intOf i).toNat)
    case atStart => exact ⟨0, rfl, by omega, Fr.refl _ _⟩
    case round =>
      obtain ⟨k, rfl, hk, hf⟩ := hrel
      have HFF := Lib.hid hf
      clear hf
      have HLW := Lib.hid (HL.out.fr0 HFF.out)
      by_cases hlt : k < 4
      · have HTW := Lib.hid (HT.out.fr0 HFF.out)
        obtain ⟨b, off, hA, hb, hc⟩ := HTW.out.int_at (k := k) hlt
        injection hA with hA
        injection hA with hA1 hA2
        subst hA1
        subst hA2
        rw [Nat.zero_add] at hc
        have hv := HTV.out k hlt
        obtain ⟨hva, hvb⟩ := hv
        have hlt2 : (k : Int) < 4 := by omega
        generalize ts.getD k 0 = t at *
        go_wp2_with fail
        refine (near_good A2 p c2 _ L t wr HLW.out (Nat.le_refl _) HG.out HL0.out ⟨hva, hvb⟩).mono ?_
        rintro e w3 ⟨j, rfl, hnr, hf⟩
        have HNR := Lib.hid hnr
        have HF3 := Lib.hid (HFF.out.then0 hf)
        replace HLW := Lib.hid (HLW.out.fr0 hf)
        clear hnr hf hc
        have hjp : j < p := by rw [HP.out]; exact HNR.out.lt
        obtain ⟨b, off, rfl, hb, hc⟩ := HLW.out.int_at (k := j) hjp
        have hvj := HG.out.val j (by rw [← HP.out]; exact hjp)
        have HDJ := Lib.hid (show dist L t j = max (L.getD j 0 - t) (t - L.getD j 0) from rfl)
        obtain ⟨hvj1, hvj2⟩ := hvj
        have hj2 : (j : Int) < (p : Int) := by omega
        have hj3 : ¬ (j : Int) < 0 := by omega
        have hj4 : ¬ (p : Int) ≤ (j : Int) := by omega
        generalize L.getD j 0 = y at *
        by_cases hx : y - t ≤ t - y
        all_goals
          go_wp2
          go_quiet (fail)
          go_wp2
          all_goals
            obtain ⟨w4, HW4⟩ : ∃ w4 : World, Hid (w4 = w3.drewN nq) := ⟨_, Lib.hid rfl⟩
            rw [← HW4.out]
            have HF4 := Lib.hid (show Fr No w2 w4 by rw [HW4.out]; exact HF3.out.drewN nq)
            have HL4 := Lib.hid (show Reads w4 w4.heap.size 1 (some ⟨b, off, none⟩) p (L.map (Value.int .i64)) by rw [HW4.out]; exact HLW.out)
            clear HF3 HLW HW4 hc hb
            go_loopw [75] (fun i wr => ∃ q : Nat, i = .int .i64 q ∧ q ≤ p ∧ w4 = wr) (fun i _ => p - (intOf i).toNat)
            case atStart => exact ⟨0, rfl, Nat.zero_le _, rfl⟩
            case round =>
              obtain ⟨q, rfl, hq, rfl⟩ := hrel
              by_cases hqp : q < p
              · obtain ⟨b', off', hbb, _, hc⟩ := HL4.out.int_at (k := q) hqp
                injection hbb with hbb
                injection hbb with hb1 hb2
                subst hb1
                subst hb2
                have hvq := HG.out.val q (by rw [← HP.out]; exact hqp)
                obtain ⟨hvq1, hvq2⟩ := hvq
                have HD1 := Lib.hid (HNR.out.le q (by rw [← HP.out]; exact hqp))
                have HD2 := Lib.hid (HNR.out.first q)
                rw [HDJ.out, show dist L t q = max (L.getD q 0 - t) (t - L.getD q 0) from rfl] at HD1 HD2
                have hq2 : (q : Int) < (p : Int) := by omega
                generalize L.getD q 0 = u at *
                go_wp2
                all_goals
                  first
                    | (exfalso; have e1 := HD1.out; have e2 := HD2.out; omega)
                    | (go_roundw
                       case rel => exact ⟨q + 1, by go_num, by omega, (by trivial)⟩
                       case measure => simp [intOf]; omega)
              · go_wp2
                go_roundw
                case rel => exact ⟨k + 1, by go_num, by omega, HF4.out⟩
                case measure => simp [intOf]; omega
      · obtain ⟨kk, hkk, hkp⟩ : ∃ kk : Nat, v % (p : Int) = (kk : Int) ∧ kk < p := ⟨(v % (p : Int)).toNat, by have := Int.emod_nonneg v (show (p : Int) ≠ 0 by omega); omega, by have := Int.emod_lt_of_pos v (show (0 : Int) < p by omega); have := Int.emod_nonneg v (show (p : Int) ≠ 0 by omega); omega⟩
        obtain ⟨b, off, rfl, hb, hc⟩ := HLW.out.int_at (k := kk) hkp
        have hvj := HG.out.val kk (by rw [← HP.out]; exact hkp)
        have HSF := Lib.hid (fun j h => Nearest.self HG.out (k := kk) (j := j) (by rw [← HP.out]; exact hkp) h)
        obtain ⟨hvj1, hvj2⟩ := hvj
        have hkp2 : (kk : Int) < (p : Int) := by omega
        have hp0 : ((p : Int) == 0) = false := by simp; omega
        generalize L.getD kk 0 = t at *
        go_wp2_with fail
        refine (near_good _ p c2 _ L t wr HLW.out (Nat.le_refl _) HG.out HL0.out ⟨hvj1, hvj2⟩).mono ?_
        rintro e w3 ⟨j, rfl, hnr, hf⟩
        have hjk := HSF.out j hnr
        clear hnr
        obtain rfl := hjk
        have HF3 := Lib.hid (HF2.out.then0 (HFF.out.then0 hf))
        clear hf
        have hjj : ((j : Int) == (j : Int)) = true := by simp
        go_wp2_with fail
        refine (works_any _).mono ?_
        rintro e w5 ⟨rfl, hf⟩
        go_wp2
        go_ret
        exact ⟨rfl, HF3.out.then0 hf⟩
  · obtain ⟨ts, HT, HT4, HTV⟩ := times4 w1 (0) o (by omega) (by omega)
    have HF2 := Lib.hid (HF.out.then0 ((Fr.refl No w1).alloc (.cells #[.int .i64 (0), .int .i64 o, .int .i64 0, .int .i64 253402300799] 2)))
    replace HL := Lib.hid (HL.out.fr0 ((Fr.refl No w1).alloc (.cells #[.int .i64 (0), .int .i64 o, .int .i64 0, .int .i64 253402300799] 2)))
    generalize w1.alloc (.cells #[.int .i64 (0), .int .i64 o, .int .i64 0, .int .i64 253402300799] 2) = w2 at *
    generalize w1.heap.size = X at *
    clear HF
    go_loopw [38] (fun i wr => ∃ k : Nat, i = .int .i64 k ∧ k ≤ 4 ∧ Fr No w2 wr) (fun i _ => 4 - (intOf i).toNat)
    case atStart => exact ⟨0, rfl, by omega, Fr.refl _ _⟩
    case round =>
      obtain ⟨k, rfl, hk, hf⟩ := hrel
      have HFF := Lib.hid hf
      clear hf
      have HLW := Lib.hid (HL.out.fr0 HFF.out)
      by_cases hlt : k < 4
      · have HTW := Lib.hid (HT.out.fr0 HFF.out)
        obtain ⟨b, off, hA, hb, hc⟩ := HTW.out.int_at (k := k) hlt
        injection hA with hA
        injection hA with hA1 hA2
        subst hA1
        subst hA2
        rw [Nat.zero_add] at hc
        have hv := HTV.out k hlt
        obtain ⟨hva, hvb⟩ := hv
        have hlt2 : (k : Int) < 4 := by omega
        generalize ts.getD k 0 = t at *
        go_wp2_with fail
        refine (near_good A2 p c2 _ L t wr HLW.out (Nat.le_refl _) HG.out HL0.out ⟨hva, hvb⟩).mono ?_
        rintro e w3 ⟨j, rfl, hnr, hf⟩
        have HNR := Lib.hid hnr
        have HF3 := Lib.hid (HFF.out.then0 hf)
        replace HLW := Lib.hid (HLW.out.fr0 hf)
        clear hnr hf hc
        have hjp : j < p := by rw [HP.out]; exact HNR.out.lt
        obtain ⟨b, off, rfl, hb, hc⟩ := HLW.out.int_at (k := j) hjp
        have hvj := HG.out.val j (by rw [← HP.out]; exact hjp)
        have HDJ := Lib.hid (show dist L t j = max (L.getD j 0 - t) (t - L.getD j 0) from rfl)
        obtain ⟨hvj1, hvj2⟩ := hvj
        have hj2 : (j : Int) < (p : Int) := by omega
        have hj3 : ¬ (j : Int) < 0 := by omega
        have hj4 : ¬ (p : Int) ≤ (j : Int) := by omega
        generalize L.getD j 0 = y at *
        by_cases hx : y - t ≤ t - y
        all_goals
          go_wp2
          go_quiet (fail)
          go_wp2
          all_goals
            obtain ⟨w4, HW4⟩ : ∃ w4 : World, Hid (w4 = w3.drewN nq) := ⟨_, Lib.hid rfl⟩
            rw [← HW4.out]
            have HF4 := Lib.hid (show Fr No w2 w4 by rw [HW4.out]; exact HF3.out.drewN nq)
            have HL4 := Lib.hid (show Reads w4 w4.heap.size 1 (some ⟨b, off, none⟩) p (L.map (Value.int .i64)) by rw [HW4.out]; exact HLW.out)
            clear HF3 HLW HW4 hc hb
            go_loopw [75] (fun i wr => ∃ q : Nat, i = .int .i64 q ∧ q ≤ p ∧ w4 = wr) (fun i _ => p - (intOf i).toNat)
            case atStart => exact ⟨0, rfl, Nat.zero_le _, rfl⟩
            case round =>
              obtain ⟨q, rfl, hq, rfl⟩ := hrel
              by_cases hqp : q < p
              · obtain ⟨b', off', hbb, _, hc⟩ := HL4.out.int_at (k := q) hqp
                injection hbb with hbb
                injection hbb with hb1 hb2
                subst hb1
                subst hb2
                have hvq := HG.out.val q (by rw [← HP.out]; exact hqp)
                obtain ⟨hvq1, hvq2⟩ := hvq
                have HD1 := Lib.hid (HNR.out.le q (by rw [← HP.out]; exact hqp))
                have HD2 := Lib.hid (HNR.out.first q)
                rw [HDJ.out, show dist L t q = max (L.getD q 0 - t) (t - L.getD q 0) from rfl] at HD1 HD2
                have hq2 : (q : Int) < (p : Int) := by omega
                generalize L.getD q 0 = u at *
                go_wp2
                all_goals
                  first
                    | (exfalso; have e1 := HD1.out; have e2 := HD2.out; omega)
                    | (go_roundw
                       case rel => exact ⟨q + 1, by go_num, by omega, (by trivial)⟩
                       case measure => simp [intOf]; omega)
              · go_wp2
                go_roundw
                case rel => exact ⟨k + 1, by go_num, by omega, HF4.out⟩
                case measure => simp [intOf]; omega
      · obtain ⟨kk, hkk, hkp⟩ : ∃ kk : Nat, v % (p : Int) = (kk : Int) ∧ kk < p := ⟨(v % (p : Int)).toNat, by have := Int.emod_nonneg v (show (p : Int) ≠ 0 by omega); omega, by have := Int.emod_lt_of_pos v (show (0 : Int) < p by omega); have := Int.emod_nonneg v (show (p : Int) ≠ 0 by omega); omega⟩
        obtain ⟨b, off, rfl, hb, hc⟩ := HLW.out.int_at (k := kk) hkp
        have hvj := HG.out.val kk (by rw [← HP.out]; exact hkp)
        have HSF := Lib.hid (fun j h => Nearest.self HG.out (k := kk) (j := j) (by rw [← HP.out]; exact hkp) h)
        obtain ⟨hvj1, hvj2⟩ := hvj
        have hkp2 : (kk : Int) < (p : Int) := by omega
        have hp0 : ((p : Int) == 0) = false := by simp; omega
        generalize L.getD kk 0 = t at *
        go_wp2_with fail
        refine (near_good _ p c2 _ L t wr HLW.out (Nat.le_refl _) HG.out HL0.out ⟨hvj1, hvj2⟩).mono ?_
        rintro e w3 ⟨j, rfl, hnr, hf⟩
        have hjk := HSF.out j hnr
        clear hnr
        obtain rfl := hjk
        have HF3 := Lib.hid (HF2.out.then0 (HFF.out.then0 hf))
        clear hf
        have hjj : ((j : Int) == (j : Int)) = true := by simp
        go_wp2_with fail
        refine (works_any _).mono ?_
        rintro e w5 ⟨rfl, hf⟩
        go_wp2
        go_ret
        exact ⟨rfl, HF3.out.then0 hf⟩
end Go.Proofs.Ytclhdhgagjpicaa
