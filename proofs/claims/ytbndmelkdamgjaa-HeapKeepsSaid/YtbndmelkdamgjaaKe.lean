/- HeapKeeps: the walk. -/
import Derived.Test.YtbndmelkdamgjaaKa
namespace Go.Proofs.Ytbndmelkdamgjaa.So
open Go.RowKit Go.Wk

theorem run_min1 (ts : Array TypeId) (t : TypeId) (n N : Nat) (m : Int) (hN : (N : Int) = min m (n : Int)) (W : World) : (Builtin.min_ ts t #[.int .i64 m, .int .i64 (n : Int)]).run Try.prog W = .ok (.int .i64 (N : Int)) W := by
  simp [Builtin.min_, Builtin.min2]
  omega
set_option maxRecDepth 100000 in
set_option maxHeartbeats 40000000 in
theorem heapKeeps_walk (A : Option Addr) (n c : Nat) (xs : List Int) (id : Int) (w : World) (h : Reads w w.heap.size 1 A n (xs.map (Value.int .u8))) (hw : ∀ x ∈ xs, 0 ≤ x ∧ x ≤ 255) (hc : n ≤ c) (hn : n ≤ 9223372036854775807) (hid : fits id) :
    Calls Try.prog 8 #[.slice A n c, .int .i64 id] w fun e w' => e = .returned (.bool true) ∧ Fr No w w' := by
  obtain ⟨N, hN⟩ : ∃ N : Nat, N = min n 60 := ⟨_, rfl⟩
  have hNn : N ≤ n := by omega
  have hN60 : N ≤ 60 := by omega
  have hNc : (N : Int) ≤ (c : Int) := by omega
  have hmin := fun ts t W => run_min2 ts t n N 60 (by omega) W
  obtain ⟨m, hm⟩ : ∃ m : Nat, m = min 1 N := ⟨_, rfl⟩
  have HM := Lib.hid hm
  have hmin1 := Lib.hid (fun ts t W => run_min1 ts t N m 1 (by omega) W)
  have HW := Lib.hid (show ∀ x ∈ xs.take N, 0 ≤ x ∧ x ≤ 255 from fun x hx => hw x (List.mem_of_mem_take hx))
  have HR := Lib.hid (reads_cut h hNn)
  generalize xs.take N = ys at *
  have HFL := Lib.hid (filled_any A N c ys w HR.out HW.out (by omega))
  have HLN := Lib.hid (okF ys N).ln
  have HEN := Lib.hid (okF ys N).ent
  obtain ⟨S, hS⟩ : ∃ S, S = stF ys N := ⟨_, rfl⟩
  have HSE := Lib.hid hS
  rw [← hS] at HLN HEN
  have HLI := Lib.hid (show (ids S).length = N by simp [ids, HLN.out])
  have HID := Lib.hid hid
  have HBIG := Lib.hid (show (4611686018427387904 : Int) ∉ ids S.tail from fun hc2 => by
    obtain ⟨e, he, h1⟩ := List.mem_map.1 hc2
    have := HEN.out e (List.mem_of_mem_tail he)
    omega)
  clear h hw hN hS hm hid
  go_enter Try.func8, Try.ntmps8
  go_wp2_with fail
  refine HFL.out.mono ?_
  rintro e w1 ⟨b, rfl, h1⟩
  have H1 := Lib.hid h1
  have F1 := Lib.hid h1.fr
  have HSO := Lib.hid (sorted_any A N c ys w1 (HR.out.fr0 h1.fr) HW.out (by omega))
  clear h1 hmin
  go_wp2_with fail
  refine HSO.out.mono ?_
  rintro e w2 ⟨A2, c2, rfl, ho2, hf2⟩
  rw [← HSE.out] at ho2
  obtain ⟨D1, ha, hd1, _, _⟩ := H1.out
  rw [← HSE.out] at ha
  have HA := Lib.hid ha
  have HD1 := Lib.hid hd1
  have OW := Lib.hid ho2
  have F2 := Lib.hid hf2
  have HCP := Lib.hid (iCopy (ha.fr0 hf2))
  clear ho2 hf2 H1 HSO HFL ha hd1
  go_wp2_with fail
  refine HCP.out.mono ?_
  rintro e w3 ⟨b2, D2, rfl, h3, hd3, hf3⟩
  have T3 := Lib.hid (show Two 39 ltI w w3 b b2 (BlkOf (.slice A2 N c2)) D1 D2 S S N N from by
    refine ⟨(HA.out.fr0 F2.out).fr0 hf3, h3, (F1.out.then0 F2.out).then0 hf3, fun k hk => ⟨(HD1.out k hk).1, fun hc2 => ?_⟩, fun k hk => ⟨?_, fun hc2 => ?_⟩, fun k hk hc2 => ?_, fun k hk => ?_⟩
    · have := HA.out.lt hk; have := (OW.out.lt k hc2).1; omega
    · have := hd3 k hk; have := F1.out.size; have := F2.out.size; omega
    · have := hd3 k hk; have := (OW.out.lt k hc2).2; omega
    · have := HA.out.lt hk; have := hd3 k hc2; have := F2.out.size; omega
    · have := (OW.out.lt k hk).2; have := hf3.size; omega)
  have O3 := Lib.hid (own_base (own_fr OW.out hf3 (fun _ _ z => z)) F1.out.size)
  have hnb : ∀ b3 : Nat, True := fun _ => trivial
  clear h3 hd3 hf3 HCP OW F2 F1 HA HD1 hnb
  have I4 := Lib.hid (iIds bef_lt T3.out.b)
  go_wp2_with fail
  refine I4.out.mono ?_
  rintro e w4 ⟨A4, n4, c4, rfl, hn4, ho4, hf4⟩
  obtain rfl : n4 = N := hn4.trans HLI.out
  have O4 := Lib.hid (own_fr O3.out hf4 (fun _ _ z => z))
  have T4 := Lib.hid (T3.out.fr0 hf4)
  have E4 := Lib.hid (equal_ids ho4 (Fr.refl No w4) A2 c2 w4.heap.size (by omega) (Reads.of_own O4.out))
  clear ho4 hf4 hn4 O3 T3 I4
  go_wp2_with fail
  refine E4.out.mono ?_
  rintro e w5 ⟨rfl, hf5⟩
  have O5 := Lib.hid (own_fr O4.out hf5 (fun _ _ z => z))
  have T5 := Lib.hid (T4.out.fr0 hf5)
  have C5 := Lib.hid (contains_any A2 n4 c2 w5.heap.size (ids S) id w5 (Reads.of_own O5.out) (by omega))
  have C48 := Lib.hid (iHas T5.out.a id HID.out)
  have C32 := Lib.hid (fun hx => iPushOld T5.out.a id (-1) HID.out hx)
  have C35 := Lib.hid (fun hx => iRemoveNo T5.out.a id HID.out hx)
  have C34 := Lib.hid (fun hx => iChangeNo T5.out.a id (-1) HID.out hx)
  have I6 := Lib.hid (iIds bef_lt T5.out.a)
  clear hf5 E4 O4 T4
  go_wp2_with fail
  refine C5.out.mono ?_
  rintro e w6 ⟨rfl, rfl⟩
  go_wp2_with fail
  refine C48.out.mono ?_
  rintro e w6 ⟨rfl, rfl⟩
  by_cases hx : id ∈ ids S
  all_goals
    first
    | (replace C32 := Lib.hid (C32.out hx)
       rw [show decide (id ∈ ids S) = true by simpa using hx]
       clear hx C34 C35 C48 C5
       go_wp2_with fail
       refine C32.out.mono ?_
       rintro e w7 ⟨rfl, rfl⟩
       go_wp2_with fail)
    | (replace C35 := Lib.hid (C35.out hx)
       replace C34 := Lib.hid (C34.out hx)
       rw [show decide (id ∈ ids S) = false by simpa using hx]
       clear hx C32 C48 C5
       go_wp2_with fail
       refine C35.out.mono ?_
       rintro e w7 ⟨rfl, rfl⟩
       go_wp2_with fail
       refine C34.out.mono ?_
       rintro e w7 ⟨rfl, rfl⟩
       go_wp2_with fail)
  all_goals
    refine I6.out.mono ?_
    rintro e w7 ⟨A7, n7, c7, rfl, hn7, ho7, hf7⟩
    obtain rfl : n7 = n4 := hn7.trans HLI.out
    have O7 := Lib.hid (own_fr O5.out hf7 (fun _ _ z => z))
    have T7 := Lib.hid (T5.out.fr0 hf7)
    have E7 := Lib.hid (equal_ids ho7 (Fr.refl No w7) A2 c2 w7.heap.size (by omega) (Reads.of_own O7.out))
    clear ho7 hf7 hn7 O5 T5 I6
    go_wp2_with fail
    refine E7.out.mono ?_
    rintro e w8 ⟨rfl, hf8⟩
    have O8 := Lib.hid (own_fr O7.out hf8 (fun _ _ z => z))
    have T8 := Lib.hid (T7.out.fr0 hf8)
    have P8 := Lib.hid (iPop bef_lt T8.out.b)
    clear hf8 E7 O7 T7
    go_wp2_with fail
    refine P8.out.mono ?_
    rintro e w9 ⟨rfl, ht⟩
    obtain ⟨⟨E2, t9⟩, hf9⟩ := T8.out.turn2 ht
    have T9 := Lib.hid t9
    have O9 := Lib.hid (own_keep O8.out hf9 (fun _ hk => hk))
    have P9 := Lib.hid (iPush bef_lt T9.out.b 4611686018427387904 (-5) (by unfold Go.Wk.fits; omega) HBIG.out (by omega))
    clear ht t9 hf9 P8 O8 T8
    go_wp2_with fail
    refine P9.out.mono ?_
    rintro e wa ⟨rfl, ht⟩
    obtain ⟨⟨E3, ta⟩, hfa⟩ := T9.out.turn2 ht
    have TA := Lib.hid ta
    have OA := Lib.hid (own_keep O9.out hfa (fun _ hk => hk))
    have IA := Lib.hid (iIds bef_lt TA.out.a)
    clear ht ta hfa P9 O9 T9
    go_wp2_with fail
    refine IA.out.mono ?_
    rintro e wb ⟨Ab, nb, cb, rfl, hnb, hob, hfb⟩
    obtain rfl : nb = n7 := hnb.trans HLI.out
    have OB := Lib.hid (own_fr OA.out hfb (fun _ _ z => z))
    have TB := Lib.hid (TA.out.fr0 hfb)
    have EB := Lib.hid (equal_ids hob (Fr.refl No wb) A2 c2 wb.heap.size (by omega) (Reads.of_own OB.out))
    clear hob hfb hnb OA TA IA
    go_wp2_with fail
    refine EB.out.mono ?_
    rintro e wc ⟨rfl, hfc⟩
    have OC := Lib.hid (own_fr OB.out hfc (fun _ _ z => z))
    have TC := Lib.hid (TB.out.fr0 hfc)
    have LC := Lib.hid (iLen TC.out.a)
    rw [HLN.out] at LC
    have PC := Lib.hid (iPop bef_lt TC.out.a)
    have hnn : ((nb : Int) != (nb : Int)) = false := by simp
    clear hfc EB OB TB
    go_wp2_with fail
    refine LC.out.mono ?_
    rintro e wd ⟨rfl, rfl⟩
    go_wp2_with fail
    refine PC.out.mono ?_
    rintro e we ⟨rfl, ht⟩
    obtain ⟨⟨E1, te⟩, hfe⟩ := TC.out.turn1 ht
    have TE := Lib.hid te
    have OE := Lib.hid (own_keep OC.out hfe (fun _ hk => hk))
    have IE := Lib.hid (iIds bef_lt TE.out.a)
    clear ht te hfe PC LC OC TC
    go_wp2_with fail
    refine IE.out.mono ?_
    rintro e wf ⟨Af, nf, cf, rfl, hnf, hof, hff⟩
    obtain ⟨wg, hclr, hfg⟩ := clear_own hof
    have TG := Lib.hid ((TE.out.fr0 hff).frN hfg (fun k hk => by
      have := (hof.lt k hk).1
      refine ⟨Nat.le_trans TE.out.fr.size this, fun hc2 => ?_, fun hc2 => ?_⟩
      · have := TE.out.a.lt hc2; omega
      · have := TE.out.b.lt hc2; omega))
    have OG := Lib.hid (own_fr (own_fr OE.out hff (fun _ _ z => z)) hfg (fun k hk hc2 => by
      have := (hof.lt k hc2).1
      have := (OE.out.lt k hk).2
      omega))
    clear hof hff hfg hnf IE OE TE
    have hcap := own_cap OG.out
    obtain ⟨A', hdrop, hrd⟩ := drop_runI A2 nb c2 m (by have := HM.out; omega) hcap (by omega)
    have HRD := Lib.hid (hrd wg wg.heap.size (ids S) (Reads.of_own OG.out))
    have HTL := Lib.hid (show (ids S).drop m = ids S.tail by
      have hml := HM.out
      have hll := HLN.out
      rcases S with _ | ⟨a, t⟩
      · simp [ids]
      · have : m = 1 := by simp at hll; omega
        subst this
        simp [ids])
    rw [HTL.out] at HRD
    have HTN := Lib.hid (show (ids S.tail).length = nb - m by rw [← HTL.out, List.length_drop, HLI.out])
    have TH := Lib.hid (TG.out.fr0 (Fr.refl No wg).drew)
    have C33 := Lib.hid (iIds bef_lt TH.out.a)
    have F48 := Lib.hid (show fits 4611686018427387904 by unfold Go.Wk.fits; omega)
    have C48a := Lib.hid (fun (X : World) (hX : Fr No wg.drew X) => iHas (TH.out.b.fr0 hX) 4611686018427387904 F48.out)
    have hda : decide ((4611686018427387904 : Int) ∈ ids (ins ltI ⟨4611686018427387904, -5, (nb : Int)⟩ S.tail)) = true := by
      have : (4611686018427387904 : Int) ∈ ids (ins ltI ⟨4611686018427387904, -5, (nb : Int)⟩ S.tail) := List.mem_map.2 ⟨_, (mem_ins _ _ _).2 (.inl rfl), rfl⟩
      simpa using this
    rw [hda] at C48a
    have C48b := Lib.hid (fun (X : World) (hX : Fr No wg.drew X) => iHas (TH.out.a.fr0 hX) 4611686018427387904 F48.out)
    have hdb : decide ((4611686018427387904 : Int) ∈ ids S.tail) = false := by simpa using HBIG.out
    rw [hdb] at C48b
    have E22 := Lib.hid (fun (W1 : World) A1 c1 (ho : W1.ownsRow wg.drew.heap.size 3 1 (.slice A1 (nb - m) c1) (nb - m) (cells .i64 (ids S.tail))) (hf : Fr No wg.drew W1) => equal_ids ho (Fr.refl No W1) A' (c2 - m) wg.heap.size (by omega) (HRD.out.fr ((Fr.refl No wg).drew.then0 hf) (Nat.le_refl _) (fun _ _ z => z)))
    have FT := Lib.hid TH.out.fr
    have hmi : (m : Int) ≤ (nb : Int) := by have := HM.out; omega
    clear hda hdb hrd hcap
    go_wp2_with fail
    replace hmin1 := hmin1.out
    go_region_held3 (fun _ => True)
      (first | trivial | go_keep)
      (first
        | (go_at_call 33; ((with_reducible refine C33.out.mono ?_); rintro e W1 ⟨A1, n1, c1, rfl, hn1, ho1, hf1⟩; obtain rfl : n1 = nb - m := hn1.trans HTN.out; have O1 := Lib.hid ho1; have F1 := Lib.hid hf1; clear ho1 hf1 hn1))
        | (go_at_call 22; ((with_reducible refine (E22.out _ _ _ O1.out F1.out).mono ?_); rintro e W2 ⟨rfl, hf2⟩; have F2 := Lib.hid hf2; clear hf2))
        | (go_at_call 48; ((with_reducible refine (C48a.out _ (F1.out.then0 F2.out)).mono ?_); rintro e W3 ⟨rfl, rfl⟩))
        | (go_at_call 48; ((with_reducible refine (C48b.out _ (F1.out.then0 F2.out)).mono ?_); rintro e W3 ⟨rfl, rfl⟩))
        | (go_at_call 11; ((with_reducible refine (works_any _).mono ?_); rintro e W4 ⟨rfl, hf4⟩; have F4 := Lib.hid hf4; clear hf4)))
    all_goals
      go_wp2
      go_ret
      exact ⟨rfl, ((FT.out.then0 F1.out).then0 F2.out).then0 F4.out⟩
end Go.Proofs.Ytbndmelkdamgjaa.So
