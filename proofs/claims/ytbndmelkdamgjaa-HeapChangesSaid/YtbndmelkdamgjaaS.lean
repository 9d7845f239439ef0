/- The heap of integers: Copy. -/
import Derived.Test.YtbndmelkdamgjaaR
namespace Go.Proofs.Ytbndmelkdamgjaa
open Go.RowKit Go.Wk

theorem PlaceOf.none_at {V : Type} [Inhabited V] {l : List (En V)} {f f' : Int → Option Int} (h : PlaceOf f l) {i : Nat} (hi : i < l.length) (h' : PlaceOf f' (l.take i)) : f' (l.getD i default).id = none := by
  cases hx : f' (l.getD i default).id with
  | none => rfl
  | some q =>
    obtain ⟨j, hj, hid, _⟩ := (h' _ q).1 hx
    rw [List.length_take] at hj
    have e : (l.take i).getD j default = l.getD j default := by
      simp only [List.getD_eq_getElem?_getD]
      rw [List.getElem?_take, if_pos (by omega)]
    rw [e] at hid
    have := h.inj (by omega) hi hid
    omega
theorem take_snoc' {V : Type} [Inhabited V] (l : List (En V)) (k : Nat) (h : k < l.length) : l.take (k + 1) = l.take k ++ [l.getD k default] := by
  rw [List.take_succ_eq_append_getElem h]; simp [h]
/-- What Copy holds when it has put k ids. -/
structure CpI (f : Nat) (w wr : World) (B bm n : Nat) (v : Value) (l : List (En Int)) (g : Int) (k : Nat) : Prop where
  kn : k ≤ n
  blk : Blk wr B 93 #[.func (.func f) #[] #[], v, .map (some bm), .int .i64 g]
  own : wr.ownsRow w.heap.size 95 CI.s v n (ecells CI l)
  mp : ∃ f', MapF wr Try.prog 3 bm k f' ∧ PlaceOf f' (l.take k)
  fr : Fr No w wr
set_option maxRecDepth 100000 in
set_option maxHeartbeats 4000000 in
theorem Copy_in {f : Nat} {bf : Int → Int → Bool} (b bm : Nat) (v : Value) (l s : List (En Int)) (g : Int) (w : World) (h : HI f bf w b bm v l s g) : Calls Try.prog 49 #[.pointer (some ⟨b, 0, none⟩)] w fun e w' => NewI f bf w s g e w' := by
  obtain ⟨i0, hi, hz0, hz1, hz2⟩ : ∃ i, Try.prog.info? 95 = some i ∧ i.zero = some (.agg #[.int .i64 0, .int .i64 0, .int .i64 0]) ∧ i.size = 3 ∧ i.bytes = 24 := ⟨_, rfl, rfl, rfl, rfl⟩
  obtain ⟨c0, c1, c2, c3⟩ := h.at_.cells
  obtain ⟨A, c, rfl⟩ := h.at_.form
  have HV := Lib.hid (made_cell b w c0)
  have HNEW := Lib.hid (New_raw f w)
  obtain ⟨w1, hw1⟩ : ∃ w1, w1 = (w.alloc (.map #[] 0)).alloc (.cells #[.func (.func f) #[] #[], .slice none 0 0, .map (some w.heap.size), .int .i64 0] 93) := ⟨_, rfl⟩
  rw [← hw1] at HNEW
  have F1 := Lib.hid (show Fr No w w1 by rw [hw1]; exact ((Fr.refl No w).alloc _).alloc _)
  have HN1 := Lib.hid (New_av f w)
  rw [← hw1] at HN1
  have hs1 : w1.heap.size = w.heap.size + 2 := by rw [hw1]; simp
  have HH := Lib.hid h
  have HH1 := Lib.hid (h.fr0 F1.out)
  have hbl := h.at_.blk.lt
  obtain ⟨c1', c3'⟩ : w1.cell? ⟨b, 1, none⟩ = some (.slice A l.length c) ∧ w1.cell? ⟨b, 3, none⟩ = some (.int .i64 g) := ⟨HH1.out.at_.cells.2.1, HH1.out.at_.cells.2.2.2⟩
  obtain ⟨B, hB⟩ : ∃ B, B = w.heap.size + 1 := ⟨_, rfl⟩
  obtain ⟨M, hM⟩ : ∃ M, M = w.heap.size := ⟨_, rfl⟩
  rw [← hB] at HNEW HN1
  rw [← hM] at HN1
  have BN := Lib.hid HN1.out.blk
  obtain ⟨d0, d1, d2, d3⟩ := HN1.out.cells
  have z1 := BN.out.frozen 1
  have hBl := BN.out.lt
  have hn := h.at_.ok.n
  have hg := h.at_.ok.g
  obtain ⟨n, hnn⟩ : ∃ n, n = l.length := ⟨_, rfl⟩
  have HN := Lib.hid hnn
  have HR := Lib.hid (show Reads w1.drew w1.heap.size 3 A n (ecells CI l) from by rw [hnn]; exact (Reads.of_own HH1.out.at_.own).drew)
  have HO := Lib.hid (show w1.drew.ownsRow w1.heap.size 95 3 (.slice none 0 0) 0 [] from own_nil _ _ _ _)
  have HB1 := Lib.hid (show (0 + n) * 24 ≤ 140737488355328 by omega)
  have HB0 := Lib.hid (show 0 + n ≤ maxLen by unfold maxLen; omega)
  rw [← hnn] at c1' hn
  have HMM := Lib.hid (show MapF w1 Try.prog 3 M 0 (fun _ => none) from by rw [hM, hw1]; exact (MapF.made w Try.prog 3).fr ((Fr.refl No _).alloc _) (fun x => x))
  have hne : b ≠ B := by omega
  have hng : (n : Int) ≤ 1000000000 := by omega
  have HMB := Lib.hid (show M ≠ B ∧ w.heap.size ≤ M ∧ w.heap.size ≤ B ∧ M < w1.heap.size by omega)
  have HBM := Lib.hid hB
  have hBs := HMB.out.2.2.1
  clear h hw1 hB hM hnn
  go_enter Try.func49, Try.ntmps49
  go_wp2_with fail
  refine HV.out.mono ?_
  rintro e w0 ⟨rfl, rfl⟩
  go_wp2_with fail
  refine HNEW.out.mono ?_
  rintro e w0 ⟨rfl, rfl⟩
  go_wp2_with fail
  clear c0 c1 c2 c3
  go_region_law ((refine step_append_any _ rfl (.tmp 18) (.tmp 22) 91 rfl w0.heap.size 95 i0 (.agg #[.int .i64 0, .int .i64 0, .int .i64 0]) 3 24 Try.underlying91 hi hz0 hz1 hz2 rfl (by omega) (.slice none 0 0) 0 [] (by simp [Act.eval]) HO.out _ A n c _ (by simp [Act.eval]) HR.out (ecells_one CI l) HB0.out HB1.out (Nat.le_refl _) ?_; intro v' w2 hown2 hg2 hloc2; obtain ⟨A2, q2, rfl⟩ := own_form' hown2; have F2 : Fr No w0 w2 := ((Fr.refl _ w0).drew).then0 (Fr.of_grown (S := No) hg2 (fun k hk => by simp [Value.ownBlock] at hk)); have B2 := BN.out.fr F2 (fun e => e); have g1 := B2.cell 1; have y1 := B2.frozen 1; simp only [List.getElem?_toArray, List.getElem?_cons_zero, List.getElem?_cons_succ] at g1))
  all_goals
    have FF2 := Lib.hid F2
    have BB2 := Lib.hid B2
    have y3 := B2.frozen 3
    have g3 := B2.cell 3
    have e3 := (F2.cell (p := ⟨b, 3, none⟩) (show b < w0.heap.size by omega) (fun z => z)).trans c3'
    simp only [List.getElem?_toArray, List.getElem?_cons_zero, List.getElem?_cons_succ] at g3
    have OW := Lib.hid hown2
    obtain ⟨w4, hw4⟩ : ∃ w4, w4 = (w2.setCell ⟨B, 1, none⟩ (.slice A2 n q2)).setCell ⟨B, 3, none⟩ (.int .i64 g) := ⟨_, rfl⟩
    have F4 := Lib.hid (show Fr (· = B) w2 w4 by rw [hw4]; exact ((Fr.refl (· = B) w2).setCell (.inr rfl) _).setCell (.inr rfl) _)
    have hn0 : 0 + n = n := Nat.zero_add n
    have B4 := Lib.hid (show Blk w4 B 93 #[.func (.func f) #[] #[], .slice A2 n q2, .map (some M), .int .i64 g] by
      rw [hw4]
      have := (BB2.out.set_ 1 (.slice A2 n q2)).set_ 3 (.int .i64 g)
      simpa using this)
    have S0 := Lib.hid (show CpI f w w4 B M n (.slice A2 n q2) l g 0 from by
      refine ⟨Nat.zero_le _, B4.out, ?_, ⟨_, (HMM.out.fr FF2.out (fun z => z)).fr F4.out HMB.out.1, PlaceOf.nil⟩, (F1.out.then0 FF2.out).own F4.out HMB.out.2.2.1⟩
      have := OW.out
      rw [hn0, List.nil_append] at this
      exact own_base (own_fr this F4.out (fun k hk e => by have := (OW.out.lt k (by simpa using hk)).1; omega)) (by omega))
    have HW4 := Lib.hid hw4
    clear F2 B2 hown2 hg2 hloc2 hw4 d0 d1 d2 d3 z1
    go_wp2
    rw [← HW4.out]
    go_loopw [38] (fun iv wr => ∃ k : Nat, iv = .int .i64 k ∧ k ≤ n ∧ Hid (CpI f w wr B M n (.slice A2 n q2) l g k)) (fun iv _ => n - (intOf iv).toNat)
    case atStart => exact ⟨0, rfl, Nat.zero_le _, S0⟩
    case round =>
      clear S0 y3 g3 e3 g1 y1
      obtain ⟨k, rfl, hk, HS⟩ := hrel
      by_cases hkn : k < n
      · have hln : k < l.length := by rw [← HN.out]; exact hkn
        obtain ⟨G, cq, hv, hG⟩ := own_some HS.out.own (by omega)
        injection hv with hA _ hc
        subst hA
        subst hc
        obtain ⟨a0, a1, a2⟩ := (RowI.mk (own_base HS.out.own (Nat.zero_le 0 |> fun _ => Nat.zero_le _)) : RowI wr G q2 n l).cell HN.out.symm hkn
        obtain ⟨f', hm', hp'⟩ := HS.out.mp
        obtain ⟨fo, _, hpo⟩ := HH.out.at_.mp
        have hno := hpo.none_at hln hp'
        have PN := Lib.hid (show PlaceOf _ (l.take (k + 1)) from by
          have := hp'.push _ hno
          rw [← take_snoc' l k hln] at this
          exact this)
        have hlt : (l.take k).length = k := by rw [List.length_take]; omega
        rw [hlt] at PN
        have HFX := Lib.hid (HH.out.at_.okAt hln).1
        generalize l.getD k default = x at *
        obtain ⟨xi, xv, xp⟩ := x
        dsimp only at a0 a1 a2 PN HFX hno
        obtain ⟨wa, hwa⟩ : ∃ wa, wa = wr.alloc (.cells #[.int .i64 xi, .int .i64 xv, .int .i64 xp] 95) := ⟨_, rfl⟩
        have FA := Lib.hid (show Fr No wr wa by rw [hwa]; exact (Fr.refl No wr).alloc _)
        have BA := Lib.hid (show Blk wa wr.heap.size 95 #[.int .i64 xi, .int .i64 xv, .int .i64 xp] by rw [hwa]; exact Blk.new _ _ _)
        obtain ⟨wn, hput, Mn, hfn⟩ := (hm'.fr (FA.out.drew) (fun z => z)).put Try.underlying3 Try.underlying43 (by unfold maxLen; omega) HFX.out (k : Int)
        have FN := Lib.hid (show Fr (· = M) wa wn from ((Fr.refl (· = M) wa).drew).trans hfn (fun _ _ z => z))
        have BN2 := Lib.hid (HS.out.blk.fr FA.out (fun z => z))
        have u2 := BN2.out.cell 2
        have u0 := BA.out.cell 0
        simp only [List.getElem?_toArray, List.getElem?_cons_zero, List.getElem?_cons_succ] at u2 u0
        have HNX := Lib.hid (show CpI f w wn B M n (.slice (some ⟨G, 0, none⟩) n q2) l g (k + 1) from by
          refine ⟨hkn, BN2.out.fr FN.out (Ne.symm HMB.out.1), ?_, ⟨_, Mn, PN.out⟩, (HS.out.fr.then0 FA.out).own FN.out HMB.out.2.1⟩
          refine own_fr (own_fr HS.out.own FA.out (fun _ _ z => z)) FN.out (fun q hq e => ?_)
          obtain ⟨D, ⟨es, cl, hb', _⟩, _⟩ := Mn
          have ho := own_fr (own_fr HS.out.own FA.out (fun _ _ z => z)) (Fr.refl No wa) (fun _ _ z => z)
          rcases ho.2 with ⟨hh, _⟩ | ⟨g', cap, cur, hh, _, hh2, _⟩
          · cases hh
          · injection hh with hh _ _
            injection hh with hh
            injection hh with hh
            subst hh
            have hqG : q = G := by simpa [Value.ownBlock] using hq.symm
            exact absurd (hqG.symm.trans e) ((hm'.fr FA.out (fun z => z)).cells_ne (show Blk wa G 95 cur from hh2) |> Ne.symm))
        have HWA := Lib.hid hwa
        have hkn2 : (k : Int) < (n : Int) := by omega
        clear hno hp' hpo hm' hlt hfn Mn hwa
        go_wp2
        rw [← HWA.out]
        go_region
        clear a0 a1 a2 u0 u2 hput
        go_wp2
        go_roundw
        case rel => exact ⟨k + 1, by go_num, hkn, HNX⟩
        case measure => simp [intOf]; omega
      · obtain rfl : k = n := by omega
        go_wp2
        go_ret
        obtain ⟨f', hm', hp'⟩ := HS.out.mp
        have hll := HN.out
        refine ⟨B, _, rfl, ⟨M, .slice A2 k q2, l, rfl, ⟨⟨HS.out.blk, ?_, ⟨f', hm'.mono (by omega), ?_⟩, HH.out.at_.ok, HH.out.at_.ne⟩, HH.out.hp, HH.out.so, HH.out.me, HH.out.ln⟩⟩, fun q hq => ?_, HS.out.fr⟩
        · rw [← hll]; exact own_base HS.out.own (Nat.zero_le _)
        · rw [List.take_of_length_le (by omega)] at hp'; exact hp'
        · rcases hq with rfl | rfl | hq
          · exact HMB.out.2.2.1
          · exact HMB.out.2.1
          · exact (HS.out.own.lt q hq).1
end Go.Proofs.Ytbndmelkdamgjaa
