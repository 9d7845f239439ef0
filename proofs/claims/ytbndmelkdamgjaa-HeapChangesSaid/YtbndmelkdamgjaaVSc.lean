/- The contract of symMerge, the general case, and as a whole. -/
import Derived.Test.YtbndmelkdamgjaaVSb
namespace Go.Proofs.Ytbndmelkdamgjaa.So
open Go.RowKit Go.Wk

theorem Mrg.same {y : KY} {a m b : Nat} {L M : List TI} (h : Mrg y a m b L) (hl : M.length = L.length) (k : ∀ i, a ≤ i → i < b → ati M i = ati L i) : Mrg y a m b M := by
  obtain ⟨am, mb, bl, l, r, t⟩ := h
  exact ⟨am, mb, by omega, l.same (fun i h1 h2 => k i h1 (by omega)), r.same (fun i h1 h2 => k i (by omega) h2), fun i j h1 h2 h3 h4 => by rw [k i h1 (by omega), k j (by omega) h4]; exact t i j h1 h2 h3 h4⟩

set_option maxRecDepth 100000 in
set_option maxHeartbeats 16000000 in
theorem sym_mid (g b c n p m q : Nat) (y : KY) (L : List TI) (w : World) (hs : Srtr w g b c y L) (hn : L.length = n) (hM : Mrg y p m q L) (hpm : p + 1 < m) (hmq : m + 1 < q) (hn2 : n ≤ 1000000000000)
    (IH : ∀ (p' m' q' : Nat) (L' : List TI) (w' : World), q' - p' < q - p → Srtr w' g b c y L' → L'.length = n → Mrg y p' m' q' L' → Calls Try.prog 98 #[.slice (some ⟨b, 0, none⟩) n c, .int .i64 p', .int .i64 m', .int .i64 q', .func (.func 78) #[] #[.pointer (some ⟨g, 0, none⟩)]] w' (Merged g b c p' q' y L' w')) :
    Calls Try.prog 98 #[.slice (some ⟨b, 0, none⟩) n c, .int .i64 p, .int .i64 m, .int .i64 q, .func (.func 78) #[] #[.pointer (some ⟨g, 0, none⟩)]] w (Merged g b c p q y L w) := by
  have HS := Lib.hid hs
  have HN := Lib.hid hn
  have HM := Lib.hid hM
  have HIH := Lib.hid IH
  have hqn : q ≤ n := by rw [← hn]; exact hM.bl
  clear hs hn hM IH
  have w1 : IntKind.i64.wrap ((m : Int) - (p : Int)) = (m : Int) - (p : Int) := by simp only [IntKind.wrap_i64]; omega
  have w2 : ((m : Int) - (p : Int) == 1) = false := by simp; omega
  have w3 : ¬ ((m : Int) - (p : Int) = 1) := by omega
  have w4 : IntKind.i64.wrap ((q : Int) - (m : Int)) = (q : Int) - (m : Int) := by simp only [IntKind.wrap_i64]; omega
  have w5 : ((q : Int) - (m : Int) == 1) = false := by simp; omega
  have w6 : ¬ ((q : Int) - (m : Int) = 1) := by omega
  obtain ⟨d, hd, hd2⟩ : ∃ d : Nat, (p + q) / 2 = d ∧ (p + q = 2 * d ∨ p + q = 2 * d + 1) := ⟨_, rfl, by omega⟩
  have hd3 : ((p : Int) + (q : Int)) / 2 = (d : Int) := by omega
  obtain ⟨nn, hnn⟩ : ∃ nn : Nat, d + m = nn := ⟨_, rfl⟩
  have w7 : IntKind.i64.wrap ((d : Int) + (m : Int)) = (nn : Int) := by simp only [IntKind.wrap_i64]; omega
  obtain ⟨pp, hpp⟩ : ∃ pp : Nat, pp + 1 = nn := ⟨nn - 1, by omega⟩
  have w8 : IntKind.i64.wrap ((nn : Int) - 1) = (pp : Int) := by simp only [IntKind.wrap_i64]; omega
  have hpp2 : d + m - 1 = pp := by omega
  obtain ⟨lo, hi, hB⟩ : ∃ lo hi, Bnd p m q d lo hi := by
    by_cases h : m > d
    · exact ⟨_, _, hd2, .inl ⟨h, rfl, rfl⟩⟩
    · exact ⟨_, _, hd2, .inr ⟨by omega, rfl, rfl⟩⟩
  have HB := Lib.hid hB
  have hlh : p ≤ lo ∧ lo ≤ hi ∧ hi ≤ m ∧ hi ≤ d ∧ pp ≤ lo + q - 1 ∧ hi ≤ pp ∧ m + hi ≤ nn := by
    rcases hB with ⟨_, ⟨b1, b2, b3⟩ | ⟨b1, b2, b3⟩⟩ <;> omega
  have hcs : (((d : Int) < (m : Int)) ∧ IntKind.i64.wrap ((nn : Int) - (q : Int)) = (lo : Int) ∧ hi = d) ∨ (¬ ((d : Int) < (m : Int)) ∧ lo = p ∧ hi = m) := by
    rcases hB with ⟨_, ⟨b1, b2, b3⟩ | ⟨b1, b2, b3⟩⟩
    · left; exact ⟨by omega, by simp only [IntKind.wrap_i64]; omega, b3⟩
    · right; exact ⟨by omega, b2, b3⟩
  obtain ⟨hl1, hl2, hl3, hl4, hl5, hl6, hl7⟩ := hlh
  clear hB hd
  have H0 := Lib.hid (Mid.start (y := y) (m := m) (d := d) (L := L) hl2)
  have key : ∀ (s : Nat) (e : Nat), p ≤ s → s ≤ m → s ≤ d → s + e = nn → e ≤ q → True := fun _ _ _ _ _ _ _ => trivial
  clear key
  rcases hcs with ⟨hc1, hc2, hc3⟩ | ⟨hc1, hc2, hc3⟩
  · have HC3 := Lib.hid hc3
    clear hc3
    go_enter Try.func98, Try.ntmps98
    go_wp2
    go_loopw [20, 21] (fun i j wr => ∃ (s r : Nat), i = .int .i64 s ∧ j = .int .i64 r ∧ Hid (Mid y m d lo hi s r L) ∧ Hid (Fr No w wr)) (fun i j _ => (intOf j).toNat - (intOf i).toNat)
    case atStart => exact ⟨lo, hi, rfl, by rw [HC3.out], H0, Lib.hid (Fr.refl _ _)⟩
    case round =>
      clear H0
      obtain ⟨s, r, rfl, rfl, HMd, HF⟩ := hrel
      have h1 := HMd.out.ls
      have h2 := HMd.out.sr
      have h3 := HMd.out.rh
      by_cases hlt : s < r
      · obtain ⟨h, hh⟩ : ∃ h : Nat, (s + r) / 2 = h := ⟨_, rfl⟩
        have hh2 : ((s : Int) + (r : Int)) / 2 = (h : Int) := by omega
        have hsh : s ≤ h := by omega
        have hhr : h < r := by omega
        have hl : L.length = n := HN.out
        obtain ⟨k, hk⟩ : ∃ k : Nat, pp - h = k := ⟨_, rfl⟩
        have hk2 : k + h = pp := by omega
        have hk3 : m ≤ k ∧ k < q := by omega
        have hk4 : d + m - 1 - h = k := by omega
        have i1 : k < L.length := by omega
        have i2 : h < L.length := by omega
        have hS2 := HS.out.fr HF.out
        have HC := Lib.hid (hS2.cmp i1 i2 wr.drew (Fr.refl _ _).drew)
        obtain ⟨s0, t0⟩ := hS2.two i1 i2 wr (Fr.refl _ _)
        have SK := Lib.hid (fun X hX => hS2.two i1 i2 X ((Fr.refl No wr).drew.then0 hX))
        have HT := HM.out.tags h k (by omega) (by omega) (by omega) (by omega)
        have HLT := Lib.hid (ord_tlt (y := y) HT)
        have HGE := Lib.hid (nord_tlt (y := y) HT)
        have HUP := Lib.hid (fun hA => HMd.out.up (c := h) HM.out HB.out hsh hhr hA)
        have HDN := Lib.hid (fun hA => HMd.out.down (c := h) HM.out HB.out hsh hhr hA)
        rw [hk4] at HUP HDN
        obtain ⟨o, ho⟩ : ∃ o, o = ordI y (ati L k).1 (ati L h).1 := ⟨_, rfl⟩
        rw [← ho] at HC HLT HGE
        clear ho HT hS2 hl hh
        generalize hx : (ati L k).1 = x at *
        generalize hz : (ati L h).1 = z at *
        clear hx hz
        try dsimp only at *
        have v1 : (h : Int) < (n : Int) := by omega
        have v2 : (k : Int) < (n : Int) := by omega
        have v3 : IntKind.i64.wrap ((pp : Int) - (h : Int)) = (k : Int) := by simp only [IntKind.wrap_i64]; omega
        clear i1 i2
        by_cases ho : o < 0
        · have hdo : decide (o < 0) = true := by simpa using ho
          have HA := Lib.hid (HDN.out (HLT.out.1 ho))
          go_wp2
          go_region_held3 (fun w' => w'.cell? ⟨b, k, none⟩ = some (.int .i64 x)
              ∧ w'.cell? ⟨b, h, none⟩ = some (.int .i64 z))
            (first | exact SK.out _ FA.out | exact ⟨s0, t0⟩ | go_keep)
            (first | (go_at_call 78; ((with_reducible refine HC.out.mono ?_); rintro ex wA ⟨rfl, hf⟩); have FA := Lib.hid hf; clear hf))
          all_goals
            go_wp2
            go_roundw
            case rel => exact ⟨s, h, rfl, rfl, HA, Lib.hid (HF.out.then0 ((Fr.refl _ _).drew.then0 FA.out))⟩
            case measure => simp [intOf]; omega
        · have hdo : decide (o < 0) = false := by simpa using ho
          have HA := Lib.hid (HUP.out (HGE.out.1 ho))
          go_wp2
          go_region_held3 (fun w' => w'.cell? ⟨b, k, none⟩ = some (.int .i64 x)
              ∧ w'.cell? ⟨b, h, none⟩ = some (.int .i64 z))
            (first | exact SK.out _ FA.out | exact ⟨s0, t0⟩ | go_keep)
            (first | (go_at_call 78; ((with_reducible refine HC.out.mono ?_); rintro ex wA ⟨rfl, hf⟩); have FA := Lib.hid hf; clear hf))
          all_goals
            go_wp2
            go_roundw
            case rel => exact ⟨h + 1, r, by go_num, rfl, HA, Lib.hid (HF.out.then0 ((Fr.refl _ _).drew.then0 FA.out))⟩
            case measure => simp [intOf]; omega
      · obtain rfl : s = r := by omega
        obtain ⟨e, he⟩ : ∃ e : Nat, s + e = nn := ⟨nn - s, by omega⟩
        have he2 : d + m - s = e := by omega
        have we : IntKind.i64.wrap ((nn : Int) - (s : Int)) = (e : Int) := by simp only [IntKind.wrap_i64]; omega
        have q1 : p ≤ s ∧ s ≤ m ∧ s ≤ d ∧ d ≤ e ∧ m ≤ e ∧ e ≤ q := by omega
        obtain ⟨q1, q2, q3, q4, q5, q6⟩ := q1
        have HHV := Lib.hid (fun (M : List TI) (hr : Rot s m e L M) => HMd.out.halves HM.out HB.out (by omega) (by rw [he2]; exact hr))
        rw [he2] at HHV
        have HS2 := Lib.hid (HS.out.fr HF.out)
        have HF2 := Lib.hid (Fr.mono HF.out (T := (· = b)) (fun _ x => x.elim))
        clear HF HMd HS
        by_cases hA : s < m
        · have fA0 : (s : Int) < (m : Int) := by omega
          have fA1 : (d : Int) < (e : Int) := by omega
          by_cases hB : m < e
          · have fB0 : (m : Int) < (e : Int) := by omega
            have fB1 : (s : Int) < (d : Int) := by omega
            by_cases hC : p < s
            · have fC0 : (p : Int) < (s : Int) := by omega
              by_cases hD : e < q
              · have fD0 : (e : Int) < (q : Int) := by omega
                go_wp2_with fail
                refine (rot_any g b c n s m e y L wr _ HS2.out HN.out hA hB (by omega) hn2).mono ?_
                rintro x w1 ⟨rfl, M, hs1, hr1, hf1⟩
                have HH := Lib.hid (HHV.out M hr1)
                have HS3 := Lib.hid hs1
                have HF3 := Lib.hid (HF2.out.trans hf1 (fun _ _ x => x))
                have HN3 := Lib.hid (hr1.turn.len.trans HN.out)
                clear hs1 hr1 hf1
                go_wp2_with fail
                refine (HIH.out p s d M _ (by omega) HS3.out HN3.out (HH.out.one hC (by omega))).mono ?_
                rintro x w2 ⟨rfl, M1, hs2, ht2, hr2, hf2⟩
                have HS4 := Lib.hid hs2
                have HF4 := Lib.hid (HF3.out.trans hf2 (fun _ _ x => x))
                have HN4 := Lib.hid (ht2.len.trans HN3.out)
                have HT2 := Lib.hid ht2
                have HR2 := Lib.hid hr2
                clear hs2 ht2 hr2 hf2
                go_wp2_with fail
                refine (HIH.out d e q M1 _ (by omega) HS4.out HN4.out ((HH.out.two (by omega) hD).same (HN4.out.trans HN3.out.symm) (fun i h1 h2 => HT2.out.out i (by omega)))).mono ?_
                rintro x w3 ⟨rfl, M2, hs3, ht3, hr3, hf3⟩
                have HJ := Lib.hid (HH.out.join HT2.out HR2.out ht3 hr3)
                have HS5 := Lib.hid hs3
                have HF5 := Lib.hid (HF4.out.trans hf3 (fun _ _ x => x))
                clear hs3 ht3 hr3 hf3
                go_wp2
                all_goals go_end0
                all_goals exact ⟨rfl, _, HS5.out, HJ.out.1, HJ.out.2, HF5.out⟩
              · have fD0 : ¬ ((e : Int) < (q : Int)) := by omega
                go_wp2_with fail
                refine (rot_any g b c n s m e y L wr _ HS2.out HN.out hA hB (by omega) hn2).mono ?_
                rintro x w1 ⟨rfl, M, hs1, hr1, hf1⟩
                have HH := Lib.hid (HHV.out M hr1)
                have HS3 := Lib.hid hs1
                have HF3 := Lib.hid (HF2.out.trans hf1 (fun _ _ x => x))
                have HN3 := Lib.hid (hr1.turn.len.trans HN.out)
                clear hs1 hr1 hf1
                go_wp2_with fail
                refine (HIH.out p s d M _ (by omega) HS3.out HN3.out (HH.out.one hC (by omega))).mono ?_
                rintro x w2 ⟨rfl, M1, hs2, ht2, hr2, hf2⟩
                have HS4 := Lib.hid hs2
                have HF4 := Lib.hid (HF3.out.trans hf2 (fun _ _ x => x))
                have HN4 := Lib.hid (ht2.len.trans HN3.out)
                have HT2 := Lib.hid ht2
                have HR2 := Lib.hid hr2
                clear hs2 ht2 hr2 hf2
                have HJ := Lib.hid (HH.out.join HT2.out HR2.out (Turn.refl d q M1) ((HH.out.two0 (by omega)).same (fun i h1 h2 => HT2.out.out i (by omega))))
                have HS5 := HS4
                have HF5 := HF4
                go_wp2
                all_goals go_end0
                all_goals exact ⟨rfl, _, HS5.out, HJ.out.1, HJ.out.2, HF5.out⟩
            · have fC0 : ¬ ((p : Int) < (s : Int)) := by omega
              by_cases hD : e < q
              · have fD0 : (e : Int) < (q : Int) := by omega
                go_wp2_with fail
                refine (rot_any g b c n s m e y L wr _ HS2.out HN.out hA hB (by omega) hn2).mono ?_
                rintro x w1 ⟨rfl, M, hs1, hr1, hf1⟩
                have HH := Lib.hid (HHV.out M hr1)
                have HS3 := Lib.hid hs1
                have HF3 := Lib.hid (HF2.out.trans hf1 (fun _ _ x => x))
                have HN3 := Lib.hid (hr1.turn.len.trans HN.out)
                clear hs1 hr1 hf1
                have HS4 := HS3
                have HF4 := HF3
                have HN4 := HN3
                have HT2 := Lib.hid (Turn.refl p d M)
                have HR2 := Lib.hid (HH.out.one0 (by omega))
                go_wp2_with fail
                refine (HIH.out d e q M _ (by omega) HS4.out HN4.out ((HH.out.two (by omega) hD).same (HN4.out.trans HN3.out.symm) (fun i h1 h2 => HT2.out.out i (by omega)))).mono ?_
                rintro x w3 ⟨rfl, M2, hs3, ht3, hr3, hf3⟩
                have HJ := Lib.hid (HH.out.join HT2.out HR2.out ht3 hr3)
                have HS5 := Lib.hid hs3
                have HF5 := Lib.hid (HF4.out.trans hf3 (fun _ _ x => x))
                clear hs3 ht3 hr3 hf3
                go_wp2
                all_goals go_end0
                all_goals exact ⟨rfl, _, HS5.out, HJ.out.1, HJ.out.2, HF5.out⟩
              · have fD0 : ¬ ((e : Int) < (q : Int)) := by omega
                go_wp2_with fail
                refine (rot_any g b c n s m e y L wr _ HS2.out HN.out hA hB (by omega) hn2).mono ?_
                rintro x w1 ⟨rfl, M, hs1, hr1, hf1⟩
                have HH := Lib.hid (HHV.out M hr1)
                have HS3 := Lib.hid hs1
                have HF3 := Lib.hid (HF2.out.trans hf1 (fun _ _ x => x))
                have HN3 := Lib.hid (hr1.turn.len.trans HN.out)
                clear hs1 hr1 hf1
                have HS4 := HS3
                have HF4 := HF3
                have HN4 := HN3
                have HT2 := Lib.hid (Turn.refl p d M)
                have HR2 := Lib.hid (HH.out.one0 (by omega))
                have HJ := Lib.hid (HH.out.join HT2.out HR2.out (Turn.refl d q M) ((HH.out.two0 (by omega)).same (fun i h1 h2 => HT2.out.out i (by omega))))
                have HS5 := HS4
                have HF5 := HF4
                go_wp2
                all_goals go_end0
                all_goals exact ⟨rfl, _, HS5.out, HJ.out.1, HJ.out.2, HF5.out⟩
          · have fB0 : ¬ ((m : Int) < (e : Int)) := by omega
            have fB1 : ¬ ((s : Int) < (d : Int)) := by omega
            by_cases hC : p < s
            · have fC0 : (p : Int) < (s : Int) := by omega
              by_cases hD : e < q
              · have fD0 : (e : Int) < (q : Int) := by omega
                have HH := Lib.hid (HHV.out L (Rot.same (by omega) (by omega) (by omega)))
                have HS3 := HS2
                have HF3 := HF2
                have HN3 := HN
                have HS4 := HS3
                have HF4 := HF3
                have HN4 := HN3
                have HT2 := Lib.hid (Turn.refl p d L)
                have HR2 := Lib.hid (HH.out.one0 (by omega))
                go_wp2_with fail
                refine (HIH.out d e q L _ (by omega) HS4.out HN4.out ((HH.out.two (by omega) hD).same (HN4.out.trans HN3.out.symm) (fun i h1 h2 => HT2.out.out i (by omega)))).mono ?_
                rintro x w3 ⟨rfl, M2, hs3, ht3, hr3, hf3⟩
                have HJ := Lib.hid (HH.out.join HT2.out HR2.out ht3 hr3)
                have HS5 := Lib.hid hs3
                have HF5 := Lib.hid (HF4.out.trans hf3 (fun _ _ x => x))
                clear hs3 ht3 hr3 hf3
                go_wp2
                all_goals go_end0
                all_goals exact ⟨rfl, _, HS5.out, HJ.out.1, HJ.out.2, HF5.out⟩
              · have fD0 : ¬ ((e : Int) < (q : Int)) := by omega
                have HH := Lib.hid (HHV.out L (Rot.same (by omega) (by omega) (by omega)))
                have HS3 := HS2
                have HF3 := HF2
                have HN3 := HN
                have HS4 := HS3
                have HF4 := HF3
                have HN4 := HN3
                have HT2 := Lib.hid (Turn.refl p d L)
                have HR2 := Lib.hid (HH.out.one0 (by omega))
                have HJ := Lib.hid (HH.out.join HT2.out HR2.out (Turn.refl d q L) ((HH.out.two0 (by omega)).same (fun i h1 h2 => HT2.out.out i (by omega))))
                have HS5 := HS4
                have HF5 := HF4
                go_wp2
                all_goals go_end0
                all_goals exact ⟨rfl, _, HS5.out, HJ.out.1, HJ.out.2, HF5.out⟩
            · have fC0 : ¬ ((p : Int) < (s : Int)) := by omega
              by_cases hD : e < q
              · have fD0 : (e : Int) < (q : Int) := by omega
                have HH := Lib.hid (HHV.out L (Rot.same (by omega) (by omega) (by omega)))
                have HS3 := HS2
                have HF3 := HF2
                have HN3 := HN
                have HS4 := HS3
                have HF4 := HF3
                have HN4 := HN3
                have HT2 := Lib.hid (Turn.refl p d L)
                have HR2 := Lib.hid (HH.out.one0 (by omega))
                go_wp2_with fail
                refine (HIH.out d e q L _ (by omega) HS4.out HN4.out ((HH.out.two (by omega) hD).same (HN4.out.trans HN3.out.symm) (fun i h1 h2 => HT2.out.out i (by omega)))).mono ?_
                rintro x w3 ⟨rfl, M2, hs3, ht3, hr3, hf3⟩
                have HJ := Lib.hid (HH.out.join HT2.out HR2.out ht3 hr3)
                have HS5 := Lib.hid hs3
                have HF5 := Lib.hid (HF4.out.trans hf3 (fun _ _ x => x))
                clear hs3 ht3 hr3 hf3
                go_wp2
                all_goals go_end0
                all_goals exact ⟨rfl, _, HS5.out, HJ.out.1, HJ.out.2, HF5.out⟩
              · have fD0 : ¬ ((e : Int) < (q : Int)) := by omega
                have HH := Lib.hid (HHV.out L (Rot.same (by omega) (by omega) (by omega)))
                have HS3 := HS2
                have HF3 := HF2
                have HN3 := HN
                have HS4 := HS3
                have HF4 := HF3
                have HN4 := HN3
                have HT2 := Lib.hid (Turn.refl p d L)
                have HR2 := Lib.hid (HH.out.one0 (by omega))
                have HJ := Lib.hid (HH.out.join HT2.out HR2.out (Turn.refl d q L) ((HH.out.two0 (by omega)).same (fun i h1 h2 => HT2.out.out i (by omega))))
                have HS5 := HS4
                have HF5 := HF4
                go_wp2
                all_goals go_end0
                all_goals exact ⟨rfl, _, HS5.out, HJ.out.1, HJ.out.2, HF5.out⟩
        · have fA0 : ¬ ((s : Int) < (m : Int)) := by omega
          have fA1 : ¬ ((d : Int) < (e : Int)) := by omega
          by_cases hB : m < e
          · have fB0 : (m : Int) < (e : Int) := by omega
            have fB1 : (s : Int) < (d : Int) := by omega
            by_cases hC : p < s
            · have fC0 : (p : Int) < (s : Int) := by omega
              by_cases hD : e < q
              · have fD0 : (e : Int) < (q : Int) := by omega
                have HH := Lib.hid (HHV.out L (Rot.same (by omega) (by omega) (by omega)))
                have HS3 := HS2
                have HF3 := HF2
                have HN3 := HN
                go_wp2_with fail
                refine (HIH.out p s d L _ (by omega) HS3.out HN3.out (HH.out.one hC (by omega))).mono ?_
                rintro x w2 ⟨rfl, M1, hs2, ht2, hr2, hf2⟩
                have HS4 := Lib.hid hs2
                have HF4 := Lib.hid (HF3.out.trans hf2 (fun _ _ x => x))
                have HN4 := Lib.hid (ht2.len.trans HN3.out)
                have HT2 := Lib.hid ht2
                have HR2 := Lib.hid hr2
                clear hs2 ht2 hr2 hf2
                have HJ := Lib.hid (HH.out.join HT2.out HR2.out (Turn.refl d q M1) ((HH.out.two0 (by omega)).same (fun i h1 h2 => HT2.out.out i (by omega))))
                have HS5 := HS4
                have HF5 := HF4
                go_wp2
                all_goals go_end0
                all_goals exact ⟨rfl, _, HS5.out, HJ.out.1, HJ.out.2, HF5.out⟩
              · have fD0 : ¬ ((e : Int) < (q : Int)) := by omega
                have HH := Lib.hid (HHV.out L (Rot.same (by omega) (by omega) (by omega)))
                have HS3 := HS2
                have HF3 := HF2
                have HN3 := HN
                go_wp2_with fail
                refine (HIH.out p s d L _ (by omega) HS3.out HN3.out (HH.out.one hC (by omega))).mono ?_
                rintro x w2 ⟨rfl, M1, hs2, ht2, hr2, hf2⟩
                have HS4 := Lib.hid hs2
                have HF4 := Lib.hid (HF3.out.trans hf2 (fun _ _ x => x))
                have HN4 := Lib.hid (ht2.len.trans HN3.out)
                have HT2 := Lib.hid ht2
                have HR2 := Lib.hid hr2
                clear hs2 ht2 hr2 hf2
                have HJ := Lib.hid (HH.out.join HT2.out HR2.out (Turn.refl d q M1) ((HH.out.two0 (by omega)).same (fun i h1 h2 => HT2.out.out i (by omega))))
                have HS5 := HS4
                have HF5 := HF4
                go_wp2
                all_goals go_end0
                all_goals exact ⟨rfl, _, HS5.out, HJ.out.1, HJ.out.2, HF5.out⟩
            · have fC0 : ¬ ((p : Int) < (s : Int)) := by omega
              by_cases hD : e < q
              · have fD0 : (e : Int) < (q : Int) := by omega
                have HH := Lib.hid (HHV.out L (Rot.same (by omega) (by omega) (by omega)))
                have HS3 := HS2
                have HF3 := HF2
                have HN3 := HN
                have HS4 := HS3
                have HF4 := HF3
                have HN4 := HN3
                have HT2 := Lib.hid (Turn.refl p d L)
                have HR2 := Lib.hid (HH.out.one0 (by omega))
                have HJ := Lib.hid (HH.out.join HT2.out HR2.out (Turn.refl d q L) ((HH.out.two0 (by omega)).same (fun i h1 h2 => HT2.out.out i (by omega))))
                have HS5 := HS4
                have HF5 := HF4
                go_wp2
                all_goals go_end0
                all_goals exact ⟨rfl, _, HS5.out, HJ.out.1, HJ.out.2, HF5.out⟩
              · have fD0 : ¬ ((e : Int) < (q : Int)) := by omega
                have HH := Lib.hid (HHV.out L (Rot.same (by omega) (by omega) (by omega)))
                have HS3 := HS2
                have HF3 := HF2
                have HN3 := HN
                have HS4 := HS3
                have HF4 := HF3
                have HN4 := HN3
                have HT2 := Lib.hid (Turn.refl p d L)
                have HR2 := Lib.hid (HH.out.one0 (by omega))
                have HJ := Lib.hid (HH.out.join HT2.out HR2.out (Turn.refl d q L) ((HH.out.two0 (by omega)).same (fun i h1 h2 => HT2.out.out i (by omega))))
                have HS5 := HS4
                have HF5 := HF4
                go_wp2
                all_goals go_end0
                all_goals exact ⟨rfl, _, HS5.out, HJ.out.1, HJ.out.2, HF5.out⟩
          · have fB0 : ¬ ((m : Int) < (e : Int)) := by omega
            have fB1 : ¬ ((s : Int) < (d : Int)) := by omega
            by_cases hC : p < s
            · have fC0 : (p : Int) < (s : Int) := by omega
              by_cases hD : e < q
              · have fD0 : (e : Int) < (q : Int) := by omega
                have HH := Lib.hid (HHV.out L (Rot.same (by omega) (by omega) (by omega)))
                have HS3 := HS2
                have HF3 := HF2
                have HN3 := HN
                have HS4 := HS3
                have HF4 := HF3
                have HN4 := HN3
                have HT2 := Lib.hid (Turn.refl p d L)
                have HR2 := Lib.hid (HH.out.one0 (by omega))
                have HJ := Lib.hid (HH.out.join HT2.out HR2.out (Turn.refl d q L) ((HH.out.two0 (by omega)).same (fun i h1 h2 => HT2.out.out i (by omega))))
                have HS5 := HS4
                have HF5 := HF4
                go_wp2
                all_goals go_end0
                all_goals exact ⟨rfl, _, HS5.out, HJ.out.1, HJ.out.2, HF5.out⟩
              · have fD0 : ¬ ((e : Int) < (q : Int)) := by omega
                have HH := Lib.hid (HHV.out L (Rot.same (by omega) (by omega) (by omega)))
                have HS3 := HS2
                have HF3 := HF2
                have HN3 := HN
                have HS4 := HS3
                have HF4 := HF3
                have HN4 := HN3
                have HT2 := Lib.hid (Turn.refl p d L)
                have HR2 := Lib.hid (HH.out.one0 (by omega))
                have HJ := Lib.hid (HH.out.join HT2.out HR2.out (Turn.refl d q L) ((HH.out.two0 (by omega)).same (fun i h1 h2 => HT2.out.out i (by omega))))
                have HS5 := HS4
                have HF5 := HF4
                go_wp2
                all_goals go_end0
                all_goals exact ⟨rfl, _, HS5.out, HJ.out.1, HJ.out.2, HF5.out⟩
            · have fC0 : ¬ ((p : Int) < (s : Int)) := by omega
              by_cases hD : e < q
              · have fD0 : (e : Int) < (q : Int) := by omega
                have HH := Lib.hid (HHV.out L (Rot.same (by omega) (by omega) (by omega)))
                have HS3 := HS2
                have HF3 := HF2
                have HN3 := HN
                have HS4 := HS3
                have HF4 := HF3
                have HN4 := HN3
                have HT2 := Lib.hid (Turn.refl p d L)
                have HR2 := Lib.hid (HH.out.one0 (by omega))
                have HJ := Lib.hid (HH.out.join HT2.out HR2.out (Turn.refl d q L) ((HH.out.two0 (by omega)).same (fun i h1 h2 => HT2.out.out i (by omega))))
                have HS5 := HS4
                have HF5 := HF4
                go_wp2
                all_goals go_end0
                all_goals exact ⟨rfl, _, HS5.out, HJ.out.1, HJ.out.2, HF5.out⟩
              · have fD0 : ¬ ((e : Int) < (q : Int)) := by omega
                have HH := Lib.hid (HHV.out L (Rot.same (by omega) (by omega) (by omega)))
                have HS3 := HS2
                have HF3 := HF2
                have HN3 := HN
                have HS4 := HS3
                have HF4 := HF3
                have HN4 := HN3
                have HT2 := Lib.hid (Turn.refl p d L)
                have HR2 := Lib.hid (HH.out.one0 (by omega))
                have HJ := Lib.hid (HH.out.join HT2.out HR2.out (Turn.refl d q L) ((HH.out.two0 (by omega)).same (fun i h1 h2 => HT2.out.out i (by omega))))
                have HS5 := HS4
                have HF5 := HF4
                go_wp2
                all_goals go_end0
                all_goals exact ⟨rfl, _, HS5.out, HJ.out.1, HJ.out.2, HF5.out⟩
  · have HC2 := Lib.hid hc2
    have HC3 := Lib.hid hc3
    clear hc2 hc3
    go_enter Try.func98, Try.ntmps98
    go_wp2
    go_loopw [20, 21] (fun i j wr => ∃ (s r : Nat), i = .int .i64 s ∧ j = .int .i64 r ∧ Hid (Mid y m d lo hi s r L) ∧ Hid (Fr No w wr)) (fun i j _ => (intOf j).toNat - (intOf i).toNat)
    case atStart => exact ⟨lo, hi, by rw [HC2.out], by rw [HC3.out], H0, Lib.hid (Fr.refl _ _)⟩
    case round =>
      clear H0
      obtain ⟨s, r, rfl, rfl, HMd, HF⟩ := hrel
      have h1 := HMd.out.ls
      have h2 := HMd.out.sr
      have h3 := HMd.out.rh
      by_cases hlt : s < r
      · obtain ⟨h, hh⟩ : ∃ h : Nat, (s + r) / 2 = h := ⟨_, rfl⟩
        have hh2 : ((s : Int) + (r : Int)) / 2 = (h : Int) := by omega
        have hsh : s ≤ h := by omega
        have hhr : h < r := by omega
        have hl : L.length = n := HN.out
        obtain ⟨k, hk⟩ : ∃ k : Nat, pp - h = k := ⟨_, rfl⟩
        have hk2 : k + h = pp := by omega
        have hk3 : m ≤ k ∧ k < q := by omega
        have hk4 : d + m - 1 - h = k := by omega
        have i1 : k < L.length := by omega
        have i2 : h < L.length := by omega
        have hS2 := HS.out.fr HF.out
        have HC := Lib.hid (hS2.cmp i1 i2 wr.drew (Fr.refl _ _).drew)
        obtain ⟨s0, t0⟩ := hS2.two i1 i2 wr (Fr.refl _ _)
        have SK := Lib.hid (fun X hX => hS2.two i1 i2 X ((Fr.refl No wr).drew.then0 hX))
        have HT := HM.out.tags h k (by omega) (by omega) (by omega) (by omega)
        have HLT := Lib.hid (ord_tlt (y := y) HT)
        have HGE := Lib.hid (nord_tlt (y := y) HT)
        have HUP := Lib.hid (fun hA => HMd.out.up (c := h) HM.out HB.out hsh hhr hA)
        have HDN := Lib.hid (fun hA => HMd.out.down (c := h) HM.out HB.out hsh hhr hA)
        rw [hk4] at HUP HDN
        obtain ⟨o, ho⟩ : ∃ o, o = ordI y (ati L k).1 (ati L h).1 := ⟨_, rfl⟩
        rw [← ho] at HC HLT HGE
        clear ho HT hS2 hl hh
        generalize hx : (ati L k).1 = x at *
        generalize hz : (ati L h).1 = z at *
        clear hx hz
        try dsimp only at *
        have v1 : (h : Int) < (n : Int) := by omega
        have v2 : (k : Int) < (n : Int) := by omega
        have v3 : IntKind.i64.wrap ((pp : Int) - (h : Int)) = (k : Int) := by simp only [IntKind.wrap_i64]; omega
        clear i1 i2
        by_cases ho : o < 0
        · have hdo : decide (o < 0) = true := by simpa using ho
          have HA := Lib.hid (HDN.out (HLT.out.1 ho))
          go_wp2
          go_region_held3 (fun w' => w'.cell? ⟨b, k, none⟩ = some (.int .i64 x)
              ∧ w'.cell? ⟨b, h, none⟩ = some (.int .i64 z))
            (first | exact SK.out _ FA.out | exact ⟨s0, t0⟩ | go_keep)
            (first | (go_at_call 78; ((with_reducible refine HC.out.mono ?_); rintro ex wA ⟨rfl, hf⟩); have FA := Lib.hid hf; clear hf))
          all_goals
            go_wp2
            go_roundw
            case rel => exact ⟨s, h, rfl, rfl, HA, Lib.hid (HF.out.then0 ((Fr.refl _ _).drew.then0 FA.out))⟩
            case measure => simp [intOf]; omega
        · have hdo : decide (o < 0) = false := by simpa using ho
          have HA := Lib.hid (HUP.out (HGE.out.1 ho))
          go_wp2
          go_region_held3 (fun w' => w'.cell? ⟨b, k, none⟩ = some (.int .i64 x)
              ∧ w'.cell? ⟨b, h, none⟩ = some (.int .i64 z))
            (first | exact SK.out _ FA.out | exact ⟨s0, t0⟩ | go_keep)
            (first | (go_at_call 78; ((with_reducible refine HC.out.mono ?_); rintro ex wA ⟨rfl, hf⟩); have FA := Lib.hid hf; clear hf))
          all_goals
            go_wp2
            go_roundw
            case rel => exact ⟨h + 1, r, by go_num, rfl, HA, Lib.hid (HF.out.then0 ((Fr.refl _ _).drew.then0 FA.out))⟩
            case measure => simp [intOf]; omega
      · obtain rfl : s = r := by omega
        obtain ⟨e, he⟩ : ∃ e : Nat, s + e = nn := ⟨nn - s, by omega⟩
        have he2 : d + m - s = e := by omega
        have we : IntKind.i64.wrap ((nn : Int) - (s : Int)) = (e : Int) := by simp only [IntKind.wrap_i64]; omega
        have q1 : p ≤ s ∧ s ≤ m ∧ s ≤ d ∧ d ≤ e ∧ m ≤ e ∧ e ≤ q := by omega
        obtain ⟨q1, q2, q3, q4, q5, q6⟩ := q1
        have HHV := Lib.hid (fun (M : List TI) (hr : Rot s m e L M) => HMd.out.halves HM.out HB.out (by omega) (by rw [he2]; exact hr))
        rw [he2] at HHV
        have HS2 := Lib.hid (HS.out.fr HF.out)
        have HF2 := Lib.hid (Fr.mono HF.out (T := (· = b)) (fun _ x => x.elim))
        clear HF HMd HS
        by_cases hA : s < m
        · have fA0 : (s : Int) < (m : Int) := by omega
          have fA1 : (d : Int) < (e : Int) := by omega
          by_cases hB : m < e
          · have fB0 : (m : Int) < (e : Int) := by omega
            have fB1 : (s : Int) < (d : Int) := by omega
            by_cases hC : p < s
            · have fC0 : (p : Int) < (s : Int) := by omega
              by_cases hD : e < q
              · have fD0 : (e : Int) < (q : Int) := by omega
                go_wp2_with fail
                refine (rot_any g b c n s m e y L wr _ HS2.out HN.out hA hB (by omega) hn2).mono ?_
                rintro x w1 ⟨rfl, M, hs1, hr1, hf1⟩
                have HH := Lib.hid (HHV.out M hr1)
                have HS3 := Lib.hid hs1
                have HF3 := Lib.hid (HF2.out.trans hf1 (fun _ _ x => x))
                have HN3 := Lib.hid (hr1.turn.len.trans HN.out)
                clear hs1 hr1 hf1
                go_wp2_with fail
                refine (HIH.out p s d M _ (by omega) HS3.out HN3.out (HH.out.one hC (by omega))).mono ?_
                rintro x w2 ⟨rfl, M1, hs2, ht2, hr2, hf2⟩
                have HS4 := Lib.hid hs2
                have HF4 := Lib.hid (HF3.out.trans hf2 (fun _ _ x => x))
                have HN4 := Lib.hid (ht2.len.trans HN3.out)
                have HT2 := Lib.hid ht2
                have HR2 := Lib.hid hr2
                clear hs2 ht2 hr2 hf2
                go_wp2_with fail
                refine (HIH.out d e q M1 _ (by omega) HS4.out HN4.out ((HH.out.two (by omega) hD).same (HN4.out.trans HN3.out.symm) (fun i h1 h2 => HT2.out.out i (by omega)))).mono ?_
                rintro x w3 ⟨rfl, M2, hs3, ht3, hr3, hf3⟩
                have HJ := Lib.hid (HH.out.join HT2.out HR2.out ht3 hr3)
                have HS5 := Lib.hid hs3
                have HF5 := Lib.hid (HF4.out.trans hf3 (fun _ _ x => x))
                clear hs3 ht3 hr3 hf3
                go_wp2
                all_goals go_end0
                all_goals exact ⟨rfl, _, HS5.out, HJ.out.1, HJ.out.2, HF5.out⟩
              · have fD0 : ¬ ((e : Int) < (q : Int)) := by omega
                go_wp2_with fail
                refine (rot_any g b c n s m e y L wr _ HS2.out HN.out hA hB (by omega) hn2).mono ?_
                rintro x w1 ⟨rfl, M, hs1, hr1, hf1⟩
                have HH := Lib.hid (HHV.out M hr1)
                have HS3 := Lib.hid hs1
                have HF3 := Lib.hid (HF2.out.trans hf1 (fun _ _ x => x))
                have HN3 := Lib.hid (hr1.turn.len.trans HN.out)
                clear hs1 hr1 hf1
                go_wp2_with fail
                refine (HIH.out p s d M _ (by omega) HS3.out HN3.out (HH.out.one hC (by omega))).mono ?_
                rintro x w2 ⟨rfl, M1, hs2, ht2, hr2, hf2⟩
                have HS4 := Lib.hid hs2
                have HF4 := Lib.hid (HF3.out.trans hf2 (fun _ _ x => x))
                have HN4 := Lib.hid (ht2.len.trans HN3.out)
                have HT2 := Lib.hid ht2
                have HR2 := Lib.hid hr2
                clear hs2 ht2 hr2 hf2
                have HJ := Lib.hid (HH.out.join HT2.out HR2.out (Turn.refl d q M1) ((HH.out.two0 (by omega)).same (fun i h1 h2 => HT2.out.out i (by omega))))
                have HS5 := HS4
                have HF5 := HF4
                go_wp2
                all_goals go_end0
                all_goals exact ⟨rfl, _, HS5.out, HJ.out.1, HJ.out.2, HF5.out⟩
            · have fC0 : ¬ ((p : Int) < (s : Int)) := by omega
              by_cases hD : e < q
              · have fD0 : (e : Int) < (q : Int) := by omega
                go_wp2_with fail
                refine (rot_any g b c n s m e y L wr _ HS2.out HN.out hA hB (by omega) hn2).mono ?_
                rintro x w1 ⟨rfl, M, hs1, hr1, hf1⟩
                have HH := Lib.hid (HHV.out M hr1)
                have HS3 := Lib.hid hs1
                have HF3 := Lib.hid (HF2.out.trans hf1 (fun _ _ x => x))
                have HN3 := Lib.hid (hr1.turn.len.trans HN.out)
                clear hs1 hr1 hf1
                have HS4 := HS3
                have HF4 := HF3
                have HN4 := HN3
                have HT2 := Lib.hid (Turn.refl p d M)
                have HR2 := Lib.hid (HH.out.one0 (by omega))
                go_wp2_with fail
                refine (HIH.out d e q M _ (by omega) HS4.out HN4.out ((HH.out.two (by omega) hD).same (HN4.out.trans HN3.out.symm) (fun i h1 h2 => HT2.out.out i (by omega)))).mono ?_
                rintro x w3 ⟨rfl, M2, hs3, ht3, hr3, hf3⟩
                have HJ := Lib.hid (HH.out.join HT2.out HR2.out ht3 hr3)
                have HS5 := Lib.hid hs3
                have HF5 := Lib.hid (HF4.out.trans hf3 (fun _ _ x => x))
                clear hs3 ht3 hr3 hf3
                go_wp2
                all_goals go_end0
                all_goals exact ⟨rfl, _, HS5.out, HJ.out.1, HJ.out.2, HF5.out⟩
              · have fD0 : ¬ ((e : Int) < (q : Int)) := by omega
                go_wp2_with fail
                refine (rot_any g b c n s m e y L wr _ HS2.out HN.out hA hB (by omega) hn2).mono ?_
                rintro x w1 ⟨rfl, M, hs1, hr1, hf1⟩
                have HH := Lib.hid (HHV.out M hr1)
                have HS3 := Lib.hid hs1
                have HF3 := Lib.hid (HF2.out.trans hf1 (fun _ _ x => x))
                have HN3 := Lib.hid (hr1.turn.len.trans HN.out)
                clear hs1 hr1 hf1
                have HS4 := HS3
                have HF4 := HF3
                have HN4 := HN3
                have HT2 := Lib.hid (Turn.refl p d M)
                have HR2 := Lib.hid (HH.out.one0 (by omega))
                have HJ := Lib.hid (HH.out.join HT2.out HR2.out (Turn.refl d q M) ((HH.out.two0 (by omega)).same (fun i h1 h2 => HT2.out.out i (by omega))))
                have HS5 := HS4
                have HF5 := HF4
                go_wp2
                all_goals go_end0
                all_goals exact ⟨rfl, _, HS5.out, HJ.out.1, HJ.out.2, HF5.out⟩
          · have fB0 : ¬ ((m : Int) < (e : Int)) := by omega
            have fB1 : ¬ ((s : Int) < (d : Int)) := by omega
            by_cases hC : p < s
            · have fC0 : (p : Int) < (s : Int) := by omega
              by_cases hD : e < q
              · have fD0 : (e : Int) < (q : Int) := by omega
                have HH := Lib.hid (HHV.out L (Rot.same (by omega) (by omega) (by omega)))
                have HS3 := HS2
                have HF3 := HF2
                have HN3 := HN
                have HS4 := HS3
                have HF4 := HF3
                have HN4 := HN3
                have HT2 := Lib.hid (Turn.refl p d L)
                have HR2 := Lib.hid (HH.out.one0 (by omega))
                go_wp2_with fail
                refine (HIH.out d e q L _ (by omega) HS4.out HN4.out ((HH.out.two (by omega) hD).same (HN4.out.trans HN3.out.symm) (fun i h1 h2 => HT2.out.out i (by omega)))).mono ?_
                rintro x w3 ⟨rfl, M2, hs3, ht3, hr3, hf3⟩
                have HJ := Lib.hid (HH.out.join HT2.out HR2.out ht3 hr3)
                have HS5 := Lib.hid hs3
                have HF5 := Lib.hid (HF4.out.trans hf3 (fun _ _ x => x))
                clear hs3 ht3 hr3 hf3
                go_wp2
                all_goals go_end0
                all_goals exact ⟨rfl, _, HS5.out, HJ.out.1, HJ.out.2, HF5.out⟩
              · have fD0 : ¬ ((e : Int) < (q : Int)) := by omega
                have HH := Lib.hid (HHV.out L (Rot.same (by omega) (by omega) (by omega)))
                have HS3 := HS2
                have HF3 := HF2
                have HN3 := HN
                have HS4 := HS3
                have HF4 := HF3
                have HN4 := HN3
                have HT2 := Lib.hid (Turn.refl p d L)
                have HR2 := Lib.hid (HH.out.one0 (by omega))
                have HJ := Lib.hid (HH.out.join HT2.out HR2.out (Turn.refl d q L) ((HH.out.two0 (by omega)).same (fun i h1 h2 => HT2.out.out i (by omega))))
                have HS5 := HS4
                have HF5 := HF4
                go_wp2
                all_goals go_end0
                all_goals exact ⟨rfl, _, HS5.out, HJ.out.1, HJ.out.2, HF5.out⟩
            · have fC0 : ¬ ((p : Int) < (s : Int)) := by omega
              by_cases hD : e < q
              · have fD0 : (e : Int) < (q : Int) := by omega
                have HH := Lib.hid (HHV.out L (Rot.same (by omega) (by omega) (by omega)))
                have HS3 := HS2
                have HF3 := HF2
                have HN3 := HN
                have HS4 := HS3
                have HF4 := HF3
                have HN4 := HN3
                have HT2 := Lib.hid (Turn.refl p d L)
                have HR2 := Lib.hid (HH.out.one0 (by omega))
                go_wp2_with fail
                refine (HIH.out d e q L _ (by omega) HS4.out HN4.out ((HH.out.two (by omega) hD).same (HN4.out.trans HN3.out.symm) (fun i h1 h2 => HT2.out.out i (by omega)))).mono ?_
                rintro x w3 ⟨rfl, M2, hs3, ht3, hr3, hf3⟩
                have HJ := Lib.hid (HH.out.join HT2.out HR2.out ht3 hr3)
                have HS5 := Lib.hid hs3
                have HF5 := Lib.hid (HF4.out.trans hf3 (fun _ _ x => x))
                clear hs3 ht3 hr3 hf3
                go_wp2
                all_goals go_end0
                all_goals exact ⟨rfl, _, HS5.out, HJ.out.1, HJ.out.2, HF5.out⟩
              · have fD0 : ¬ ((e : Int) < (q : Int)) := by omega
                have HH := Lib.hid (HHV.out L (Rot.same (by omega) (by omega) (by omega)))
                have HS3 := HS2
                have HF3 := HF2
                have HN3 := HN
                have HS4 := HS3
                have HF4 := HF3
                have HN4 := HN3
                have HT2 := Lib.hid (Turn.refl p d L)
                have HR2 := Lib.hid (HH.out.one0 (by omega))
                have HJ := Lib.hid (HH.out.join HT2.out HR2.out (Turn.refl d q L) ((HH.out.two0 (by omega)).same (fun i h1 h2 => HT2.out.out i (by omega))))
                have HS5 := HS4
                have HF5 := HF4
                go_wp2
                all_goals go_end0
                all_goals exact ⟨rfl, _, HS5.out, HJ.out.1, HJ.out.2, HF5.out⟩
        · have fA0 : ¬ ((s : Int) < (m : Int)) := by omega
          have fA1 : ¬ ((d : Int) < (e : Int)) := by omega
          by_cases hB : m < e
          · have fB0 : (m : Int) < (e : Int) := by omega
            have fB1 : (s : Int) < (d : Int) := by omega
            by_cases hC : p < s
            · have fC0 : (p : Int) < (s : Int) := by omega
              by_cases hD : e < q
              · have fD0 : (e : Int) < (q : Int) := by omega
                have HH := Lib.hid (HHV.out L (Rot.same (by omega) (by omega) (by omega)))
                have HS3 := HS2
                have HF3 := HF2
                have HN3 := HN
                go_wp2_with fail
                refine (HIH.out p s d L _ (by omega) HS3.out HN3.out (HH.out.one hC (by omega))).mono ?_
                rintro x w2 ⟨rfl, M1, hs2, ht2, hr2, hf2⟩
                have HS4 := Lib.hid hs2
                have HF4 := Lib.hid (HF3.out.trans hf2 (fun _ _ x => x))
                have HN4 := Lib.hid (ht2.len.trans HN3.out)
                have HT2 := Lib.hid ht2
                have HR2 := Lib.hid hr2
                clear hs2 ht2 hr2 hf2
                have HJ := Lib.hid (HH.out.join HT2.out HR2.out (Turn.refl d q M1) ((HH.out.two0 (by omega)).same (fun i h1 h2 => HT2.out.out i (by omega))))
                have HS5 := HS4
                have HF5 := HF4
                go_wp2
                all_goals go_end0
                all_goals exact ⟨rfl, _, HS5.out, HJ.out.1, HJ.out.2, HF5.out⟩
              · have fD0 : ¬ ((e : Int) < (q : Int)) := by omega
                have HH := Lib.hid (HHV.out L (Rot.same (by omega) (by omega) (by omega)))
                have HS3 := HS2
                have HF3 := HF2
                have HN3 := HN
                go_wp2_with fail
                refine (HIH.out p s d L _ (by omega) HS3.out HN3.out (HH.out.one hC (by omega))).mono ?_
                rintro x w2 ⟨rfl, M1, hs2, ht2, hr2, hf2⟩
                have HS4 := Lib.hid hs2
                have HF4 := Lib.hid (HF3.out.trans hf2 (fun _ _ x => x))
                have HN4 := Lib.hid (ht2.len.trans HN3.out)
                have HT2 := Lib.hid ht2
                have HR2 := Lib.hid hr2
                clear hs2 ht2 hr2 hf2
                have HJ := Lib.hid (HH.out.join HT2.out HR2.out (Turn.refl d q M1) ((HH.out.two0 (by omega)).same (fun i h1 h2 => HT2.out.out i (by omega))))
                have HS5 := HS4
                have HF5 := HF4
                go_wp2
                all_goals go_end0
                all_goals exact ⟨rfl, _, HS5.out, HJ.out.1, HJ.out.2, HF5.out⟩
            · have fC0 : ¬ ((p : Int) < (s : Int)) := by omega
              by_cases hD : e < q
              · have fD0 : (e : Int) < (q : Int) := by omega
                have HH := Lib.hid (HHV.out L (Rot.same (by omega) (by omega) (by omega)))
                have HS3 := HS2
                have HF3 := HF2
                have HN3 := HN
                have HS4 := HS3
                have HF4 := HF3
                have HN4 := HN3
                have HT2 := Lib.hid (Turn.refl p d L)
                have HR2 := Lib.hid (HH.out.one0 (by omega))
                have HJ := Lib.hid (HH.out.join HT2.out HR2.out (Turn.refl d q L) ((HH.out.two0 (by omega)).same (fun i h1 h2 => HT2.out.out i (by omega))))
                have HS5 := HS4
                have HF5 := HF4
                go_wp2
                all_goals go_end0
                all_goals exact ⟨rfl, _, HS5.out, HJ.out.1, HJ.out.2, HF5.out⟩
              · have fD0 : ¬ ((e : Int) < (q : Int)) := by omega
                have HH := Lib.hid (HHV.out L (Rot.same (by omega) (by omega) (by omega)))
                have HS3 := HS2
                have HF3 := HF2
                have HN3 := HN
                have HS4 := HS3
                have HF4 := HF3
                have HN4 := HN3
                have HT2 := Lib.hid (Turn.refl p d L)
                have HR2 := Lib.hid (HH.out.one0 (by omega))
                have HJ := Lib.hid (HH.out.join HT2.out HR2.out (Turn.refl d q L) ((HH.out.two0 (by omega)).same (fun i h1 h2 => HT2.out.out i (by omega))))
                have HS5 := HS4
                have HF5 := HF4
                go_wp2
                all_goals go_end0
                all_goals exact ⟨rfl, _, HS5.out, HJ.out.1, HJ.out.2, HF5.out⟩
          · have fB0 : ¬ ((m : Int) < (e : Int)) := by omega
            have fB1 : ¬ ((s : Int) < (d : Int)) := by omega
            by_cases hC : p < s
            · have fC0 : (p : Int) < (s : Int) := by omega
              by_cases hD : e < q
              · have fD0 : (e : Int) < (q : Int) := by omega
                have HH := Lib.hid (HHV.out L (Rot.same (by omega) (by omega) (by omega)))
                have HS3 := HS2
                have HF3 := HF2
                have HN3 := HN
                have HS4 := HS3
                have HF4 := HF3
                have HN4 := HN3
                have HT2 := Lib.hid (Turn.refl p d L)
                have HR2 := Lib.hid (HH.out.one0 (by omega))
                have HJ := Lib.hid (HH.out.join HT2.out HR2.out (Turn.refl d q L) ((HH.out.two0 (by omega)).same (fun i h1 h2 => HT2.out.out i (by omega))))
                have HS5 := HS4
                have HF5 := HF4
                go_wp2
                all_goals go_end0
                all_goals exact ⟨rfl, _, HS5.out, HJ.out.1, HJ.out.2, HF5.out⟩
              · have fD0 : ¬ ((e : Int) < (q : Int)) := by omega
                have HH := Lib.hid (HHV.out L (Rot.same (by omega) (by omega) (by omega)))
                have HS3 := HS2
                have HF3 := HF2
                have HN3 := HN
                have HS4 := HS3
                have HF4 := HF3
                have HN4 := HN3
                have HT2 := Lib.hid (Turn.refl p d L)
                have HR2 := Lib.hid (HH.out.one0 (by omega))
                have HJ := Lib.hid (HH.out.join HT2.out HR2.out (Turn.refl d q L) ((HH.out.two0 (by omega)).same (fun i h1 h2 => HT2.out.out i (by omega))))
                have HS5 := HS4
                have HF5 := HF4
                go_wp2
                all_goals go_end0
                all_goals exact ⟨rfl, _, HS5.out, HJ.out.1, HJ.out.2, HF5.out⟩
            · have fC0 : ¬ ((p : Int) < (s : Int)) := by omega
              by_cases hD : e < q
              · have fD0 : (e : Int) < (q : Int) := by omega
                have HH := Lib.hid (HHV.out L (Rot.same (by omega) (by omega) (by omega)))
                have HS3 := HS2
                have HF3 := HF2
                have HN3 := HN
                have HS4 := HS3
                have HF4 := HF3
                have HN4 := HN3
                have HT2 := Lib.hid (Turn.refl p d L)
                have HR2 := Lib.hid (HH.out.one0 (by omega))
                have HJ := Lib.hid (HH.out.join HT2.out HR2.out (Turn.refl d q L) ((HH.out.two0 (by omega)).same (fun i h1 h2 => HT2.out.out i (by omega))))
                have HS5 := HS4
                have HF5 := HF4
                go_wp2
                all_goals go_end0
                all_goals exact ⟨rfl, _, HS5.out, HJ.out.1, HJ.out.2, HF5.out⟩
              · have fD0 : ¬ ((e : Int) < (q : Int)) := by omega
                have HH := Lib.hid (HHV.out L (Rot.same (by omega) (by omega) (by omega)))
                have HS3 := HS2
                have HF3 := HF2
                have HN3 := HN
                have HS4 := HS3
                have HF4 := HF3
                have HN4 := HN3
                have HT2 := Lib.hid (Turn.refl p d L)
                have HR2 := Lib.hid (HH.out.one0 (by omega))
                have HJ := Lib.hid (HH.out.join HT2.out HR2.out (Turn.refl d q L) ((HH.out.two0 (by omega)).same (fun i h1 h2 => HT2.out.out i (by omega))))
                have HS5 := HS4
                have HF5 := HF4
                go_wp2
                all_goals go_end0
                all_goals exact ⟨rfl, _, HS5.out, HJ.out.1, HJ.out.2, HF5.out⟩
end Go.Proofs.Ytbndmelkdamgjaa.So
