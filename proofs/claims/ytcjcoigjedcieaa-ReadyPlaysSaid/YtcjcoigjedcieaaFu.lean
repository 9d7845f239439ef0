/- ReadyFull: the walk. -/
import Derived.Test.YtcjcoigjedcieaaTk
namespace Go.Proofs.Ytcjcoigjedcieaa
open Go.RowKit Go.Wk

/-- Two queues of the call's own, apart. -/
structure Two (w wr : World) (bx : Nat) (D : Nat → Prop) (s : QS) (b' : Nat) (D' : Nat → Prop) (t : QS) : Prop where
  x : Mine w wr bx D s
  y : Mine w wr b' D' t
  ap : ∀ k, D k → ¬ D' k
section
variable {w w1 w2 : World} {bx b' : Nat} {D D' : Nat → Prop} {s s' t t' : QS}
theorem Two.of (h : Mine w w1 bx D s) (hn : NewAt w1 b' D' t w2) : Two w w2 bx D s b' D' t :=
  ⟨h.fr0 hn.2.2, ⟨hn.1, h.fr.then0 hn.2.2, fun k hk => Nat.le_trans h.fr.size (hn.2.1 k hk)⟩, fun k a b => by have := h.at_.lt a; have := hn.2.1 k b; omega⟩
theorem Two.fr0 (h : Two w w1 bx D s b' D' t) (hf : Fr No w1 w2) : Two w w2 bx D s b' D' t := ⟨h.x.fr0 hf, h.y.fr0 hf, h.ap⟩
theorem Two.next (h : Two w w1 bx D s b' D' t) (ht : TurnedAt w1 bx D s' w2) : ∃ E, Two w w2 bx E s' b' D' t ∧ Fr D w1 w2 := by
  obtain ⟨E, hl, hf, hd⟩ := ht
  refine ⟨E, ⟨⟨hl, h.x.fr.ownS hf h.x.hD, fun k hk => (hd k hk).elim (h.x.hD k) (fun h' => Nat.le_trans h.x.fr.size h')⟩, h.y.beside hf h.x.hD (fun k a b => h.ap k b a), fun k a b => ?_⟩, hf⟩
  rcases hd k a with h1 | h1
  · exact h.ap k h1 b
  · have := h.y.at_.lt b; omega
theorem Two.next2 (h : Two w w1 bx D s b' D' t) (ht : TurnedAt w1 b' D' t' w2) : ∃ E, Two w w2 bx D s b' E t' ∧ Fr D' w1 w2 := by
  obtain ⟨E, hl, hf, hd⟩ := ht
  refine ⟨E, ⟨h.x.beside hf h.y.hD h.ap, ⟨hl, h.y.fr.ownS hf h.y.hD, fun k hk => (hd k hk).elim (h.y.hD k) (fun h' => Nat.le_trans h.y.fr.size h')⟩, fun k a b => ?_⟩, hf⟩
  rcases hd k b with h1 | h1
  · exact h.ap k a h1
  · have := h.x.at_.lt a; omega
end

/-- What is added: each number with itself as its time. -/
def many (n : Nat) : List On := (List.range n).map (fun i : Nat => (⟨(i : Int) % 101, (i : Int)⟩ : On))
theorem many_len (n : Nat) : (many n).length = n := by simp [many]
theorem many_get {n k : Nat} (hk : k < n) : (many n).getD k On.zero = ⟨(k : Int) % 101, k⟩ := by simp [many, hk]
theorem many_ok {n : Nat} (hn : n ≤ 1024) : ∀ i, i < (many n).length → ((many n).getD i On.zero).Ok := fun i hi => by
  rw [many_len] at hi
  rw [many_get hi]
  exact ⟨⟨by show (0 : Int) ≤ (i : Int) % 101; omega, by show (i : Int) % 101 ≤ 100; omega⟩, by show (0 : Int) ≤ i; omega, by show (i : Int) ≤ 4294967295; omega⟩
/-- A full queue. -/
def fullS (n : Nat) : QS := fillK n 68719476736 (many n) n
section
variable {n : Nat}
theorem full_ok (hn : n ≤ 1024) : (fullS n).ok := fillK_ok (by omega) (by decide) (many_ok hn) n (by rw [many_len]; exact Nat.le_refl _) (Int.le_refl _)
theorem full_len : (fullS n).l.length = n := fillK_len n
theorem full_facts (hn : n ≤ 1024) (h3 : 3 < n) : pushE (fullS n) n 0 0 = 4 ∧ pushS (fullS n) n 0 0 = fullS n ∧ roomV (fullS n) = 0 ∧ remE (fullS n) 3 = 0 ∧ hasB (fullS n) 3 = true ∧ hasB (fullS n) n = false ∧
    pushE (remS (fullS n) 3) n 0 0 = 0 ∧ (pushS (remS (fullS n) 3) n 0 0).l.length = n ∧ (fullS n).added = n := by
  have hz : (fullS n).size = n := (fillK_ag n).2.1
  have ha : (fullS n).added = n := (fillK_ag n).2.2
  have h3' : hasB (fullS n) 3 = true := by
    have : itemK (many n) 3 ∈ (fullS n).l := (fillK_mem n).2 ⟨3, h3, rfl⟩
    exact hasB_of this
  have hnn : hasB (fullS n) n = false := by
    unfold hasB fullS
    rw [fillK_new n (fun i hi => by omega)]; rfl
  have hE : pushE (fullS n) n 0 0 = 4 := by
    unfold pushE
    rw [if_neg (by omega), if_neg (by omega), hnn, if_neg (by simp), if_pos (by rw [hz, full_len]; exact Int.le_refl _)]
  obtain ⟨i, hi, hid⟩ := hasB_at h3'
  have hrl : (remS (fullS n) 3).l.length = n - 1 := by
    rw [← hid, remS_at (full_ok hn) hi, cut_len _ hi, full_len]; rw [full_len] at hi; omega
  have hnr : hasB (remS (fullS n) 3) n = false := by
    have h0 := hasB_false hnn
    cases hb : hasB (remS (fullS n) 3) n
    · rfl
    · obtain ⟨j, hj, he⟩ := hasB_at hb
      have := getD_mem' hj
      have h1 : (remS (fullS n) 3).l.getD j IV.zero ∈ (fullS n).l := (List.mem_filter.1 this).1
      exact absurd he (h0 _ h1)
  have hE2 : pushE (remS (fullS n) 3) n 0 0 = 0 := by
    unfold pushE
    rw [if_neg (by omega), if_neg (by omega), hnr, if_neg (by simp), if_neg (by rw [hrl]; show ¬ (fullS n).size ≤ _; rw [hz]; omega)]
  refine ⟨hE, by unfold pushS; rw [if_neg (by rw [hE]; decide)], by unfold roomV; rw [hz, full_len]; omega, by unfold remE; rw [h3']; rfl, h3', hnn, hE2, ?_, ha⟩
  unfold pushS
  rw [if_pos hE2]
  show (insQ _ _ _).length = n
  rw [insQ_len, hrl]; omega
theorem full_push (hn : n ≤ 1024) {k : Nat} (hk : k < n) : pushE (fillK n 68719476736 (many n) k) k ((k : Int) % 101) k = 0 ∧ pushS (fillK n 68719476736 (many n) k) k ((k : Int) % 101) k = fillK n 68719476736 (many n) (k + 1) := by
  have := fillK_push (size := n) (ag := 68719476736) (xs := many n) (k := k) (by rw [many_len]; exact hk) (by omega) (many_ok hn)
  rw [many_get hk] at this
  exact this
end
theorem item_same2 (a b c d : Int) (W : World) : (binOp .eql 31 (.agg #[.int .i64 a, .int .i64 b, .int .i64 c, .int .i64 d]) (.agg #[.int .i64 a, .int .i64 b, .int .i64 c, .int .i64 d])).run Try.prog W = .ok (.bool true) W := by go_simp

set_option maxRecDepth 100000 in
set_option maxHeartbeats 8000000 in
theorem readyFull_walk (a0 : Int) (w : World) (ha : 0 ≤ a0 ∧ a0 ≤ 255) :
    Calls Try.prog 8 #[.int .u8 a0] w fun e w' => e = .returned (.bool true) ∧ Fr No w w' := by
  obtain ⟨r, hr⟩ : ∃ r, a0 % 4 = r := ⟨_, rfl⟩
  have hr0 : 0 ≤ r := by omega
  have hr1 : r ≤ 3 := by omega
  have ha0 := ha.1
  have ha1 := ha.2
  by_cases h3 : r = 3
  · subst h3
    have N1 := Lib.hid (fun X => New_bad 1025 68719476736 (by omega) X)
    have N2 := Lib.hid (fun X => New_bad (-1) 1 (by omega) X)
    have N3 := Lib.hid (fun X => New_bad 1 0 (by omega) X)
    have N4 := Lib.hid (fun X => New_bad 1 68719476737 (by omega) X)
    clear ha hr1 hr0
    go_enter Try.func8, Try.ntmps8
    go_wp2_with fail
    refine (N1.out _).mono ?_
    rintro e w1 ⟨rfl, rfl⟩
    go_wp2_with fail
    refine (N2.out _).mono ?_
    rintro e w1 ⟨rfl, rfl⟩
    go_wp2_with fail
    refine (N3.out _).mono ?_
    rintro e w1 ⟨rfl, rfl⟩
    go_wp2_with fail
    refine (N4.out _).mono ?_
    rintro e w1 ⟨rfl, rfl⟩
    go_wp2_with fail
    refine (works_any _).mono ?_
    rintro e w1 ⟨rfl, hf⟩
    go_wp2
    go_ret
    exact ⟨rfl, hf⟩
  · obtain ⟨n, hn⟩ : ∃ n : Nat, 1024 + (r - 2) = (n : Int) := ⟨(1024 + (r - 2)).toNat, by omega⟩
    have hn1 : n ≤ 1024 := by omega
    have hn2 : 1022 ≤ n := by omega
    have hrd : decide (0 < r - 2) = false := by simp; omega
    have N1 := Lib.hid (fun X => New_any n 68719476736 (by omega) (by omega) X)
    obtain ⟨f1, f2, f3, f4, f5, f6, f7, f8, f9⟩ := full_facts hn1 (by omega : 3 < n)
    have hfl := full_len (n := n)
    have PU := Lib.hid (fun k (hk : k < n) b D X h => Push_at b D (fillK n 68719476736 (many n) k) X h k ((k : Int) % 101) k (fits_small (by omega)) (by rw [(fillK_ag k).2.2]; omega))
    have HPU := Lib.hid (fun k (hk : k < n) => full_push hn1 hk)
    have A1 := Lib.hid (fun b D X h => Push_at b D (fullS n) X h n 0 0 (fits_small (by omega)) (by rw [f9]; omega))
    have A2 := Lib.hid (fun b D X h => Room_at b D (fullS n) X h)
    have A3 := Lib.hid (fun b D X h => Remove_at b D (fullS n) X h 3 (fits_small (by omega)))
    have A4 := Lib.hid (fun b D X h => Has_at b D (fullS n) X h 3 (fits_small (by omega)))
    have A5 := Lib.hid (fun b D X h => Push_at b D (remS (fullS n) 3) X h n 0 0 (fits_small (by omega)) (by show (fullS n).added + 1 ≤ _; rw [f9]; omega))
    have A6 := Lib.hid (fun b D X h => Has_at b D (fullS n) X h n (fits_small (by omega)))
    rw [f1, f2] at A1
    rw [f3] at A2
    rw [f4] at A3
    rw [f5] at A4
    rw [f7] at A5
    rw [f6] at A6
    have HF8 := Lib.hid f8
    have HFL := Lib.hid hfl
    generalize remS (fullS n) 3 = s1 at *
    generalize pushS s1 n 0 0 = s2 at *
    have HS0 := Lib.hid (show fillK n 68719476736 (many n) n = fullS n from rfl)
    generalize fullS n = s0 at *
    have HN := Lib.hid hn
    clear f1 f2 f3 f4 f5 f6 f7 f8 f9 hfl ha h3
    go_enter Try.func8, Try.ntmps8
    go_wp2_with fail
    refine (N1.out _).mono ?_
    rintro e w1 ⟨b, D, rfl, hnw⟩
    have M := Lib.hid (show Mine w w1 b D (fillK n 68719476736 (many n) 0) from Mine.of hnw (Fr.refl No w))
    clear hnw
    go_wp2
    go_loopw [68] (fun i wr => ∃ (k : Nat) (D : Nat → Prop), i = .int .i64 k ∧ k ≤ n ∧ Hid (Mine w wr b D (fillK n 68719476736 (many n) k))) (fun i _ => n - (intOf i).toNat)
    case atStart => exact ⟨0, D, rfl, Nat.zero_le _, M⟩
    case round =>
      clear M
      obtain ⟨k, D, rfl, hk, M⟩ := hrel
      by_cases hlt : k < n
      · obtain ⟨e1, e2⟩ := HPU.out k hlt
        have P := Lib.hid (PU.out k hlt)
        rw [e1, e2] at P
        have hlt2 : (k : Int) < (n : Int) := by omega
        clear e1 e2
        go_wp2_with fail
        refine (P.out b D _ M.out.at_).mono ?_
        rintro e w2 ⟨rfl, ht⟩
        obtain ⟨D2, M2, _, _⟩ := M.out.next ht
        have M3 := Lib.hid M2
        clear ht M2
        go_wp2
        go_roundw
        case rel => exact ⟨k + 1, D2, by go_num, by omega, M3⟩
        case measure => simp [intOf]; omega
      · have hkn : k = n := by omega
        rw [hkn, HS0.out] at M
        have hlt2 : ¬ (k : Int) < (n : Int) := by omega
        clear hkn hlt hk
        go_wp2_with fail
        refine (Copy_at b D s0 _ M.out.at_).mono ?_
        rintro e w2 ⟨b', D', rfl, hnw⟩
        have T := Lib.hid (Two.of M.out hnw)
        clear hnw M
        go_wp2_with fail
        refine (A1.out b _ _ T.out.x.at_).mono ?_
        rintro e w3 ⟨rfl, ht⟩
        obtain ⟨E1, T2, _⟩ := T.out.next ht
        replace T := Lib.hid T2
        clear ht T2
        go_wp2_with fail
        refine (A2.out b _ _ T.out.x.at_).mono ?_
        rintro e w4 ⟨rfl, q, rfl⟩
        replace T := Lib.hid (T.out.fr0 ((Fr.refl No _).drewN q))
        generalize w3.drewN q = w4 at *
        go_wp2_with fail
        refine (A3.out b' _ _ T.out.y.at_).mono ?_
        rintro e w5 ⟨rfl, ht⟩
        obtain ⟨E2, T2, _⟩ := T.out.next2 ht
        have TA := Lib.hid T2
        clear ht T2 T
        go_wp2_with fail
        refine (A4.out b _ _ TA.out.x.at_).mono ?_
        rintro e w6 ⟨rfl, hf⟩
        replace TA := Lib.hid (TA.out.fr0 hf)
        clear hf
        go_wp2_with fail
        refine (A5.out b' _ _ TA.out.y.at_).mono ?_
        rintro e w7 ⟨rfl, ht⟩
        obtain ⟨E3, T2, _⟩ := TA.out.next2 ht
        have T := Lib.hid T2
        clear ht T2 TA
        go_wp2_with fail
        refine (A6.out b _ _ T.out.x.at_).mono ?_
        rintro e w8 ⟨rfl, hf⟩
        replace T := Lib.hid (T.out.fr0 hf)
        clear hf A1 A2 A3 A4 A5 A6
        go_wp2_with fail
        refine (Items_at b E1 s0 _ T.out.x.at_).mono ?_
        rintro e w9 ⟨G, gc, rfl, ho, hgc, hf⟩
        have hlts := fun q (h : E1 q) => T.out.x.at_.lt h
        have hlty := fun q (h : E3 q) => T.out.y.at_.lt h
        have hw8 := T.out.x.fr.size
        replace T := Lib.hid (T.out.fr0 hf)
        rw [HFL.out] at ho hgc ⊢
        obtain ⟨g, cp, he, hg8⟩ := own_some ho (by omega)
        cases he
        rcases ho.2 with ⟨h1, _⟩ | ⟨g', cap, cur, h1, _, hb9, hnc, hcm, hcs, htk⟩
        · cases h1
        injection h1 with h1 _ h2
        cases h1
        subst h2
        have hb9' : Blk w9 g 31 cur := hb9
        obtain ⟨g', off, he, _, _, d0, d1, d2, d3⟩ := reads_item (Reads.of_own ho) (i := 0) (by omega)
        cases he
        simp only [Nat.zero_mul, Nat.zero_add, Nat.add_zero] at d0 d1 d2 d3
        obtain ⟨x, hx⟩ : ∃ x, x = s0.l.getD 0 IV.zero := ⟨_, rfl⟩
        rw [← hx] at d0 d1 d2 d3
        have HX := Lib.hid hx
        obtain ⟨x1, x2, x3, x4⟩ := x
        dsimp only at d0 d1 d2 d3
        obtain ⟨wa, hwa⟩ : ∃ wa, wa = w9.alloc (.cells #[.int .i64 x1, .int .i64 x2, .int .i64 x3, .int .i64 x4] 31) := ⟨_, rfl⟩
        have FA := Lib.hid (show Fr No w9 wa by rw [hwa]; exact (Fr.refl No w9).alloc _)
        have BX := Lib.hid (show Blk wa w9.heap.size 31 #[.int .i64 x1, .int .i64 x2, .int .i64 x3, .int .i64 x4] by rw [hwa]; exact Blk.new _ _ _)
        have BG := Lib.hid (hb9'.fr FA.out (fun z => z))
        have hcl : ∀ ty, (Builtin.clear_ #[26] ty #[.slice (some ⟨g, 0, none⟩) n gc]).run Try.prog wa = .ok (.tuple #[]) (wa.setCells g 0 (zs n)) := fun ty =>
          run_clearN wa ty g 0 n gc cur BG.out (by rw [hcs]; omega) (by omega)
        have FC := Lib.hid (fr_setCells (S := (· = g)) rfl (zs n) 0 (Fr.refl _ wa))
        have HWA := Lib.hid hwa
        have hgl := hb9'.lt
        have hnd1 : ¬ E1 g := fun h => by have := hlts g h; omega
        have hnd3 : ¬ E3 g := fun h => by have := hlty g h; omega
        have TC := Lib.hid (show Two w (wa.setCells g 0 (zs n)) b E1 s0 b' E3 s2 from
          ⟨(T.out.x.fr0 FA.out).beside FC.out (fun q hq => by rw [hq]; omega) (fun q h1 h2 => hnd1 (by rw [← h2]; exact h1)),
           (T.out.y.fr0 FA.out).beside FC.out (fun q hq => by rw [hq]; omega) (fun q h1 h2 => hnd3 (by rw [← h2]; exact h1)), T.out.ap⟩)
        have BX2 := Lib.hid (BX.out.fr FC.out (fun e => by omega))
        rw [hwa] at hcl
        obtain ⟨wc, hwc⟩ : ∃ wc, wc = wa.setCells g 0 (zs n) := ⟨_, rfl⟩
        rw [← hwc] at TC BX2
        have HWC := Lib.hid (show wc = (w9.alloc (.cells #[.int .i64 x1, .int .i64 x2, .int .i64 x3, .int .i64 x4] 31)).setCells g 0 (zs n) by rw [hwc, hwa])
        clear T FC BX FA hb9 hb9' hwa hwc hlts hlty ho htk hx BG HWA
        go_wp2_with fail
        rw [← HWC.out]
        refine (Items_at b E1 s0 _ TC.out.x.at_).mono ?_
        rintro e wd ⟨G2, gc2, rfl, ho, hgc2, hf⟩
        replace TC := Lib.hid (TC.out.fr0 hf)
        have BX3 := Lib.hid (BX2.out.fr hf (fun z => z))
        rw [HFL.out] at ho hgc2 ⊢
        obtain ⟨g2, cp2, he, _⟩ := own_some ho (by omega)
        cases he
        obtain ⟨g', off, he, _, _, e0, e1, e2, e3⟩ := reads_item (Reads.of_own ho) (i := 0) (by omega)
        cases he
        simp only [Nat.zero_mul, Nat.zero_add, Nat.add_zero] at e0 e1 e2 e3
        have hg2 := (ho.lt g2 rfl).2
        rw [← HX.out] at e0 e1 e2 e3
        dsimp only at e0 e1 e2 e3
        have hx1 := BX3.out.lt
        have SK := Lib.hid (fun (X : World) (hX : Fr No wd X) => (show (X.cell? ⟨g2, 0, none⟩ = some (.int .i64 x1) ∧ X.cell? ⟨g2, 1, none⟩ = some (.int .i64 x2) ∧ X.cell? ⟨g2, 2, none⟩ = some (.int .i64 x3) ∧ X.cell? ⟨g2, 3, none⟩ = some (.int .i64 x4)) ∧
            (X.cell? ⟨w9.heap.size, 0, none⟩ = some (.int .i64 x1) ∧ X.cell? ⟨w9.heap.size, 1, none⟩ = some (.int .i64 x2) ∧ X.cell? ⟨w9.heap.size, 2, none⟩ = some (.int .i64 x3) ∧ X.cell? ⟨w9.heap.size, 3, none⟩ = some (.int .i64 x4)) from
          ⟨⟨(hX.cell (p := ⟨g2, 0, none⟩) hg2 (fun z => z)).trans e0, (hX.cell (p := ⟨g2, 1, none⟩) hg2 (fun z => z)).trans e1, (hX.cell (p := ⟨g2, 2, none⟩) hg2 (fun z => z)).trans e2, (hX.cell (p := ⟨g2, 3, none⟩) hg2 (fun z => z)).trans e3⟩,
            blk4 (x := ⟨x1, x2, x3, x4⟩) (BX3.out.fr hX (fun z => z))⟩))
        obtain ⟨⟨s1', s2', s3', s4'⟩, s5', s6', s7', s8'⟩ := SK.out wd (Fr.refl _ _)
        have FD := Lib.hid (Fr.refl No wd).drew
        have L := Lib.hid (fun X (hX : Fr No wd X) => Len_at b' E3 s2 X (TC.out.y.at_.fr0 hX))
        rw [HF8.out] at L
        have hsame := fun W => item_same2 x1 x2 x3 x4 W
        have hnn : ((n : Int) == (n : Int)) = true := by simp
        have hn3 : (0 : Int) < (n : Int) := by omega
        have hn4 : 0 < n := by omega
        clear ho hf e0 e1 e2 e3 d0 d1 d2 d3 hcl
        go_wp2_with fail
        go_region_held3 (fun X => (X.cell? ⟨g2, 0, none⟩ = some (.int .i64 x1) ∧ X.cell? ⟨g2, 1, none⟩ = some (.int .i64 x2) ∧ X.cell? ⟨g2, 2, none⟩ = some (.int .i64 x3) ∧ X.cell? ⟨g2, 3, none⟩ = some (.int .i64 x4)) ∧
            (X.cell? ⟨w9.heap.size, 0, none⟩ = some (.int .i64 x1) ∧ X.cell? ⟨w9.heap.size, 1, none⟩ = some (.int .i64 x2) ∧ X.cell? ⟨w9.heap.size, 2, none⟩ = some (.int .i64 x3) ∧ X.cell? ⟨w9.heap.size, 3, none⟩ = some (.int .i64 x4)))
          (first | exact SK.out _ FB.out | exact SK.out _ FD.out | go_keep)
          (first
            | (go_at_call 13; ((with_reducible refine (L.out _ FD.out).mono ?_); rintro e wA ⟨rfl, rfl⟩))
            | (go_at_call 17; ((with_reducible refine (works_any _).mono ?_); rintro e wA ⟨rfl, hf⟩; have FB := Lib.hid (FD.out.then0 hf); clear hf)))
        all_goals
          go_wp2
          go_ret
          exact ⟨rfl, TC.out.x.fr.then0 FB.out⟩
end Go.Proofs.Ytcjcoigjedcieaa
