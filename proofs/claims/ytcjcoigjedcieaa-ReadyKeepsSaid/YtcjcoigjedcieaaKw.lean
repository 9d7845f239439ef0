/- ReadyKeeps: the walk. -/
import Derived.Test.YtcjcoigjedcieaaKp
namespace Go.Proofs.Ytcjcoigjedcieaa
open Go.RowKit Go.Wk

/-- A slice of items apart from a queue. -/
def Want (w : World) (D : Nat → Prop) (G : Option Addr) (m : Nat) (l : List IV) : Prop :=
  l.length = m ∧ (0 < m → ∃ g off, G = some ⟨g, off, none⟩ ∧ g < w.heap.size ∧ ¬ D g ∧ ∀ j u, (icells l)[j]? = some u → w.cell? ⟨g, off + j, none⟩ = some u)
theorem Want.reads {w : World} {D : Nat → Prop} {G : Option Addr} {m : Nat} {l : List IV} (h : Want w D G m l) : Reads w w.heap.size 4 G m (icells l) := by
  refine ⟨by rw [icells_len, h.1], fun hm => ?_⟩
  obtain ⟨g, off, hG, hg, _, hc⟩ := h.2 hm
  exact ⟨_, hG, hg, fun j u hu => by rw [add_plain]; exact hc j u hu⟩
theorem Want.fr0 {w w' : World} {D : Nat → Prop} {G : Option Addr} {m : Nat} {l : List IV} (h : Want w D G m l) (hf : Fr No w w') : Want w' D G m l := by
  refine ⟨h.1, fun hm => ?_⟩
  obtain ⟨g, off, hG, hg, hd, hc⟩ := h.2 hm
  exact ⟨g, off, hG, Nat.lt_of_lt_of_le hg hf.size, hd, fun j u hu => (hf.cell (p := ⟨g, off + j, none⟩) hg (fun z => z)).trans (hc j u hu)⟩
theorem Want.turn {w w' : World} {D D' : Nat → Prop} {G : Option Addr} {m : Nat} {l : List IV} (h : Want w D G m l) (hf : Fr D w w') (hd' : ∀ k, D' k → D k ∨ w.heap.size ≤ k) : Want w' D' G m l := by
  refine ⟨h.1, fun hm => ?_⟩
  obtain ⟨g, off, hG, hg, hd, hc⟩ := h.2 hm
  exact ⟨g, off, hG, Nat.lt_of_lt_of_le hg hf.size, fun e => (hd' g e).elim hd (fun h' => by omega), fun j u hu => (hf.cell (p := ⟨g, off + j, none⟩) hg hd).trans (hc j u hu)⟩
theorem Want.of_own {w w1 : World} {D : Nat → Prop} {G : Option Addr} {m c : Nat} {l : List IV} (ho : w.ownsRow w1.heap.size 31 4 (.slice G m c) m (icells l)) (hl : l.length = m) (hD : ∀ k, D k → k < w1.heap.size) : Want w D G m l := by
  refine ⟨hl, fun hm => ?_⟩
  obtain ⟨g, q, he, hb⟩ := own_some ho hm
  cases he
  obtain ⟨ad, hA, _, hc⟩ := (Reads.of_own ho).2 hm
  cases hA
  exact ⟨g, 0, rfl, (ho.lt g rfl).2, fun e => by have := hD g e; omega, fun j u hu => by have := hc j u hu; rw [add_plain] at this; exact this⟩
/-- The rest of one. -/
theorem Want.rest {w : World} {D : Nat → Prop} {g m : Nat} {l : List IV} (h : Want w D (some ⟨g, 0, none⟩) (m + 1) l) (o : Nat) (ho : o = 4 ∨ m = 0) : Want w D (some ⟨g, o, none⟩) m (l.drop 1) := by
  refine ⟨by rw [List.length_drop, h.1]; omega, fun hm => ?_⟩
  obtain ⟨g', off, hG, hg, hd, hc⟩ := h.2 (by omega)
  cases hG
  have ho4 : o = 4 := by omega
  subst ho4
  refine ⟨g, 4, rfl, hg, hd, fun j u hu => ?_⟩
  rw [← icells_drop l 1, List.getElem?_drop] at hu
  have := hc _ u hu
  rwa [Nat.zero_add, show 1 * 4 + j = 4 + j by omega] at this

theorem rest_run (g m c : Nat) (hc : m + 1 ≤ c) (hm : m ≤ 1000000) : ∃ o, (o = 4 ∨ m = 0) ∧ ∀ W, (Instr.slice 26 (.slice (some ⟨g, 0, none⟩) (m + 1) c) (some (.int .i64 1)) none none).run Try.prog W = .ok (.slice (some ⟨g, o, none⟩) m (c - 1)) W := by
  have h1 : (1 : Int) ≤ (m : Int) + 1 := by omega
  have h2 : 1 ≤ m + 1 := by omega
  by_cases h : c = 1
  · refine ⟨0, .inr (by omega), fun W => ?_⟩
    subst h
    go_simp
    omega
  · refine ⟨4, .inl rfl, fun W => ?_⟩
    go_simp

set_option maxRecDepth 100000 in
set_option maxHeartbeats 8000000 in
theorem readyKeeps_walk (A : Option Addr) (n c : Nat) (es : List (List Int)) (A' : Option Addr) (n' c' : Nat) (es' : List (List Int)) (a0 : Int) (w : World) (h : RowF kOne 8 w A n c es) (h' : RowF kOne 8 w A' n' c' es') (ha0 : 0 ≤ a0 ∧ a0 ≤ 4294967295) :
    Calls Try.prog 7 #[.slice A n c, .slice A' n' c', .int .u32 a0] w fun e w' => e = .returned (.bool true) ∧ Fr No w w' := by
  obtain ⟨m, hm⟩ : ∃ m, m = min n 60 := ⟨_, rfl⟩
  obtain ⟨m2, hm2⟩ : ∃ m2, m2 = min n' 60 := ⟨_, rfl⟩
  have HR := h.cut (m := m) (by omega)
  have HR2 := Lib.hid (h'.cut (m := m2) (by omega))
  have hmin : min (n : Int) 60 = (m : Int) := by omega
  have hmin2 : min (n' : Int) 60 = (m2 : Int) := by omega
  have hm60 : m ≤ 60 := by omega
  have hm260 : m2 ≤ 60 := by omega
  have hmc : m ≤ c := HR.1
  have hmc2 : m2 ≤ c' := HR2.out.1
  have hmn : m ≤ n := by omega
  have hmn2 : m2 ≤ n' := by omega
  have hc1 := h.1
  have hc2 := h.2.1
  have hc3 := h'.1
  have hc4 := h'.2.1
  have q1 : (m : Int) ≤ (n : Int) := by omega
  have q2 : (m2 : Int) ≤ (n' : Int) := by omega
  have q3 : (m : Int) ≤ (c : Int) := by omega
  have q4 : (m2 : Int) ≤ (c' : Int) := by omega
  have HX := Lib.hid (show ∀ i, i < (ones (es.take m)).length → ((ones (es.take m)).getD i On.zero).Ok from fun i hi => ones_ok HR (by rw [ones_len, HR.2.2.2.1] at hi; exact hi))
  have HL := Lib.hid (show (ones (es.take m)).length = m by rw [ones_len]; exact HR.2.2.2.1)
  have HA := Lib.hid (show 1 ≤ a0 + 1 ∧ a0 + 1 ≤ 68719476736 by omega)
  have HF := Lib.hid (fun X hX => filled_any A m c 120 (a0 + 1) (es.take m) X hX (by omega) HA.out)
  rw [show ((120 : Nat) : Int) = 120 from rfl, show min m 120 = m by omega] at HF
  have ha1 : 0 ≤ a0 := ha0.1
  have ha2 : a0 ≤ 4294967295 := ha0.2
  obtain ⟨a, hae⟩ : ∃ a, a0 + 1 = a := ⟨_, rfl⟩
  rw [hae] at HA HF
  generalize ones (es.take m) = xs at *
  have KI := Lib.hid (show KeepI (fillK 120 a xs m) a m 0 from ⟨fillK_ok (by omega) HA.out HX.out m (by rw [HL.out]; exact Nat.le_refl _) (by omega), (fillK_ag m).2.1, (fillK_ag m).1, by rw [(fillK_ag m).2.2]; omega, fillK_len m, fun e he => by
    obtain ⟨i, hi, rfl⟩ := (fillK_mem m).1 he
    left
    show 0 ≤ (i : Int) ∧ (i : Int) < 1000
    omega⟩)
  have HRR := Lib.hid HR
  generalize fillK 120 a xs m = s at *
  clear h h' hm hm2 ha0 HR
  go_enter Try.func7, Try.ntmps7
  go_wp2
  go_quiet (fail)
  have HRq := Lib.hid (HRR.out.fr0 ((Fr.refl No w).drewN nq))
  have FQ := Lib.hid ((Fr.refl No w).drewN nq)
  clear HRR
  generalize w.drewN nq = wq at *
  clear q1 q2 q3 q4
  go_wp2_with fail
  refine (HF.out wq HRq.out).mono ?_
  rintro e w1 ⟨b, D, rfl, M⟩
  replace M := Lib.hid M
  clear hmin HF HRq
  go_wp2_with fail
  refine (Items_at b D s _ M.out.at_).mono ?_
  rintro e w2 ⟨G, gc, rfl, ho, hgc, hf⟩
  rw [KI.out.len] at ho hgc ⊢
  have WN := Lib.hid (Want.of_own (D := D) ho KI.out.len (fun k hk => M.out.at_.lt hk))
  replace M := Lib.hid (M.out.fr0 hf)
  clear ho hf
  go_wp2
  clear hmin2
  go_loopw [9, 46] (fun wv i wr => ∃ (k : Nat) (s : QS) (D : Nat → Prop) (GW : Option Addr) (cw : Nat), wv = .slice GW m cw ∧ i = .int .i64 k ∧ k ≤ m2 ∧ m ≤ cw ∧ Hid (Mine wq wr b D s) ∧ Hid (KeepI s a m k) ∧ Hid (Want wr D GW m s.l)) (fun _ i _ => m2 - (intOf i).toNat)
  case atStart => exact ⟨0, s, D, G, gc, rfl, rfl, Nat.zero_le _, hgc, M, KI, WN⟩
  case round =>
    clear M KI WN hgc
    obtain ⟨k, s, D, GW, cw, rfl, rfl, hk, hcw, M, KI, WN⟩ := hrel
    by_cases hlt : k < m2
    · obtain ⟨xb, xo, p, u, hx, rfl, hxb, hp, hu, h0, h1⟩ := one_at HR2.out hlt
      have c0 := ((FQ.out.then0 M.out.fr).cell (p := ⟨xb, xo + k * 2, none⟩) hxb (fun x => x)).trans h0
      have c1 := ((FQ.out.then0 M.out.fr).cell (p := ⟨xb, xo + k * 2 + 1, none⟩) hxb (fun x => x)).trans h1
      obtain ⟨e1, e2, hok1, hl1, ⟨i, him, hidx, hdel⟩, KI2⟩ := KI.out.push hm60 (by omega) (p := p % 101) (u := u) (by omega) (by omega)
      have PU := Lib.hid (fun X hX => Push_at b D s X hX (1000 + (k : Int)) (p % 101) u (by unfold fits; omega) (by rw [KI.out.added]; omega))
      rw [e1, e2] at PU
      have hsz := KI.out.size
      obtain ⟨s1, hs1⟩ : ∃ s1, s1 = s.add (1000 + (k : Int)) (p % 101) u := ⟨_, rfl⟩
      rw [← hs1] at PU hok1 hl1 hidx hdel KI2
      have hs1z : s1.size = s.size ∧ s1.ag = s.ag ∧ s1.added = s.added + 1 := by rw [hs1]; exact ⟨rfl, rfl, rfl⟩
      have HK2 := Lib.hid KI2
      have HL1 := Lib.hid hl1
      have HDEL := Lib.hid hdel
      have HIDX := Lib.hid hidx
      have HOK1 := Lib.hid hok1
      have HPY := Lib.hid (pick_yes (s := s1) (by omega))
      have HHD := Lib.hid (head_of (s := s1) (by omega))
      rw [hs1z.1, hs1z.2.1, hs1z.2.2] at HPY
      have hpp1 : 0 ≤ p := hp.1
      have hpp2 : p ≤ 255 := hp.2
      have huu1 : 0 ≤ u := hu.1
      have huu2 : u ≤ 4294967295 := hu.2
      have hlt2 : (k : Int) < (m2 : Int) := by omega
      obtain ⟨wa, hwa⟩ : ∃ wa, wa = (wr.alloc (.cells #[.int .i64 k] 3)).alloc (.cells #[.int .u8 p, .int .u32 u] 33) := ⟨_, rfl⟩
      have FA := Lib.hid (show Fr No wr wa by rw [hwa]; exact ((Fr.refl No wr).alloc _).alloc _)
      have BI := Lib.hid (show Blk wa wr.heap.size 3 #[.int .i64 k] by rw [hwa]; exact (Blk.new _ _ _).alloc _)
      have HWA := Lib.hid hwa
      have HDW := Lib.hid (fun q (hq : D q) => M.out.at_.lt hq)
      clear hwa h0 h1 hx e1 e2 hok1 hl1 hidx hdel KI2 hp hu hs1 hs1z hsz
      go_wp2_with fail
      rw [← HWA.out]
      refine (PU.out _ (M.out.at_.fr0 FA.out)).mono ?_
      rintro e w3 ⟨rfl, ht⟩
      obtain ⟨D1, M1, hd1, hf3⟩ := (M.out.fr0 FA.out).next ht
      have BI3 := Lib.hid (BI.out.fr hf3 (fun hd => by have := HDW.out _ hd; omega))
      have WN1 := Lib.hid ((WN.out.fr0 FA.out).turn hf3 hd1)
      replace M1 := Lib.hid M1
      have HL3 := Lib.hid (fun q (hq : D1 q) => M1.out.at_.lt hq)
      clear ht hd1 hf3 c0 c1
      go_wp2_with fail
      refine (Items_at b D1 s1 _ M1.out.at_).mono ?_
      rintro e w4 ⟨G2, c2, rfl, ho2, hgc2, hf⟩
      rw [HL1.out] at ho2 hgc2 ⊢
      have WN2 := Lib.hid (Want.of_own (D := D1) ho2 HL1.out HL3.out)
      replace M1 := Lib.hid (M1.out.fr0 hf)
      have BI4 := Lib.hid (BI3.out.fr hf (fun z => z))
      replace WN1 := Lib.hid (WN1.out.fr0 hf)
      obtain ⟨g2, qq, he, _⟩ := own_some ho2 (by omega)
      cases he
      have IX := Lib.hid (index_any 30 #[.pointer (some ⟨wr.heap.size, 0, none⟩)] (fun x => x.id == 1000 + (k : Int)) (some ⟨g2, 0, none⟩) (m + 1) c2 s1.l w4 WN2.out.reads (by omega) Try.call30 (fun x Y _ hY => yes30 k (by omega) x wr.heap.size Y (by rw [(BI4.out.fr hY (fun z => z)).cell]; rfl) (BI4.out.fr hY (fun z => z)).lt))
      rw [HIDX.out] at IX
      clear hf ho2
      go_wp2_with fail
      refine IX.out.mono ?_
      rintro e w5 ⟨rfl, hf⟩
      replace M1 := Lib.hid (M1.out.fr0 hf)
      replace WN1 := Lib.hid (WN1.out.fr0 hf)
      replace WN2 := Lib.hid (WN2.out.fr0 hf)
      have hii : decide ((i : Int) < 0) = false := by simp
      clear hf IX
      go_wp2_with fail
      refine (clone_any _ (m + 1) c2 s1.l w5 WN2.out.reads (by omega)).mono ?_
      rintro e w6 ⟨G3, c3, rfl, ho3, hgc3, hf⟩
      have HO3 := Lib.hid ho3
      have F56 := Lib.hid hf
      have DL := Lib.hid (del_own G3 (m + 1) c3 i (i + 1) s1.l w6 (own_base HO3.out (Nat.zero_le _)) (by omega) (by omega) (by omega))
      rw [← HDEL.out, show ((i + 1 : Nat) : Int) = (i : Int) + 1 by omega, show i + (m + 1 - (i + 1)) = m by omega] at DL
      clear hf ho3
      go_wp2_with fail
      refine DL.out.mono ?_
      rintro e w7 ⟨rfl, ho7, hf7⟩
      have F57 := Lib.hid (F56.out.ownS hf7 (fun q hq => (HO3.out.lt q (by rw [own_len G3 _ c3 m c3]; exact hq)).1))
      replace M1 := Lib.hid (M1.out.fr0 F57.out)
      replace WN1 := Lib.hid (WN1.out.fr0 F57.out)
      replace WN2 := Lib.hid (WN2.out.fr0 F57.out)
      have R7 := Lib.hid (Reads.of_own ho7)
      have EQ := Lib.hid (equal_eq G3 GW m c3 m cw s.l w7 R7.out WN1.out.reads (by omega))
      clear ho7 hf7 F57 F56
      go_wp2_with fail
      refine EQ.out.mono ?_
      rintro e w8 ⟨rfl, q, rfl⟩
      replace M1 := Lib.hid (M1.out.fr0 ((Fr.refl No _).drewN q))
      replace WN2 := Lib.hid (WN2.out.fr0 ((Fr.refl No _).drewN q))
      clear EQ R7 WN1
      generalize w7.drewN q = w8 at *
      have HEAD := Lib.hid (Head_at b D1 s1 w8 M1.out.at_)
      rw [HHD.out.1, HHD.out.2] at HEAD
      have PICK := Lib.hid (Pick_pure 31 #[] (fun _ => true) b D1 s1 w8 M1.out.at_ Try.call31 (fun x Y _ _ => yes31 x Y))
      rw [HPY.out.1, HPY.out.2.1, HPY.out.2.2] at PICK
      obtain ⟨id0, hid0⟩ : ∃ id0, id0 = (s1.l.getD 0 IV.zero).id := ⟨_, rfl⟩
      rw [← hid0] at HEAD PICK
      have HID0 := Lib.hid hid0
      clear hid0
      go_wp2_with fail
      refine HEAD.out.mono ?_
      rintro e w9 ⟨rfl, rfl⟩
      go_wp2_with fail
      refine PICK.out.mono ?_
      rintro e w9 ⟨rfl, ht⟩
      obtain ⟨D2, M2, hd2, hf2⟩ := M1.out.next ht
      have WN3 := Lib.hid (WN2.out.turn hf2 hd2)
      have MN := Lib.hid M2
      clear ht M2 hd2 hf2 PICK HEAD WN2 M1
      have g0 : w9.cell? ⟨g2, 0, none⟩ = some (.int .i64 id0) := by
        obtain ⟨g', off, he, _, _, d0, _, _, _⟩ := reads_item WN3.out.reads (i := 0) (by omega)
        cases he
        rw [← HID0.out] at d0
        exact d0
      have hg2 : g2 < w9.heap.size := World.block_lt_of_cell? _ _ g0
      have hne1 : (id0 != id0) = false := by simp
      have SK := Lib.hid (fun X (hX : Fr No w9 X) => (hX.cell (p := ⟨g2, 0, none⟩) hg2 (fun z => z)).trans g0)
      have FD := Lib.hid (Fr.refl No w9).drew
      have ITEMS := Lib.hid (fun X (hX : Fr No w9 X) => Items_at b D2 _ X (MN.out.at_.fr0 hX))
      unfold Cloned at ITEMS
      dsimp only at ITEMS
      rw [show (s1.l.drop 1).length = m by rw [List.length_drop, HL1.out]; omega] at ITEMS
      have h1c : (1 : Int) ≤ (m : Int) + 1 := by omega
      obtain ⟨o, ho, hsl⟩ := rest_run g2 m c2 hgc2 (by omega)
      have WR := Lib.hid (WN3.out.rest o ho)
      obtain ⟨c5, hc5⟩ : ∃ c5, c5 = c2 - 1 := ⟨_, rfl⟩
      have hm5 : m ≤ c5 := by omega
      rw [← hc5] at hsl
      clear ho hc5
      go_wp2
      go_region_held3 (fun X => X.cell? ⟨g2, 0, none⟩ = some (.int .i64 id0))
        (first | exact SK.out _ FC.out | exact SK.out _ FB.out | exact SK.out _ FD.out | go_keep)
        (first
          | (go_at_call 12; ((with_reducible refine (ITEMS.out _ FD.out).mono ?_); rintro e wA ⟨GI, ci, rfl, hoi, _, hf⟩; have FB := Lib.hid (FD.out.then0 hf); have RI := Lib.hid (Reads.of_own hoi); have WRB := Lib.hid (WR.out.fr0 FB.out); clear hoi hf))
          | (go_at_call 27; ((with_reducible refine (equal_eq _ _ m _ m _ (s1.l.drop 1) _ RI.out WRB.out.reads (by omega)).mono ?_); rintro e wB ⟨rfl, qx, rfl⟩; have FC := Lib.hid (FB.out.drewN qx))))
      all_goals
        clear g0 WRB RI
        go_wp2
        go_roundw
        case rel => exact ⟨k + 1, _, D2, _, _, rfl, by go_num, by omega, hm5, Lib.hid (MN.out.fr0 FC.out), HK2, Lib.hid (WR.out.fr0 FC.out)⟩
        case measure => simp [intOf]; omega
    · obtain ⟨wo, rfl⟩ : ∃ wo : World, wo = wr := ⟨_, rfl⟩
      have hk2 : ¬ (k : Int) < (m2 : Int) := by omega
      have M0 := Lib.hid (show Mine wq wo b D ⟨s.l.drop 0, s.size, s.ag, s.added⟩ from M.out)
      have HOKS := Lib.hid KI.out.ok
      have HLS := Lib.hid KI.out.len
      clear M KI
      go_wp2
      clear hlt hk2
      go_loopw [123] (fun i wr => ∃ (j : Nat) (D : Nat → Prop), i = .int .i64 j ∧ j ≤ m ∧ Hid (Mine wq wr b D ⟨s.l.drop j, s.size, s.ag, s.added⟩) ∧ Hid (Want wr D GW m s.l)) (fun i _ => m - (intOf i).toNat)
      case atStart => exact ⟨0, D, rfl, Nat.zero_le _, M0, WN⟩
      case round =>
        clear M0 WN
        obtain ⟨j, D, rfl, hj, M, WN⟩ := hrel
        by_cases hlj : j < m
        · obtain ⟨g, off, rfl, hg, hll, d0, d1, d2, d3⟩ := reads_item WN.out.reads hlj
          have hjl : j < s.l.length := by rw [HLS.out]; exact hlj
          have hpos : 0 < (⟨s.l.drop j, s.size, s.ag, s.added⟩ : QS).l.length := by show 0 < (s.l.drop j).length; rw [List.length_drop]; omega
          have PY := pick_yes hpos
          have hget : (s.l.drop j).getD 0 IV.zero = s.l.getD j IV.zero := by
            simp [List.getD_eq_getElem?_getD]
          dsimp only at PY
          rw [hget, List.drop_drop] at PY
          have HPY := Lib.hid PY
          obtain ⟨x, hx⟩ : ∃ x, x = s.l.getD j IV.zero := ⟨_, rfl⟩
          rw [← hx] at d0 d1 d2 d3 HPY
          obtain ⟨x1, x2, x3, x4⟩ := x
          dsimp only at d0 d1 d2 d3 HPY
          obtain ⟨wa, hwa⟩ : ∃ wa, wa = wr.alloc (.cells #[.int .i64 x1, .int .i64 x2, .int .i64 x3, .int .i64 x4] 31) := ⟨_, rfl⟩
          have FA := Lib.hid (show Fr No wr wa by rw [hwa]; exact (Fr.refl No wr).alloc _)
          have BX := Lib.hid (show Blk wa wr.heap.size 31 #[.int .i64 x1, .int .i64 x2, .int .i64 x3, .int .i64 x4] by rw [hwa]; exact Blk.new _ _ _)
          have HWA := Lib.hid hwa
          have HDW := Lib.hid (fun q (hq : D q) => M.out.at_.lt hq)
          have PICK := Lib.hid (Pick_pure 32 #[] (fun _ => true) b D ⟨s.l.drop j, s.size, s.ag, s.added⟩ wa (M.out.at_.fr0 FA.out) Try.call32 (fun x Y _ _ => yes32 x Y))
          rw [HPY.out.1, HPY.out.2.1, HPY.out.2.2] at PICK
          have hlj2 : (j : Int) < (m : Int) := by omega
          have hne1 : (x1 != x1) = false := by simp
          clear hwa hx hget PY hpos hll hjl
          go_wp2_with fail
          rw [← HWA.out]
          refine PICK.out.mono ?_
          rintro e wb ⟨rfl, ht⟩
          obtain ⟨D2, M2, hd2, hf2⟩ := (M.out.fr0 FA.out).next ht
          have WN2 := Lib.hid ((WN.out.fr0 FA.out).turn hf2 hd2)
          have B2 := BX.out.fr hf2 (fun hd => by have := HDW.out _ hd; omega)
          have e0 := B2.cell 0
          simp only [List.getElem?_toArray, List.getElem?_cons_zero] at e0
          have M3 := Lib.hid M2
          clear ht M2 hd2 hf2 B2 d0 d1 d2 d3
          go_wp2
          go_roundw
          case rel => exact ⟨j + 1, D2, by go_num, by omega, M3, WN2⟩
          case measure => simp [intOf]; omega
        · have hjm : j = m := by omega
          have hnil : s.l.drop j = [] := List.drop_eq_nil_of_le (by rw [HLS.out]; omega)
          rw [hnil] at M
          have HH := Lib.hid (Head_at b D _ wr M.out.at_)
          rw [show headV (⟨[], s.size, s.ag, s.added⟩ : QS) = 0 from rfl, show headB (⟨[], s.size, s.ag, s.added⟩ : QS) = false from rfl] at HH
          have LL := Lib.hid (Len_at b D _ wr M.out.at_)
          rw [show ((⟨[], s.size, s.ag, s.added⟩ : QS).l.length : Int) = 0 from rfl] at LL
          have hlj2 : ¬ (j : Int) < (m : Int) := by omega
          clear hjm hnil WN
          go_wp2_with fail
          refine HH.out.mono ?_
          rintro e wb ⟨rfl, rfl⟩
          go_wp2_with fail
          refine LL.out.mono ?_
          rintro e wb ⟨rfl, rfl⟩
          go_wp2_with fail
          refine (works_any _).mono ?_
          rintro e wc ⟨rfl, hf⟩
          have F9 := Lib.hid (FQ.out.then0 (M.out.fr.then0 hf))
          clear hf
          go_wp2
          go_ret
          exact ⟨rfl, F9.out⟩
end Go.Proofs.Ytcjcoigjedcieaa
