/- ReadyOrder: the walk. -/
import Derived.Test.YtcjcoigjedcieaaTk
namespace Go.Proofs.Ytcjcoigjedcieaa
open Go.RowKit Go.Wk

theorem lkey_any (g : Int) (x : IV) (hx : x.Ok) (hg : 1 ≤ g ∧ g ≤ 68719476736) (w : World) :
    Calls Try.prog 16 #[valI x, .int .i64 g] w fun e w' => e = .returned (.int .i64 (keyI g x)) ∧ Fr No w w' := by
  obtain ⟨hb0, hb1⟩ := mul_bnd hx.pr.1 hx.pr.2 hg.1 hg.2
  have h0 := hx.since.1
  have h1 := hx.since.2
  obtain ⟨id, pr, since, seq⟩ := x
  dsimp only at hb0 hb1 h0 h1
  unfold keyI valI
  dsimp only
  obtain ⟨q, hq⟩ : ∃ q, pr * g = q := ⟨_, rfl⟩
  rw [hq] at hb0 hb1
  rw [hq]
  have hw1 : wrap64 q = q := by unfold wrap64; omega
  have F0 := Lib.hid ((Fr.refl No w).alloc (.cells #[.int .i64 id, .int .i64 pr, .int .i64 since, .int .i64 seq] 31))
  clear hx hg
  go_enter Try.func16, Try.ntmps16
  go_wp2
  go_ret
  exact ⟨rfl, F0.out⟩

theorem item_same (a b c d : Int) (W : World) : (binOp .neq 31 (.agg #[.int .i64 a, .int .i64 b, .int .i64 c, .int .i64 d]) (.agg #[.int .i64 a, .int .i64 b, .int .i64 c, .int .i64 d])).run Try.prog W = .ok (.bool false) W := by go_simp
/-- Which ids were met. -/
def bc (l : List Bool) : List Value := l.map Value.bool
structure SeenI (w : World) (bs : Nat) (s : QS) (m k : Nat) (sb : List Bool) : Prop where
  blk : Blk w bs 4 (bc sb).toArray
  len : sb.length = m
  met : ∀ j, sb.getD j false = true → ∃ i, i < k ∧ (s.l.getD i IV.zero).id = (j : Int)
theorem SeenI.cell {w : World} {bs m k j : Nat} {s : QS} {sb : List Bool} (h : SeenI w bs s m k sb) (hj : j < m) : w.cell? ⟨bs, j, none⟩ = some (.bool (sb.getD j false)) := by
  rw [h.blk.cell]
  have : j < sb.length := by rw [h.len]; exact hj
  simp [bc, this]
theorem SeenI.fr {S : Nat → Prop} {w w' : World} {bs m k : Nat} {s : QS} {sb : List Bool} (h : SeenI w bs s m k sb) (hf : Fr S w w') (hS : ¬ S bs) : SeenI w' bs s m k sb := ⟨h.blk.fr hf hS, h.len, h.met⟩
theorem SeenI.new {s : QS} (h : s.ok) {w : World} {bs m k j : Nat} {sb : List Bool} (hs : SeenI w bs s m k sb) (hk : k < s.l.length) (hid : (s.l.getD k IV.zero).id = (j : Int)) : sb.getD j false = false := by
  cases hb : sb.getD j false
  · rfl
  · obtain ⟨i, hi, he⟩ := hs.met j hb
    have := List.pairwise_iff_getElem.1 h.nodup i k (by omega) hk hi
    rw [← getD_get (show i < s.l.length by omega), ← getD_get hk, he, hid] at this
    exact absurd rfl this
theorem SeenI.set {w : World} {bs m k j : Nat} {s : QS} {sb : List Bool} (h : SeenI w bs s m k sb) (hid : (s.l.getD k IV.zero).id = (j : Int)) : SeenI (w.setCell ⟨bs, j, none⟩ (.bool true)) bs s m (k + 1) (sb.set j true) := by
  refine ⟨?_, by rw [List.length_set]; exact h.len, fun i hi => ?_⟩
  · have := h.blk.set_ j (.bool true)
    simpa [bc, List.map_set] using this
  · by_cases e : i = j
    · exact ⟨k, by omega, by rw [hid, e]⟩
    · obtain ⟨i', h1, h2⟩ := h.met i (by rwa [List.getD_eq_getElem?_getD, List.getElem?_set_ne (Ne.symm e), ← List.getD_eq_getElem?_getD] at hi)
      exact ⟨i', by omega, h2⟩
theorem madeCells_bool (n : Nat) : (madeCells (Value.bool false).cells (n * 1)).toList = bc (List.replicate n false) := by
  apply List.ext_getElem
  · simp [madeCells, bc, Value.cells]
  · intro i h1 h2
    simp [madeCells, bc, Value.cells, Nat.mod_one]

set_option maxRecDepth 100000 in
set_option maxHeartbeats 8000000 in
theorem readyOrder_walk (A : Option Addr) (n c : Nat) (es : List (List Int)) (a0 : Int) (w : World) (h : RowF kOne 8 w A n c es) (ha0 : 0 ≤ a0 ∧ a0 ≤ 4294967295) :
    Calls Try.prog 3 #[.slice A n c, .int .u32 a0] w fun e w' => e = .returned (.bool true) ∧ Fr No w w' := by
  obtain ⟨i0, hi, hz0, hz1, hz2⟩ : ∃ i, Try.prog.info? 4 = some i ∧ i.zero = some (.bool false) ∧ i.size = 1 ∧ i.bytes = 1 := ⟨_, rfl, rfl, rfl, rfl⟩
  obtain ⟨m, hm⟩ : ∃ m, m = min n 100 := ⟨_, rfl⟩
  have HR0 := h.cut (m := m) (by omega)
  have HR := Lib.hid HR0
  have HX := Lib.hid (show ∀ i, i < (ones (es.take m)).length → ((ones (es.take m)).getD i On.zero).Ok from fun i hi => ones_ok HR0 (by rw [ones_len, HR0.2.2.2.1] at hi; exact hi))
  have HL := Lib.hid (show (ones (es.take m)).length = m by rw [ones_len]; exact HR0.2.2.2.1)
  have hmin : min (n : Int) 100 = (m : Int) := by omega
  have hm100 : m ≤ 100 := by omega
  have hmc : m ≤ c := HR0.1
  have hmn : m ≤ n := by omega
  have hc1 := h.1
  have hc2 := h.2.1
  have HA := Lib.hid (show 1 ≤ a0 + 1 ∧ a0 + 1 ≤ 68719476736 by omega)
  have HF := Lib.hid (fun X hX => filled_any A m c 100 (a0 + 1) (es.take m) X hX (by omega) HA.out)
  rw [show ((100 : Nat) : Int) = 100 from rfl, show min m 100 = m by omega] at HF
  have ha1 : 0 ≤ a0 := ha0.1
  have ha2 : a0 ≤ 4294967295 := ha0.2
  obtain ⟨a, hae⟩ : ∃ a, a0 + 1 = a := ⟨_, rfl⟩
  rw [hae] at HA HF
  generalize hxs : ones (es.take m) = xs at *
  have HXS := Lib.hid hxs
  have hok := fillK_ok (size := 100) (ag := a) (by omega) HA.out HX.out m (by rw [HL.out]; exact Nat.le_refl _) (by omega)
  have hsl := fillK_len (size := 100) (ag := a) (xs := xs) m
  have hmem := fun x => (fillK_mem (size := 100) (ag := a) (xs := xs) (x := x) m)
  have hsag := (fillK_ag (size := 100) (ag := a) (xs := xs) m).1
  have hssz := (fillK_ag (size := 100) (ag := a) (xs := xs) m).2.1
  have hno : ∀ y : Int, (∀ i : Nat, i < m → (i : Int) ≠ y) → hasB (fillK 100 a xs m) y = false := fun y hy => by unfold hasB; rw [fillK_new m hy]; rfl
  generalize fillK 100 a xs m = s at *
  have HOK := Lib.hid hok
  have HSL := Lib.hid hsl
  have HMEM := Lib.hid hmem
  have HAG := Lib.hid hsag
  have HNO := Lib.hid hno
  have HRM := Lib.hid (show roomV s = 100 - (m : Int) by unfold roomV; rw [hssz, hsl])
  clear h HR0 hm hok hsl hmem hsag hssz hno ha0 hxs
  go_enter Try.func3, Try.ntmps3
  go_wp2_with fail
  refine (HF.out w HR.out).mono ?_
  rintro e w1 ⟨b, D, rfl, M⟩
  replace M := Lib.hid M
  clear hmin HF
  go_wp2_with fail
  refine (Items_at b D s _ M.out.at_).mono ?_
  rintro e w2 ⟨G, gc, rfl, ho, hgc, hf⟩
  replace M := Lib.hid (M.out.fr0 hf)
  have HO := Lib.hid (Reads.of_own ho)
  have LN := Lib.hid (Len_at b D s w2 M.out.at_)
  have RM := Lib.hid (Room_at b D s w2 M.out.at_)
  rw [HSL.out] at HO hgc LN ⊢
  rw [HRM.out] at RM
  clear ho hf
  go_wp2_with fail
  refine LN.out.mono ?_
  rintro e w3 ⟨rfl, rfl⟩
  go_wp2_with fail
  refine RM.out.mono ?_
  rintro e w4 ⟨rfl, q, rfl⟩
  replace M := Lib.hid (M.out.fr0 ((Fr.refl No _).drewN q))
  replace HO := Lib.hid (HO.out.fr0 ((Fr.refl No _).drewN q))
  clear LN RM
  generalize w2.drewN q = w3 at *
  go_wp2_with (at_make; go_must (refine wpList_make_full _ rfl _ _ 29 rfl w3.heap.size 4 i0 (.bool false) 1 Try.underlying29 hi hz0 hz1 .i64 .i64 _ _ m rfl rfl rfl rfl (by rw [hz2]; omega) (by unfold maxLen; omega) (Nat.le_refl _) ?_); intro w5 hown5 hg5)
  rw [madeCells_bool] at hown5
  have hblk := Blk.of_full hown5
  have hF5 : Fr No w3 w5 := Fr.of_grown hg5 (fun k hk => by cases hk)
  have hM5 := M.out.fr0 hF5
  have hbs := M.out.fr.size
  have SE := Lib.hid (show SeenI w5 w3.heap.size s m 0 (List.replicate m false) from ⟨hblk, by simp, fun j hj => by simp [List.getD_eq_getElem?_getD, List.getElem?_replicate] at hj; split at hj <;> simp at hj⟩)
  have HND := Lib.hid (show ¬ D w3.heap.size from fun hd => by have := M.out.at_.lt hd; omega)
  replace M := Lib.hid hM5
  have HO5 := Lib.hid (HO.out.fr hF5 (Nat.le_refl _) (fun _ _ z => z))
  clear hown5 hg5 hblk hF5 hM5
  obtain ⟨bs, hbs0⟩ : ∃ bs, bs = w3.heap.size := ⟨_, rfl⟩
  rw [← hbs0] at SE HND hbs ⊢
  replace HO := Lib.hid (show Reads w5 bs 4 G m (icells s.l) from by rw [hbs0]; exact HO5.out)
  clear HO5 hbs0
  have HBW := Lib.hid hbs
  clear hbs
  go_wp2
  go_loopw [52] (fun i wr => ∃ (k : Nat) (sb : List Bool), i = .int .i64 k ∧ k ≤ m ∧ Hid (Mine w wr b D s) ∧ Hid (SeenI wr bs s m k sb) ∧ Hid (Reads wr bs 4 G m (icells s.l))) (fun i _ => m - (intOf i).toNat)
  case atStart => exact ⟨0, _, rfl, Nat.zero_le _, M, SE, HO⟩
  case round =>
    clear M SE HO
    obtain ⟨k, sb, rfl, hk, M, SE, HO⟩ := hrel
    by_cases hlt : k < m
    · have hkl : k < s.l.length := by rw [HSL.out]; exact hlt
      obtain ⟨g, off, rfl, hgb, _, d0, d1, d2, d3⟩ := reads_item HO.out hlt
      obtain ⟨j, hj, hxe⟩ := (HMEM.out (s.l.getD k IV.zero)).1 (getD_mem' hkl)
      obtain ⟨xb, xo, p, u, hx, rfl, hxb, hp, hu, h0, h1⟩ := one_at HR.out hj
      rw [HXS.out] at hx
      have hxe2 : s.l.getD k IV.zero = ⟨j, p % 101, u, (j : Int) + 1⟩ := by rw [hxe]; unfold itemK; rw [hx]
      have c0 := (M.out.fr.cell (p := ⟨xb, xo + j * 2, none⟩) hxb (fun x => x)).trans h0
      have c1 := (M.out.fr.cell (p := ⟨xb, xo + j * 2 + 1, none⟩) hxb (fun x => x)).trans h1
      have hxw := Nat.lt_of_lt_of_le hxb M.out.fr.size
      have hid : (s.l.getD k IV.zero).id = (j : Int) := by rw [hxe2]
      have sf := SE.out.cell hj
      rw [SE.out.new HOK.out hkl hid] at sf
      have SET := Lib.hid (fun (X : World) (h : SeenI X bs s m k sb) => h.set hid)
      have HB := Lib.hid (hasB_of (s := s) (getD_mem' hkl))
      rw [hid] at HB
      have HXO := Lib.hid (HOK.out.fit _ (getD_mem' hkl))
      have HAGE := Lib.hid (show 1 ≤ a ∧ a ≤ 68719476736 from HA.out)
      have HKX := Lib.hid (fun X => lkey_any a _ HXO.out HAGE.out X)
      have HLT := Lib.hid (fun (hk0 : 0 < k) => HOK.out.lt (i := k - 1) (j := k) (by omega) hkl)
      rw [HAG.out] at HLT
      rw [hxe2] at d0 d1 d2 d3 HKX HLT
      have hfj : fits (j : Int) := by unfold fits; omega
      have hpp1 : 0 ≤ p := hp.1
      have hpp2 : p ≤ 255 := hp.2
      have huu1 : 0 ≤ u := hu.1
      have huu2 : u ≤ 4294967295 := hu.2
      have hbw : bs < wr.heap.size := SE.out.blk.lt
      obtain ⟨X1, hX1⟩ : ∃ X1, X1 = wr.alloc (.cells #[.int .i64 j, .int .i64 (p % 101), .int .i64 u, .int .i64 ((j : Int) + 1)] 31) := ⟨_, rfl⟩
      have F1 := Lib.hid (show Fr No wr X1 by rw [hX1]; exact (Fr.refl No wr).alloc _)
      have B1 := Lib.hid (show Blk X1 wr.heap.size 31 #[.int .i64 j, .int .i64 (p % 101), .int .i64 u, .int .i64 ((j : Int) + 1)] by rw [hX1]; exact Blk.new _ _ _)
      have HX1 := Lib.hid hX1
      have hX1s : X1.heap.size = wr.heap.size + 1 := by rw [hX1]; simp
      have HX1S := Lib.hid hX1s
      have SK := Lib.hid (fun (X : World) (hX : Fr No X1 X) => (show (X.cell? ⟨wr.heap.size, 0, none⟩ = some (.int .i64 j) ∧ X.cell? ⟨wr.heap.size, 1, none⟩ = some (.int .i64 (p % 101)) ∧ X.cell? ⟨wr.heap.size, 2, none⟩ = some (.int .i64 u) ∧ X.cell? ⟨wr.heap.size, 3, none⟩ = some (.int .i64 ((j : Int) + 1))) ∧
          (X.cell? ⟨bs, j, none⟩ = some (.bool false) ∧ X.cell? ⟨xb, xo + j * 2, none⟩ = some (.int .u8 p) ∧ X.cell? ⟨xb, xo + j * 2 + 1, none⟩ = some (.int .u32 u)) from
        ⟨blk4 (x := ⟨j, p % 101, u, (j : Int) + 1⟩) (B1.out.fr hX (fun z => z)), ((F1.out.then0 hX).cell (p := ⟨bs, j, none⟩) hbw (fun z => z)).trans sf, ((F1.out.then0 hX).cell (p := ⟨xb, xo + j * 2, none⟩) hxw (fun z => z)).trans c0, ((F1.out.then0 hX).cell (p := ⟨xb, xo + j * 2 + 1, none⟩) hxw (fun z => z)).trans c1⟩))
      have FD := Lib.hid (Fr.refl No X1).drew
      have HHAS := Lib.hid (fun X (hX : Fr No X1 X) => Has_at b D s X (M.out.at_.fr0 (F1.out.then0 hX)) j hfj)
      rw [HB.out] at HHAS
      obtain ⟨⟨s1, s2, s3, s4⟩, s5, s6, s7⟩ := SK.out X1 (Fr.refl _ _)
      have hlt2 : (k : Int) < (m : Int) := by omega
      have g1 : decide ((j : Int) < 0) = false := by simp
      have g2 : decide ((m : Int) ≤ (j : Int)) = false := by simp; omega
      have g3 : decide (m ≤ j) = false := by simp; omega
      have hj2 : (j : Int) < (m : Int) := by omega
      have HJ := Lib.hid hj
      have hw1 : IntKind.i64.wrap ((j : Int) + 1) = (j : Int) + 1 := by simp only [IntKind.wrap_i64]; omega
      obtain ⟨r, hr⟩ : ∃ r, p % 101 = r := ⟨_, rfl⟩
      rw [hr] at SK B1 HX1 s2 HLT HKX
      have HRR := Lib.hid hr
      have hr1 : 0 ≤ r := by omega
      have hr2 : r ≤ 100 := by omega
      have hsame := fun W => item_same (j : Int) r u ((j : Int) + 1) W
      have ht1 : p.tmod 101 = r := by rw [Int.tmod_eq_emod_of_nonneg hpp1]; exact hr
      have ht2 : IntKind.u8.wrap r = r := by
        have : IntKind.u8.wrap r = r % 256 := rfl
        omega
      have ht3 : IntKind.i64.wrap r = r := by simp only [IntKind.wrap_i64]; omega
      have ht4 : IntKind.i64.wrap u = u := by simp only [IntKind.wrap_i64]; omega
      have HDX := Lib.hid d0
      have HD1 := Lib.hid d1
      have HD2 := Lib.hid d2
      have HD3 := Lib.hid d3
      clear hX1 hX1s sf c0 c1 h0 h1 hx hxe hxe2 hid hp hu hfj
      go_wp2_with fail
      rw [← HX1.out]
      clear d0 d1 d2 d3 hr
      go_region_held3 (fun X => (X.cell? ⟨wr.heap.size, 0, none⟩ = some (.int .i64 j) ∧ X.cell? ⟨wr.heap.size, 1, none⟩ = some (.int .i64 r) ∧ X.cell? ⟨wr.heap.size, 2, none⟩ = some (.int .i64 u) ∧ X.cell? ⟨wr.heap.size, 3, none⟩ = some (.int .i64 ((j : Int) + 1))) ∧
          (X.cell? ⟨bs, j, none⟩ = some (.bool false) ∧ X.cell? ⟨xb, xo + j * 2, none⟩ = some (.int .u8 p) ∧ X.cell? ⟨xb, xo + j * 2 + 1, none⟩ = some (.int .u32 u)))
        (first | exact SK.out _ (FD.out.then0 FA.out) | exact SK.out _ FD.out | go_keep)
        (first | (go_at_call 15; ((with_reducible refine (HHAS.out _ FD.out).mono ?_); rintro e wA ⟨rfl, hf⟩); have FA := Lib.hid hf; clear hf))
      all_goals
        have MA := Lib.hid (M.out.fr0 (F1.out.then0 (FD.out.then0 FA.out)))
        have FR := Lib.hid (show Fr No wr wA from F1.out.then0 (FD.out.then0 FA.out))
        have SA := Lib.hid (SE.out.fr FR.out (fun z => z))
        have zf := SA.out.blk.frozen j
        have hwA : wr.heap.size + 1 ≤ wA.heap.size := by have := (FD.out.then0 FA.out).size; have := HX1S.out; omega
        have zc := SA.out.cell HJ.out
        have FS := Lib.hid (fr_cell1 bs j (.bool true) wA)
        have SN := Lib.hid (SET.out wA SA.out)
        have HON := Lib.hid ((HO.out.fr FR.out (Nat.le_of_lt hbw) (fun _ _ z => z)).fr FS.out (by omega) (fun q hq e => by omega))
        have MN := Lib.hid (MA.out.beside FS.out (fun q hq => by rw [hq]; exact HBW.out) (fun q hq e => HND.out (by rw [← e]; exact hq)))
        have BN := Lib.hid ((B1.out.fr (FD.out.then0 FA.out) (fun z => z)).fr FS.out (fun e => by omega))
        clear s1 s2 s3 s4 s5 s6 s7 SK M HO SE
        have hbsA : bs < wA.heap.size := by omega
        by_cases hk0 : k = 0
        · have hkb : ((k : Int) == 0) = true := by simp [hk0]
          go_wp2
          go_roundw
          case rel => exact ⟨k + 1, _, by go_num, by omega, MN, SN, HON⟩
          case measure => simp [intOf]; omega
        · have hkb : ((k : Int) == 0) = false := by simp; omega
          have hk1 : k - 1 < m := by omega
          obtain ⟨k1, hkk⟩ : ∃ k1 : Nat, k = k1 + 1 := ⟨k - 1, by omega⟩
          have hkm : (k : Int) - 1 = (k1 : Int) := by omega
          have HKK := Lib.hid hkk
          have hw5 : wrap64 ((k : Int) - 1) = (k1 : Int) := by unfold wrap64; omega
          have hk1n : k1 < m := by omega
          have hk1l : k1 < s.l.length := by rw [HSL.out]; exact hk1n
          obtain ⟨g2, off2, hge, hgb2, _, e0, e1, e2, e3⟩ := reads_item HON.out hk1n
          cases hge
          have HL2 := HLT.out (by omega)
          rw [show k - 1 = k1 by omega] at HL2
          clear hkk
          have HYO := Lib.hid (HOK.out.fit _ (getD_mem' hk1l))
          have HKY := Lib.hid (fun X => lkey_any a _ HYO.out HAGE.out X)
          generalize s.l.getD k1 IV.zero = y at *
          obtain ⟨y1, y2, y3, y4⟩ := y
          obtain ⟨w7, hw7⟩ : ∃ w7, w7 = (wA.setCell ⟨bs, j, none⟩ (.bool true)).alloc (.cells #[.int .i64 y1, .int .i64 y2, .int .i64 y3, .int .i64 y4] 31) := ⟨_, rfl⟩
          have F7 := Lib.hid (show Fr No (wA.setCell ⟨bs, j, none⟩ (.bool true)) w7 by rw [hw7]; exact (Fr.refl No _).alloc _)
          have hszA : (wA.setCell ⟨bs, j, none⟩ (.bool true)).heap.size = wA.heap.size := by simp [World.setCell]
          have B7 := Lib.hid (show Blk w7 wA.heap.size 31 #[.int .i64 y1, .int .i64 y2, .int .i64 y3, .int .i64 y4] by
            rw [hw7]
            have := Blk.new (wA.setCell ⟨bs, j, none⟩ (.bool true)) 31 #[.int .i64 y1, .int .i64 y2, .int .i64 y3, .int .i64 y4]
            rwa [hszA] at this)
          have X7 := Lib.hid (BN.out.fr F7.out (fun z => z))
          have SK := Lib.hid (fun (X : World) (hX : Fr No w7 X) => (show (X.cell? ⟨wr.heap.size, 0, none⟩ = some (.int .i64 j) ∧ X.cell? ⟨wr.heap.size, 1, none⟩ = some (.int .i64 r) ∧ X.cell? ⟨wr.heap.size, 2, none⟩ = some (.int .i64 u) ∧ X.cell? ⟨wr.heap.size, 3, none⟩ = some (.int .i64 ((j : Int) + 1))) ∧
              (X.cell? ⟨wA.heap.size, 0, none⟩ = some (.int .i64 y1) ∧ X.cell? ⟨wA.heap.size, 1, none⟩ = some (.int .i64 y2) ∧ X.cell? ⟨wA.heap.size, 2, none⟩ = some (.int .i64 y3) ∧ X.cell? ⟨wA.heap.size, 3, none⟩ = some (.int .i64 y4)) from
            ⟨blk4 (x := ⟨j, r, u, (j : Int) + 1⟩) (X7.out.fr hX (fun z => z)), blk4 (x := ⟨y1, y2, y3, y4⟩) (B7.out.fr hX (fun z => z))⟩))
          have FD7 := Lib.hid (Fr.refl No w7).drew
          have HW7 := Lib.hid hw7
          have HLL := Lib.hid (show (keyI a ⟨y1, y2, y3, y4⟩ < keyI a ⟨j, r, u, (j : Int) + 1⟩) ∨ (keyI a ⟨y1, y2, y3, y4⟩ = keyI a ⟨j, r, u, (j : Int) + 1⟩ ∧ y4 < (j : Int) + 1) from HL2)
          generalize hka : keyI a ⟨y1, y2, y3, y4⟩ = ka at *
          generalize hkx : keyI a ⟨j, r, u, (j : Int) + 1⟩ = kx at *
          unfold valI at HKX HKY
          dsimp only at HKX HKY e0 e1 e2 e3
          obtain ⟨⟨s1, s2, s3, s4⟩, s5, s6, s7, s8⟩ := SK.out w7 (Fr.refl _ _)
          have MR := Lib.hid (MN.out.fr0 F7.out)
          have SR := Lib.hid (SN.out.fr F7.out (fun z => z))
          have HOR := Lib.hid (HON.out.fr F7.out (by rw [hszA]; exact Nat.le_of_lt hbsA) (fun _ _ z => z))
          clear hw7 hka hkx hszA HL2 hw5
          rcases HLL.out with hl1 | ⟨hl1, hl2⟩
          · have q1 : decide (kx < ka) = false := by simp; omega
            have q2 : (ka == kx) = false := by simp; omega
            clear HLL hl1
            go_wp2_with fail
            rw [← HW7.out]
            clear e0 e1 e2 e3 zc zf s1 s2 s3 s4 s5 s6 s7 s8
            refine wp_region_held_drew (S := fun X => (X.cell? ⟨wr.heap.size, 0, none⟩ = some (.int .i64 j) ∧ X.cell? ⟨wr.heap.size, 1, none⟩ = some (.int .i64 r) ∧ X.cell? ⟨wr.heap.size, 2, none⟩ = some (.int .i64 u) ∧ X.cell? ⟨wr.heap.size, 3, none⟩ = some (.int .i64 ((j : Int) + 1))) ∧ (X.cell? ⟨wA.heap.size, 0, none⟩ = some (.int .i64 y1) ∧ X.cell? ⟨wA.heap.size, 1, none⟩ = some (.int .i64 y2) ∧ X.cell? ⟨wA.heap.size, 2, none⟩ = some (.int .i64 y3) ∧ X.cell? ⟨wA.heap.size, 3, none⟩ = some (.int .i64 y4))) (by kernel_rfl) (SK.out _ FD7.out) (fun hHeld => ?_)
            refine takeH 0 (v := ?va0) rfl (by kernel_rfl) (by kernel_rfl) (by kernel_rfl) (fun _ _ _ h => h) (Or.inl ⟨by rfl, ?ha0⟩) (by assumption) ?ra0
            case ha0 => intro w hSw; (try dsimp only at hSw); go_simp; (try with_reducible rfl)
            try simp only [Act.put, List.setIfInBounds_toArray, List.set_cons_zero, List.set_cons_succ]
            refine takeH 1 (v := ?va1) rfl (by kernel_rfl) (by kernel_rfl) (by kernel_rfl) (fun _ _ _ h => h) (Or.inl ⟨by rfl, ?ha1⟩) (by assumption) ?ra1
            case ha1 => intro w hSw; (try dsimp only at hSw); go_simp; (try with_reducible rfl)
            try simp only [Act.put, List.setIfInBounds_toArray, List.set_cons_zero, List.set_cons_succ]
            refine takeH 3 (v := ?va3) rfl (by kernel_rfl) (by kernel_rfl) (by kernel_rfl) (fun _ _ _ h => h) (Or.inl ⟨by rfl, ?ha3⟩) (by assumption) ?ra3
            case ha3 => intro w hSw; (try dsimp only at hSw); go_simp; (try with_reducible rfl)
            try simp only [Act.put, List.setIfInBounds_toArray, List.set_cons_zero, List.set_cons_succ]
            refine takeH 4 (v := ?va4) rfl (by kernel_rfl) (by kernel_rfl) (by kernel_rfl) (fun _ _ _ h => h) (Or.inl ⟨by rfl, ?ha4⟩) (by assumption) ?ra4
            case ha4 => intro w hSw; (try dsimp only at hSw); go_simp; (try with_reducible rfl)
            try simp only [Act.put, List.setIfInBounds_toArray, List.set_cons_zero, List.set_cons_succ]
            refine callH 2 rfl (by kernel_rfl) (fun K hK => ?_)
            go_simp
            go_at_call 16; refine (HKY.out _).mono ?_; rintro e wB1 ⟨rfl, hf⟩; have FC1 := Lib.hid (FD7.out.then0 hf); have K1 := SK.out _ FC1.out; clear hf
            go_wp2_with fail
            refine hK.out _ _ K1 (fun hHeld => ?_)
            clear hK K
            try simp only [Act.put, List.setIfInBounds_toArray, List.set_cons_zero, List.set_cons_succ]
            refine callH 5 rfl (by kernel_rfl) (fun K hK => ?_)
            go_simp
            go_at_call 16; refine (HKX.out _).mono ?_; rintro e wB2 ⟨rfl, hf⟩; have FC2 := Lib.hid (FC1.out.then0 hf); have K2 := SK.out _ FC2.out; clear hf
            go_wp2_with fail
            refine hK.out _ _ K2 (fun hHeld => ?_)
            clear hK K
            try simp only [Act.put, List.setIfInBounds_toArray, List.set_cons_zero, List.set_cons_succ]
            refine takeH 6 (v := ?va6) rfl (by kernel_rfl) (by kernel_rfl) (by kernel_rfl) (fun _ _ _ h => h) (Or.inl ⟨by rfl, ?ha6⟩) (by assumption) ?ra6
            case ha6 => intro w hSw; (try dsimp only at hSw); go_simp; (try with_reducible rfl)
            try simp only [Act.put, List.setIfInBounds_toArray, List.set_cons_zero, List.set_cons_succ]
            refine takeH 7 (v := ?va7) rfl (by kernel_rfl) (by kernel_rfl) (by kernel_rfl) (fun _ _ _ h => h) (Or.inl ⟨by rfl, ?ha7⟩) (by assumption) ?ra7
            case ha7 => intro w hSw; (try dsimp only at hSw); go_simp; (try with_reducible rfl)
            try simp only [Act.put, List.setIfInBounds_toArray, List.set_cons_zero, List.set_cons_succ]
            refine takeH 8 (v := ?va8) rfl (by kernel_rfl) (by kernel_rfl) (by kernel_rfl) (fun _ _ _ h => h) (Or.inl ⟨by rfl, ?ha8⟩) (by assumption) ?ra8
            case ha8 => intro w hSw; (try dsimp only at hSw); go_simp; (try with_reducible rfl)
            try simp only [Act.put, List.setIfInBounds_toArray, List.set_cons_zero, List.set_cons_succ]
            refine takeH 9 (v := ?va9) rfl (by kernel_rfl) (by kernel_rfl) (by kernel_rfl) (fun _ _ _ h => h) (Or.inl ⟨by rfl, ?ha9⟩) (by assumption) ?ra9
            case ha9 => intro w hSw; (try dsimp only at hSw); go_simp; (try with_reducible rfl)
            try simp only [Act.put, List.setIfInBounds_toArray, List.set_cons_zero, List.set_cons_succ]
            refine takeH 11 (v := ?va11) rfl (by kernel_rfl) (by kernel_rfl) (by kernel_rfl) (fun _ _ _ h => h) (Or.inl ⟨by rfl, ?ha11⟩) (by assumption) ?ra11
            case ha11 => intro w hSw; (try dsimp only at hSw); go_simp; (try with_reducible rfl)
            try simp only [Act.put, List.setIfInBounds_toArray, List.set_cons_zero, List.set_cons_succ]
            refine takeH 12 (v := ?va12) rfl (by kernel_rfl) (by kernel_rfl) (by kernel_rfl) (fun _ _ _ h => h) (Or.inl ⟨by rfl, ?ha12⟩) (by assumption) ?ra12
            case ha12 => intro w hSw; (try dsimp only at hSw); go_simp; (try with_reducible rfl)
            try simp only [Act.put, List.setIfInBounds_toArray, List.set_cons_zero, List.set_cons_succ]
            refine callH 10 rfl (by kernel_rfl) (fun K hK => ?_)
            go_simp
            go_at_call 16; refine (HKY.out _).mono ?_; rintro e wB3 ⟨rfl, hf⟩; have FC3 := Lib.hid (FC2.out.then0 hf); have K3 := SK.out _ FC3.out; clear hf
            go_wp2_with fail
            refine hK.out _ _ K3 (fun hHeld => ?_)
            clear hK K
            try simp only [Act.put, List.setIfInBounds_toArray, List.set_cons_zero, List.set_cons_succ]
            refine callH 13 rfl (by kernel_rfl) (fun K hK => ?_)
            go_simp
            go_at_call 16; refine (HKX.out _).mono ?_; rintro e wB4 ⟨rfl, hf⟩; have FC4 := Lib.hid (FC3.out.then0 hf); have K4 := SK.out _ FC4.out; clear hf
            go_wp2_with fail
            refine hK.out _ _ K4 (fun hHeld => ?_)
            clear hK K
            try simp only [Act.put, List.setIfInBounds_toArray, List.set_cons_zero, List.set_cons_succ]
            refine takeH 14 (v := ?va14) rfl (by kernel_rfl) (by kernel_rfl) (by kernel_rfl) (fun _ _ _ h => h) (Or.inl ⟨by rfl, ?ha14⟩) (by assumption) ?ra14
            case ha14 => intro w hSw; (try dsimp only at hSw); go_simp; (try with_reducible rfl)
            try simp only [Act.put, List.setIfInBounds_toArray, List.set_cons_zero, List.set_cons_succ]
            refine takeH 15 (v := ?va15) rfl (by kernel_rfl) (by kernel_rfl) (by kernel_rfl) (fun _ _ _ h => h) (Or.inl ⟨by rfl, ?ha15⟩) (by assumption) ?ra15
            case ha15 => intro w hSw; (try dsimp only at hSw); go_simp; (try with_reducible rfl)
            try simp only [Act.put, List.setIfInBounds_toArray, List.set_cons_zero, List.set_cons_succ]
            refine takeH 16 (v := undef) rfl (by kernel_rfl) (by kernel_rfl) (by kernel_rfl) (fun _ _ _ h => h) (Or.inr ⟨by rfl, rfl⟩) (by assumption) ?_
            try simp only [Act.put, List.setIfInBounds_toArray, List.set_cons_zero, List.set_cons_succ]
            refine takeH 17 (v := undef) rfl (by kernel_rfl) (by kernel_rfl) (by kernel_rfl) (fun _ _ _ h => h) (Or.inr ⟨by rfl, rfl⟩) (by assumption) ?_
            try simp only [Act.put, List.setIfInBounds_toArray, List.set_cons_zero, List.set_cons_succ]
            refine takeH 18 (v := undef) rfl (by kernel_rfl) (by kernel_rfl) (by kernel_rfl) (fun _ _ _ h => h) (Or.inr ⟨by rfl, rfl⟩) (by assumption) ?_
            try simp only [Act.put, List.setIfInBounds_toArray, List.set_cons_zero, List.set_cons_succ]
            refine takeH 19 (v := undef) rfl (by kernel_rfl) (by kernel_rfl) (by kernel_rfl) (fun _ _ _ h => h) (Or.inr ⟨by rfl, rfl⟩) (by assumption) ?_
            try simp only [Act.put, List.setIfInBounds_toArray, List.set_cons_zero, List.set_cons_succ]
            refine takeH 20 (v := undef) rfl (by kernel_rfl) (by kernel_rfl) (by kernel_rfl) (fun _ _ _ h => h) (Or.inr ⟨by rfl, rfl⟩) (by assumption) ?_
            try simp only [Act.put, List.setIfInBounds_toArray, List.set_cons_zero, List.set_cons_succ]
            refine takeH 21 (v := ?va21) rfl (by kernel_rfl) (by kernel_rfl) (by kernel_rfl) (fun _ _ _ h => h) (Or.inl ⟨by rfl, ?ha21⟩) (by assumption) ?ra21
            case ha21 => intro w hSw; (try dsimp only at hSw); go_simp; (try with_reducible rfl)
            try simp only [Act.put, List.setIfInBounds_toArray, List.set_cons_zero, List.set_cons_succ]
            refine takeH 22 (v := ?va22) rfl (by kernel_rfl) (by kernel_rfl) (by kernel_rfl) (fun _ _ _ h => h) (Or.inl ⟨by rfl, ?ha22⟩) (by assumption) ?ra22
            case ha22 => intro w hSw; (try dsimp only at hSw); go_simp; (try with_reducible rfl)
            try simp only [Act.put, List.setIfInBounds_toArray, List.set_cons_zero, List.set_cons_succ]
            refine wpAnyH_done (by kernel_rfl) ?_ _
            clear K1 K2 K3 K4
            go_wp2
            go_roundw
            case rel => exact ⟨k + 1, _, by go_num, by omega, Lib.hid (MR.out.fr0 FC4.out), Lib.hid (SR.out.fr FC4.out (fun z => z)), Lib.hid (HOR.out.fr FC4.out (Nat.le_of_lt SR.out.blk.lt) (fun _ _ z => z))⟩
            case measure => simp [intOf]; omega
          · have q1 : decide (kx < ka) = false := by simp; omega
            have q2 : (ka == kx) = true := by simp; omega
            have q3 : decide ((j : Int) + 1 ≤ y4) = false := by simp; omega
            clear HLL hl1 hl2
            go_wp2_with fail
            rw [← HW7.out]
            clear e0 e1 e2 e3 zc zf
            go_region_held3 (fun X => (X.cell? ⟨wr.heap.size, 0, none⟩ = some (.int .i64 j) ∧ X.cell? ⟨wr.heap.size, 1, none⟩ = some (.int .i64 r) ∧ X.cell? ⟨wr.heap.size, 2, none⟩ = some (.int .i64 u) ∧ X.cell? ⟨wr.heap.size, 3, none⟩ = some (.int .i64 ((j : Int) + 1))) ∧
              (X.cell? ⟨wA.heap.size, 0, none⟩ = some (.int .i64 y1) ∧ X.cell? ⟨wA.heap.size, 1, none⟩ = some (.int .i64 y2) ∧ X.cell? ⟨wA.heap.size, 2, none⟩ = some (.int .i64 y3) ∧ X.cell? ⟨wA.heap.size, 3, none⟩ = some (.int .i64 y4)))
              (first | exact SK.out _ FC.out | exact SK.out _ FD7.out | go_keep)
              (first | (go_at_call 16; first
                | ((with_reducible refine (HKX.out _).mono ?_); rintro e wB ⟨rfl, hf⟩; first | replace FC := Lib.hid (FC.out.then0 hf) | have FC := Lib.hid (FD7.out.then0 hf); clear hf)
                | ((with_reducible refine (HKY.out _).mono ?_); rintro e wB ⟨rfl, hf⟩; first | replace FC := Lib.hid (FC.out.then0 hf) | have FC := Lib.hid (FD7.out.then0 hf); clear hf)))
            all_goals
              clear s1 s2 s3 s4 s5 s6 s7 s8
              go_wp2
              go_roundw
              case rel => exact ⟨k + 1, _, by go_num, by omega, Lib.hid (MR.out.fr0 FC.out), Lib.hid (SR.out.fr FC.out (fun z => z)), Lib.hid (HOR.out.fr FC.out (Nat.le_of_lt SR.out.blk.lt) (fun _ _ z => z))⟩
              case measure => simp [intOf]; omega
    · have hkm : k = m := by omega
      have h1 := HNO.out m (fun i hi => by omega)
      have h2 := HNO.out (-1) (fun i hi => by omega)
      have H1 := Lib.hid (fun X hX => Has_at b D s X hX (m : Int) (fits_small (by omega)))
      have H2 := Lib.hid (fun X hX => Has_at b D s X hX (-1) (fits_small (by omega)))
      rw [h1] at H1
      rw [h2] at H2
      clear h1 h2 SE HO hkm
      go_wp2_with fail
      refine (H1.out _ M.out.at_).mono ?_
      rintro e w6 ⟨rfl, hf⟩
      replace M := Lib.hid (M.out.fr0 hf)
      clear hf
      go_wp2_with fail
      refine (H2.out _ M.out.at_).mono ?_
      rintro e w7 ⟨rfl, hf⟩
      replace M := Lib.hid (M.out.fr0 hf)
      clear hf
      go_wp2_with fail
      refine (works_any _).mono ?_
      rintro e w8 ⟨rfl, hf⟩
      replace M := Lib.hid (M.out.fr0 hf)
      clear hf
      go_wp2
      go_ret
      exact ⟨rfl, M.out.fr⟩
end Go.Proofs.Ytcjcoigjedcieaa
