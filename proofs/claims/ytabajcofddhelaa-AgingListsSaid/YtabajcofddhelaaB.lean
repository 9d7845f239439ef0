/- The contracts of package aging: wrong, check. -/
import Derived.Test.YtabajcofddhelaaA
import Derived.RangeFuncNested
import Derived.RangeFuncBound
import Derived.RangeFuncCalls
import Derived.RangeFuncLeaves
import Derived.RangeFuncFrom
import Derived.Shelf.Abstract
import Derived.Shelf.RegionOpen
import Derived.OwnWalkIn
import Derived.TacticsInMore
import Derived.LoopNIn
import Derived.LoopIn
namespace Go.Proofs.Ytabajcofddhelaa
open Go.RowKit Go.Shelf Go.Wk

attribute [local go_sem] Oper.semAt_some

theorem oneE_cases (x : IV) : (x.pr < 0 ∧ oneE x = 2) ∨ (¬ x.pr < 0 ∧ 100 < x.pr ∧ oneE x = 2) ∨ (¬ x.pr < 0 ∧ ¬ 100 < x.pr ∧ x.since < 0 ∧ oneE x = 14) ∨ (¬ x.pr < 0 ∧ ¬ 100 < x.pr ∧ ¬ x.since < 0 ∧ 253402300799 < x.since ∧ oneE x = 14) ∨ (¬ x.pr < 0 ∧ ¬ 100 < x.pr ∧ ¬ x.since < 0 ∧ ¬ 253402300799 < x.since ∧ oneE x = 0) := by
  unfold oneE
  by_cases h1 : x.pr < 0
  · left; exact ⟨h1, by rw [if_pos (.inl h1)]⟩
  · by_cases h2 : 100 < x.pr
    · right; left; exact ⟨h1, h2, by rw [if_pos (.inr h2)]⟩
    · by_cases h3 : x.since < 0
      · right; right; left; exact ⟨h1, h2, h3, by rw [if_neg (by omega), if_pos (.inl h3)]⟩
      · by_cases h4 : 253402300799 < x.since
        · right; right; right; left; exact ⟨h1, h2, h3, h4, by rw [if_neg (by omega), if_pos (.inr h4)]⟩
        · right; right; right; right; exact ⟨h1, h2, h3, h4, by rw [if_neg (by omega), if_neg (by omega)]⟩

set_option maxRecDepth 100000 in
set_option maxHeartbeats 2000000 in
theorem wrong_stops (n : Nat) (hn : 2 ≤ n) (b n0 B : Nat) (A : Option Addr) (m c : Nat) (l : List IV) (w : World) (hb : Blk w b 40 #[.slice A m c]) (hR : Reads w B 4 A m (icells l)) (hB : B ≤ n0) (hn0 : n0 ≤ w.heap.size) (hm : m ≤ 9223372036854775807) :
    SeqStopsK Fence.wide n Try.prog 51 #[.pointer (some ⟨b, 0, none⟩)] (fun x : Int => #[Value.int .i64 x]) (Below n0) (fun xs => xs = errs l) (fun pre => pre ≠ [] ∧ pre <+: errs l) (errs l).length w := by
  intro l' J Jx W hW hJ hJx hY h0
  have HJ := Lib.hid hJ
  have HY := Lib.hid hY
  have hbW := hb.fr (Fr.of_below (S := No) hW) (fun x => x)
  have hcell := hbW.cell 0
  have HRW := Lib.hid (hR.fr (Fr.of_below (S := No) hW) (by omega) (fun _ _ x => x))
  have HL := Lib.hid (reads_ilen hR)
  have HWS := Lib.hid hW.size
  have hd1 : 1 ≤ n := by omega
  clear hJ hJx hY hb hR hbW
  simp only [List.getElem?_toArray, List.getElem?_cons_zero] at hcell
  refine callsIn_of_wp Try.func51 rfl trivial ?_ rfl
  simp only [Try.ntmps51, List.size_toArray, List.length_cons, List.length_nil, Nat.reduceAdd, Nat.reduceSub, Array.replicate_succ, Array.replicate_zero, List.push_toArray, List.append_toArray, List.nil_append, List.cons_append]
  gi_wp2
  gi_loopw [8] (fun i wr => ∃ k : Nat, k ≤ m ∧ i = .int .i64 k ∧ J (errs (l.take k)) wr ∧ Below n0 W wr) (fun i _ => m - (intOf i).toNat)
  case atStart => exact ⟨0, Nat.zero_le _, rfl, h0, Below.refl _ _⟩
  case round =>
    clear h0 hcell
    obtain ⟨k, hk, rfl, hj, hbl⟩ := hrel
    have HBL := Lib.hid hbl
    have HJJ := Lib.hid hj
    clear hj hbl
    by_cases hlt : k < m
    · obtain ⟨g, off, rfl, hg, _, c0, c1, c2, c3⟩ := reads_item HRW.out hlt
      have d0 := (HBL.out.cell (p := ⟨g, off + k * 4, none⟩) (Nat.lt_of_lt_of_le hg hB)).trans c0
      have d1 := (HBL.out.cell (p := ⟨g, off + k * 4 + 1, none⟩) (Nat.lt_of_lt_of_le hg hB)).trans c1
      have d2 := (HBL.out.cell (p := ⟨g, off + k * 4 + 2, none⟩) (Nat.lt_of_lt_of_le hg hB)).trans c2
      have d3 := (HBL.out.cell (p := ⟨g, off + k * 4 + 3, none⟩) (Nat.lt_of_lt_of_le hg hB)).trans c3
      have HS := Lib.hid (errs_snoc l k (by rw [HL.out]; exact hlt))
      have HPF := Lib.hid (errs_take l (k + 1))
      have hlt2 : (k : Int) < (m : Int) := by omega
      clear c0 c1 c2 c3
      generalize l.getD k IV.zero = x at *
      obtain ⟨id, pr, since, seq⟩ := x
      dsimp only at d0 d1 d2 d3
      have HJX := Lib.hid (HJ.out _ _ (wr.alloc (.cells #[.int .i64 id, .int .i64 pr, .int .i64 since, .int .i64 seq] 23)) none HJJ.out (World.grownBy_alloc wr _ none) (fun r e => by cases e))
      have HBX := Lib.hid (HBL.out.alloc (Nat.le_trans hn0 (Nat.le_trans HWS.out HBL.out.size) |> fun h => h) (.cells #[.int .i64 id, .int .i64 pr, .int .i64 since, .int .i64 seq] 23))
      obtain ⟨E, hE⟩ : ∃ E, E = oneE ⟨id, pr, since, seq⟩ := ⟨_, rfl⟩
      have hcs := oneE_cases ⟨id, pr, since, seq⟩
      rw [← hE] at HS hcs
      dsimp only at hcs
      clear hE
      rcases hcs with ⟨h1, rfl⟩ | ⟨h1, h2, rfl⟩ | ⟨h1, h2, h3, rfl⟩ | ⟨h1, h2, h3, h4, rfl⟩ | ⟨h1, h2, h3, h4, rfl⟩
      case inr.inr.inr.inr =>
        rw [if_pos rfl] at HS
        gi_wp2
        refine ⟨fun _ h => (by cases h), ?_⟩
        gi_wp2
        go_roundw
        case rel => exact ⟨k + 1, by omega, by go_num, by rw [HS.out]; exact HJX.out, HBX.out⟩
        case measure => simp [intOf]; omega
      case inl =>
        rw [if_neg (by omega)] at HS
        have HLE := Lib.hid (show (errs (l.take k)).length < (errs l).length from by have h5 := HPF.out.length_le; rw [HS.out, List.length_append, List.length_singleton] at h5; omega)
        obtain ⟨fn, tmps, assign, body, hy, hRR⟩ := HY.out _ 2 _ HJX.out HLE.out
        gi_wp2
        refine hRR.mono ?_
        rintro e W3 (⟨rfl, hJ3, hk3⟩ | ⟨rfl, hJx3⟩)
        · have HJ3 := Lib.hid hJ3
          have HK3 := Lib.hid (HBX.out.trans hk3)
          clear hy hRR hJ3 hk3
          gi_wp2
          go_roundw
          case rel => exact ⟨k + 1, by omega, by go_num, by rw [HS.out]; exact HJ3.out, HK3.out⟩
          case measure => simp [intOf]; omega
        · have HJ3 := Lib.hid hJx3
          clear hy hRR hJx3
          gi_wp2
          refine bodyPost_ret (results_none rfl _ _ _) rfl ?_
          exact ⟨⟨_, rfl⟩, .inr ⟨_, ⟨by simp, by rw [← HS.out]; exact HPF.out⟩, HJ3.out⟩⟩
      case inr.inl =>
        rw [if_neg (by omega)] at HS
        have HLE := Lib.hid (show (errs (l.take k)).length < (errs l).length from by have h5 := HPF.out.length_le; rw [HS.out, List.length_append, List.length_singleton] at h5; omega)
        obtain ⟨fn, tmps, assign, body, hy, hRR⟩ := HY.out _ 2 _ HJX.out HLE.out
        gi_wp2
        refine hRR.mono ?_
        rintro e W3 (⟨rfl, hJ3, hk3⟩ | ⟨rfl, hJx3⟩)
        · have HJ3 := Lib.hid hJ3
          have HK3 := Lib.hid (HBX.out.trans hk3)
          clear hy hRR hJ3 hk3
          gi_wp2
          go_roundw
          case rel => exact ⟨k + 1, by omega, by go_num, by rw [HS.out]; exact HJ3.out, HK3.out⟩
          case measure => simp [intOf]; omega
        · have HJ3 := Lib.hid hJx3
          clear hy hRR hJx3
          gi_wp2
          refine bodyPost_ret (results_none rfl _ _ _) rfl ?_
          exact ⟨⟨_, rfl⟩, .inr ⟨_, ⟨by simp, by rw [← HS.out]; exact HPF.out⟩, HJ3.out⟩⟩
      case inr.inr.inl =>
        rw [if_neg (by omega)] at HS
        have HLE := Lib.hid (show (errs (l.take k)).length < (errs l).length from by have h5 := HPF.out.length_le; rw [HS.out, List.length_append, List.length_singleton] at h5; omega)
        obtain ⟨fn, tmps, assign, body, hy, hRR⟩ := HY.out _ 14 _ HJX.out HLE.out
        gi_wp2
        refine hRR.mono ?_
        rintro e W3 (⟨rfl, hJ3, hk3⟩ | ⟨rfl, hJx3⟩)
        · have HJ3 := Lib.hid hJ3
          have HK3 := Lib.hid (HBX.out.trans hk3)
          clear hy hRR hJ3 hk3
          gi_wp2
          go_roundw
          case rel => exact ⟨k + 1, by omega, by go_num, by rw [HS.out]; exact HJ3.out, HK3.out⟩
          case measure => simp [intOf]; omega
        · have HJ3 := Lib.hid hJx3
          clear hy hRR hJx3
          gi_wp2
          refine bodyPost_ret (results_none rfl _ _ _) rfl ?_
          exact ⟨⟨_, rfl⟩, .inr ⟨_, ⟨by simp, by rw [← HS.out]; exact HPF.out⟩, HJ3.out⟩⟩
      case inr.inr.inr.inl =>
        rw [if_neg (by omega)] at HS
        have HLE := Lib.hid (show (errs (l.take k)).length < (errs l).length from by have h5 := HPF.out.length_le; rw [HS.out, List.length_append, List.length_singleton] at h5; omega)
        obtain ⟨fn, tmps, assign, body, hy, hRR⟩ := HY.out _ 14 _ HJX.out HLE.out
        gi_wp2
        refine hRR.mono ?_
        rintro e W3 (⟨rfl, hJ3, hk3⟩ | ⟨rfl, hJx3⟩)
        · have HJ3 := Lib.hid hJ3
          have HK3 := Lib.hid (HBX.out.trans hk3)
          clear hy hRR hJ3 hk3
          gi_wp2
          go_roundw
          case rel => exact ⟨k + 1, by omega, by go_num, by rw [HS.out]; exact HJ3.out, HK3.out⟩
          case measure => simp [intOf]; omega
        · have HJ3 := Lib.hid hJx3
          clear hy hRR hJx3
          gi_wp2
          refine bodyPost_ret (results_none rfl _ _ _) rfl ?_
          exact ⟨⟨_, rfl⟩, .inr ⟨_, ⟨by simp, by rw [← HS.out]; exact HPF.out⟩, HJ3.out⟩⟩
    · have HE := Lib.hid (show l.take k = l from List.take_of_length_le (by rw [HL.out]; omega))
      gi_wp2
      go_end0
      exact ⟨⟨_, rfl⟩, .inl ⟨_, rfl, by have := HJJ.out; rwa [HE.out] at this⟩⟩

theorem wrong_any (A : Option Addr) (m c : Nat) (w : World) : Calls Try.prog 43 #[.slice A m c] w fun e w' => e = .returned (.func (.func 51) #[] #[.pointer (some ⟨w.heap.size, 0, none⟩)]) ∧ w' = w.alloc (.cells #[.slice A m c] 40) := by
  go_enter Try.func43, Try.ntmps43
  go_wp2
  go_ret
  exact ⟨rfl, rfl⟩

set_option maxRecDepth 100000 in
set_option maxHeartbeats 2000000 in
theorem check_good (A : Option Addr) (m c : Nat) (l : List IV) (y : Int) (w : World) (h : Reads w w.heap.size 4 A m (icells l)) (hm : m ≤ 9223372036854775807) (h1 : 1 ≤ y) (h2 : y ≤ 68719476736) :
    Calls Try.prog 32 #[.int .i64 y, .slice A m c] w fun e w' => e = .returned (.int .i64 (firstE l)) ∧ Fr No w w' := by
  have h3 : ¬ y < 1 := by omega
  have h4 : ¬ 68719476736 < y := by omega
  refine (callsIn_wide (n := 4)).1 ?_
  refine callsIn_of_wp_marks Try.func32 rfl trivial ?_ rfl
  simp only [Try.ntmps32, List.size_toArray, List.length_cons, List.length_nil, Nat.reduceAdd, Nat.reduceSub, Array.replicate_succ, Array.replicate_zero, List.push_toArray, List.append_toArray, List.nil_append, List.cons_append]
  gi_wp2_with (refine ⟨trivial, ?_⟩; gi_at_call 43; refine (callsIn_wide.2 (wrong_any _ _ _ _)).mono ?_; rintro e w' ⟨rfl, rfl⟩)
  have c0 := Blk.new w 24 #[.int .i64 0]
  have F1 : Fr No w (w.alloc (.cells #[.int .i64 0] 24)) := (Fr.refl No w).alloc _
  obtain ⟨w1, hw1⟩ : ∃ w1, w1 = w.alloc (.cells #[.int .i64 0] 24) := ⟨_, rfl⟩
  rw [← hw1] at c0 F1 ⊢
  have hs1 : w1.heap.size = w.heap.size + 1 := by rw [hw1]; simp
  clear hw1
  have c1 := Blk.new w1 40 #[.slice A m c]
  rw [hs1] at c1
  have F2 : Fr No w (w1.alloc (.cells #[.slice A m c] 40)) := F1.alloc _
  have hc0 := c0.alloc (.cells #[.slice A m c] 40)
  obtain ⟨w2, hw2⟩ : ∃ w2, w2 = w1.alloc (.cells #[.slice A m c] 40) := ⟨_, rfl⟩
  have hs2 : w2.heap.size = w.heap.size + 1 + 1 := by rw [hw2]; simp [hs1]
  rw [← hw2] at c1 F2 hc0 ⊢
  clear hw2
  have hcell := hc0.cell 0
  have hfrz := hc0.frozen 0
  simp only [List.getElem?_toArray, List.getElem?_cons_zero] at hcell
  refine wpIn_rangeFunc_ownF (n := 4) rfl (by omega) (gf := 51) (lb := #[.pointer (some ⟨w.heap.size + 1, 0, none⟩)]) rfl trivial (enters_of Try.func51 (by kernel_rfl) rfl)
    (wrong_stops 3 (by omega) (w.heap.size + 1) w.heap.size w.heap.size A m c l w2 c1 (h.fr F2 (Nat.le_refl _) (fun _ _ x => x)) (Nat.le_refl _) (by omega) hm) belowK_t (belowK_b (by omega)) (Below.refl _ _) (fun _ => rfl)
    (fun pre W => (pre = [] ∧ W.cell? ⟨w.heap.size, 0, none⟩ = some (.int .i64 0) ∧ W.frozen? ⟨w.heap.size, 0, none⟩ = false) ∧ Below w.heap.size w W)
    (fun c pre W => (c = .ret ∧ (∃ x rest, pre = x :: rest ∧ W.cell? ⟨w.heap.size, 0, none⟩ = some (.int .i64 x))) ∧ Below w.heap.size w W)
    (OwnFrom.and (Own.from (fun s A B row hs hg hr => ⟨hs.1, cell_kept hs.2.1 hg hr, (frozen_kept hs.2.1 hg hr).trans hs.2.2⟩) _) (ownFrom_below (Nat.le_refl _) (by omega)))
    (fun c => OwnFrom.and (Own.from (fun s A B row hs hg hr => ⟨hs.1, by obtain ⟨x, rest, e, hc⟩ := hs.2; exact ⟨x, rest, e, cell_kept hc hg hr⟩⟩) _) (ownFrom_below (Nat.le_refl _) (by omega)))
    ⟨⟨rfl, hcell, hfrz⟩, F2.below⟩
    (fun x => { tmps := #[.int .i64 y, .slice A m c, undef, undef, .pointer (some ⟨w.heap.size, 0, none⟩), .int .i64 x, .int .i64 y, .bool false, .bool false, .int .i64 y, .bool false, .bool false, .slice A m c, .func (.func 51) #[] #[.pointer (some ⟨w.heap.size + 1, 0, none⟩)], .int .i64 x, undef], defers := [] }) ?assign ?body ?done ?stop
  case assign =>
    intro l x W K hK
    gi_wp2
    exact hK
  case body =>
    rintro l pre x W ⟨⟨rfl, hcr, hfr⟩, hB⟩ _
    gi_wp2
    exact ⟨KeepsOthers.setCell _ _ _, ⟨rfl, x, [], rfl, World.cell?_setCell_same' _ _ _ (by rw [hcr]; rfl)⟩, hB.setCell (p := ⟨w.heap.size, 0, none⟩) (Nat.le_refl _) _⟩
  case done =>
    rintro D ys W hD rfl ⟨⟨hne, hcr, hfr⟩, hB⟩ hK
    gi_wp2
    have hK' := (KeepsOthers.setCell W ⟨w.heap.size, 0, none⟩ (.int .i64 0)).same D _ hK rfl
    refine ⟨by simp, .inl ⟨_, _, rfl, run_takeDeferred hK', ?_⟩⟩
    have hc5 := cell_kept (World.cell?_setCell_same' W ⟨w.heap.size, 0, none⟩ (.int .i64 0) (by rw [hcr]; rfl)) (grownBy_putObj' _ D (.deferred none)) (fun r e => by cases e; exact ⟨_, hK', rfl⟩)
    refine ⟨.int .i64 0, ?_, by rw [firstE_errs, hne]; rfl, Fr.of_below ((hB.setCell (p := ⟨w.heap.size, 0, none⟩) (Nat.le_refl _) _).trans (belowK_b (w := w) (Nat.le_refl _) _ D _ _ (by omega) hK' rfl rfl))⟩
    simp [results, Try.f32, go_sem, hc5]
  case stop =>
    rintro D c pre W hD ⟨_, hpre⟩ ⟨⟨rfl, x, rest, rfl, hcr⟩, hB⟩ hK
    gi_wp2
    refine ⟨by simp, .inl ⟨_, _, rfl, run_takeDeferred hK, ?_⟩⟩
    have hc5 := cell_kept hcr (grownBy_putObj' _ D (.deferred none)) (fun r e => by cases e; exact ⟨_, hK, rfl⟩)
    refine ⟨.int .i64 x, ?_, by rw [firstE_errs]; obtain ⟨t, ht⟩ := hpre; rw [← ht]; rfl, Fr.of_below (hB.trans (belowK_b (w := w) (Nat.le_refl _) W D _ _ (by omega) hK rfl rfl))⟩
    simp [results, Try.f32, go_sem, hc5]

theorem check_any (A : Option Addr) (m c : Nat) (l : List IV) (y : Int) (w : World) (h : Reads w w.heap.size 4 A m (icells l)) (hm : m ≤ 9223372036854775807) :
    Calls Try.prog 32 #[.int .i64 y, .slice A m c] w fun e w' => e = .returned (.int .i64 (chkE y l)) ∧ Fr No w w' := by
  by_cases hy : y < 1 ∨ 68719476736 < y
  · have HE := Lib.hid (show chkE y l = 2 by unfold chkE yearsE; rw [if_pos hy]; rfl)
    clear h
    rcases (show y < 1 ∨ (¬ y < 1 ∧ 68719476736 < y) by omega) with h1 | ⟨h1, h2⟩
    all_goals
      clear hy
      go_enter Try.func32, Try.ntmps32
      go_wp2
      refine bodyPost_ret (v := .int .i64 2) (by simp [results, Try.f32, go_sem]) rfl ⟨by rw [HE.out], (Fr.refl No w).alloc _⟩
  · have HE : chkE y l = firstE l := by unfold chkE yearsE; rw [if_neg hy]; rfl
    rw [HE]
    exact check_good A m c l y w h hm (by omega) (by omega)
end Go.Proofs.Ytabajcofddhelaa
