/- ReadyWaits: the walk. -/
import Derived.Test.YtcjcoigjedcieaaF
namespace Go.Proofs.Ytcjcoigjedcieaa
open Go.RowKit Go.Wk

/-- A queue whose head is the waiting one. -/
structure WaitI (s : QS) (x : IV) (a : Int) (k : Nat) : Prop where
  ok : s.ok
  size : s.size = 101
  ag : s.ag = a
  added : s.added = k + 1
  len : s.l.length = k + 1
  head : s.l.getD 0 IV.zero = x
  ids : ∀ e ∈ s.l, e.id = -7 ∨ (0 ≤ e.id ∧ e.id < k)
theorem insQ_head {g : Int} {l : List IV} {e : IV} (hl : 0 < l.length) (h : ltM (mkI g (l.getD 0 IV.zero)) (mkI g e)) : (insQ g l e).getD 0 IV.zero = l.getD 0 IV.zero := by
  cases l with
  | nil => simp at hl
  | cons b l =>
    rw [List.getD_cons_zero] at h
    unfold insQ idx
    rw [List.takeWhile_cons_of_pos (by simpa using h), List.length_cons, insI_eq, List.take_succ_cons]
    rfl
theorem WaitI.push {s : QS} {x : IV} {a : Int} {k : Nat} (h : WaitI s x a k) (hk : k < 100) (hx : x.pr ≤ 100 ∧ x.seq = 1) {p u : Int} (hp : 0 ≤ p ∧ p ≤ 100) (hu : 0 ≤ u ∧ u ≤ 253402300799) (hf : x.since + (100 - x.pr) * a ≤ u) :
    pushE s k p u = 0 ∧ WaitI (pushS s k p u) x a (k + 1) := by
  have hb : byId s.l k = none := byId_none fun e he => by have := h.ids e he; omega
  have hB : hasB s k = false := by unfold hasB; rw [hb]; rfl
  have hE : pushE s k p u = 0 := by
    unfold pushE
    rw [if_neg (by omega), if_neg (by omega), hB, if_neg (by simp), if_neg (by rw [h.size, h.len]; omega)]
  refine ⟨hE, ?_⟩
  unfold pushS
  rw [if_pos hE]
  have hag := h.ok.ag1
  rw [h.ag] at hag
  have h1 : p * a ≤ 100 * a := Int.mul_le_mul_of_nonneg_right hp.2 (by omega)
  have h2 : (100 - x.pr) * a = 100 * a - x.pr * a := Int.sub_mul _ _ _
  refine ⟨add_ok h.ok (by unfold fits; omega) hp hu hb (by rw [h.size, h.len]; omega) (by rw [h.added]; omega), h.size, h.ag, by show s.added + 1 = _; rw [h.added]; omega, by show (insQ _ _ _).length = _; rw [insQ_len, h.len], ?_, fun e he => ?_⟩
  · show (insQ _ _ _).getD 0 IV.zero = x
    rw [insQ_head (by rw [h.len]; omega), h.head]
    rw [h.head, h.ag, h.added]
    unfold ltM mkI keyI
    dsimp only
    generalize x.pr * a = xa at *
    generalize p * a = pa at *
    omega
  · rcases insQ_mem.1 he with rfl | he
    · right; dsimp only; omega
    · have := h.ids e he; omega
theorem wait_start {a p u : Int} (ha : 1 ≤ a ∧ a ≤ 68719476736) (hp : 0 ≤ p ∧ p ≤ 100) (hu : 0 ≤ u ∧ u ≤ 253402300799) : pushE (QS.new 101 a) (-7) p u = 0 ∧ WaitI (pushS (QS.new 101 a) (-7) p u) ⟨-7, p, u, 1⟩ a 0 := by
  have hB : hasB (QS.new 101 a) (-7) = false := rfl
  have hE : pushE (QS.new 101 a) (-7) p u = 0 := by
    unfold pushE
    rw [if_neg (by omega), if_neg (by omega), hB, if_neg (by simp), if_neg (by show ¬ (101 : Int) ≤ ((0 : Nat) : Int); omega)]
  refine ⟨hE, ?_⟩
  unfold pushS
  rw [if_pos hE]
  exact ⟨add_ok (QS.ok_new (by omega) ha) (by unfold fits; omega) hp hu rfl (by show ¬ (101 : Int) ≤ ((0 : Nat) : Int); omega) (by show (0 : Int) + 1 ≤ 1000000; omega), rfl, rfl, rfl, rfl, rfl, fun e he => by
    rcases insQ_mem.1 he with rfl | he
    · left; rfl
    · cases he⟩

set_option maxRecDepth 100000 in
set_option maxHeartbeats 4000000 in
theorem readyWaits_walk (p0 u : Int) (A : Option Addr) (n c : Nat) (es : List (List Int)) (a0 : Int) (w : World) (hp0 : 0 ≤ p0 ∧ p0 ≤ 255) (hu : 0 ≤ u ∧ u ≤ 4294967295) (h : RowF kOne 8 w A n c es) (ha0 : 0 ≤ a0 ∧ a0 ≤ 65535) :
    Calls Try.prog 4 #[.agg #[.int .u8 p0, .int .u32 u], .slice A n c, .int .u16 a0] w fun e w' => e = .returned (.bool true) ∧ Fr No w w' := by
  obtain ⟨m, hm⟩ : ∃ m, m = min n 100 := ⟨_, rfl⟩
  have HR := Lib.hid (h.cut (m := m) (by omega))
  have hmin : min (n : Int) 100 = (m : Int) := by omega
  have hmn : m ≤ n := by omega
  have hm100 : m ≤ 100 := by omega
  have hmc : m ≤ c := by have := h.1; omega
  have hc1 := h.1
  have hc2 := h.2.1
  obtain ⟨p, hp⟩ : ∃ p, p = p0 % 101 := ⟨_, rfl⟩
  have hpb : 0 ≤ p ∧ p ≤ 100 := by omega
  have HA := Lib.hid (show 1 ≤ a0 + 1 ∧ a0 + 1 ≤ 68719476736 by omega)
  have HPB := Lib.hid hpb
  have W0 := Lib.hid (wait_start (a := a0 + 1) (p := p) (u := u) HA.out hpb ⟨hu.1, by omega⟩)
  obtain ⟨a, hae⟩ : ∃ a, a0 + 1 = a := ⟨_, rfl⟩
  have HAE := Lib.hid hae
  rw [hae] at HA W0
  have N0 := Lib.hid (fun X => New_any 101 a (by omega) HA.out X)
  have hpu : pushE (QS.new 101 a) (-7) p u = 0 := W0.out.1
  have W1 := Lib.hid W0.out.2
  have A1 := Lib.hid (fun b D X h => Push_at b D (QS.new 101 a) X h (-7) p u (fits_small (by omega)) (by show (0 : Int) + 1 ≤ 1000000; omega))
  rw [hpu] at A1
  have hw1 : wrap64 (a0 + 1) = a := by unfold wrap64; omega
  have hw2 : IntKind.i64.wrap (a0 + 1) = a := by simp only [IntKind.wrap_i64]; omega
  have hpp : p0 % 101 = p := hp.symm
  obtain ⟨f, hf⟩ : ∃ f, f = u + (100 - p) * a := ⟨_, rfl⟩
  have hmul : 0 ≤ (100 - p) * a ∧ (100 - p) * a ≤ 6553600 := by
    have h1 : 0 ≤ (100 - p) * a := Int.mul_nonneg (by omega) (by omega)
    have h2 : (100 - p) * a ≤ 100 * a := Int.mul_le_mul_of_nonneg_right (by omega) (by omega)
    omega
  obtain ⟨q, hq⟩ : ∃ q, (100 - p) * a = q := ⟨_, rfl⟩
  rw [hq] at hf hmul
  have HF := Lib.hid hf
  have hfb : 0 ≤ f ∧ f ≤ 4301520895 := by omega
  have hq0 : 0 ≤ q := hmul.1
  have hq1 : q ≤ 6553600 := hmul.2
  have hf0 : 0 ≤ f := hfb.1
  have hf1 : f ≤ 4301520895 := hfb.2
  have huq : u + q = f := hf.symm
  have hu1 := hu.1
  have hu2 := hu.2
  have HQ := Lib.hid hq
  clear h hm hpb hf hp hpu hae hu hmul W0 hfb
  go_enter Try.func4, Try.ntmps4
  go_wp2_with fail
  refine (N0.out _).mono ?_
  rintro e w1 ⟨b, D, rfl, hn⟩
  have M0 := Lib.hid (Mine.of hn ((Fr.refl No w).alloc _))
  have HD := Lib.hid (show ∀ k, D k → w.heap.size + 1 ≤ k from fun k hk => by have := hn.2.1 k hk; rwa [World.size_alloc] at this)
  have B1 := Lib.hid ((Blk.new w 33 #[.int .u8 p0, .int .u32 u]).fr hn.2.2 (fun z => z))
  have x0 := B1.out.cell 0
  have x1 := B1.out.cell 1
  simp only [List.getElem?_toArray, List.getElem?_cons_zero, List.getElem?_cons_succ] at x0 x1
  clear hn
  go_wp2_with fail
  refine (A1.out b _ _ M0.out.at_).mono ?_
  rintro e w2 ⟨rfl, ht⟩
  obtain ⟨D2, M2, hd2, hf2⟩ := M0.out.next ht
  have M := Lib.hid M2
  clear x0 x1
  have B2 := Lib.hid (B1.out.fr hf2 (fun hd => by have := HD.out _ hd; omega))
  have x0 := B2.out.cell 0
  have x1 := B2.out.cell 1
  simp only [List.getElem?_toArray, List.getElem?_cons_zero, List.getElem?_cons_succ] at x0 x1
  clear ht M2 M0 hd2 hf2
  have HSD := Lib.hid (fun k hk => M.out.hD k hk)
  go_wp2
  clear hmin x0 x1 huq hq0 hq1 hw1 hw2 hpp
  go_loopw [54] (fun i wr => ∃ (k : Nat) (D : Nat → Prop) (s : QS), i = .int .i64 k ∧ k ≤ m ∧ Hid (Mine w wr b D s) ∧ Hid (WaitI s ⟨-7, p, u, 1⟩ a k)) (fun i _ => m - (intOf i).toNat)
  case atStart => exact ⟨0, D2, _, rfl, Nat.zero_le _, M, W1⟩
  case round =>
    clear M W1
    obtain ⟨k, D, s, rfl, hk, M, WI⟩ := hrel
    by_cases hlt : k < m
    · obtain ⟨xb, xo, p1, u1, hx, rfl, hxb, hp1, hu1, h0, h1⟩ := one_at HR.out hlt
      have c0 := (M.out.fr.cell (p := ⟨xb, xo + k * 2, none⟩) hxb (fun x => x)).trans h0
      have c1 := (M.out.fr.cell (p := ⟨xb, xo + k * 2 + 1, none⟩) hxb (fun x => x)).trans h1
      have hw5 : wrap64 (f + u1 % 5) = f + u1 % 5 := by unfold wrap64; omega
      obtain ⟨e1, WI2⟩ := WI.out.push (by omega) ⟨HPB.out.2, rfl⟩ (p := p1 % 101) (u := f + u1 % 5) (by omega) (by omega) (by dsimp only; have := HQ.out; have := HF.out; omega)
      have PU := Lib.hid (fun X hX => Push_at b D s X hX (k : Int) (p1 % 101) (f + u1 % 5) (by unfold fits; omega) (by rw [WI.out.added]; omega))
      rw [e1] at PU
      have HWI2 := Lib.hid WI2
      have hp11 : 0 ≤ p1 := hp1.1
      have hp12 : p1 ≤ 255 := hp1.2
      have hu11 : 0 ≤ u1 := hu1.1
      have hu12 : u1 ≤ 4294967295 := hu1.2
      have hlt2 : (k : Int) < (m : Int) := by omega
      clear h0 h1 hx e1 WI2 hp1 hu1 WI
      go_wp2_with fail
      refine (PU.out _ (M.out.at_.fr0 ((Fr.refl No wr).alloc _))).mono ?_
      rintro e w3 ⟨rfl, ht⟩
      obtain ⟨D3, M2, _, _⟩ := (M.out.fr0 ((Fr.refl No wr).alloc _)).next ht
      have M3 := Lib.hid M2
      clear ht M2
      go_wp2
      go_roundw
      case rel => exact ⟨k + 1, D3, _, by go_num, by omega, M3, HWI2⟩
      case measure => simp [intOf]; omega
    · obtain rfl : k = m := by omega
      have HH := Lib.hid (Head_at b D s wr M.out.at_)
      have hne : s.l ≠ [] := fun e => by have := WI.out.len; rw [e] at this; simp at this
      rw [show headV s = -7 by unfold headV; rw [if_neg hne, WI.out.head], show headB s = true by unfold headB; cases hs : s.l with | nil => exact absurd hs hne | cons a l => rfl] at HH
      clear hne
      go_wp2_with fail
      refine HH.out.mono ?_
      rintro e w3 ⟨rfl, rfl⟩
      go_wp2_with fail
      refine (works_any _).mono ?_
      rintro e w4 ⟨rfl, hf⟩
      have F4 := Lib.hid (M.out.fr.then0 hf)
      clear hf
      go_wp2
      go_ret
      exact ⟨rfl, F4.out⟩
end Go.Proofs.Ytcjcoigjedcieaa
