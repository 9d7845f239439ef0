/- The heap of integers: down. -/
import Derived.Test.YtbndmelkdamgjaaK
namespace Go.Proofs.Ytbndmelkdamgjaa
open Go.RowKit Go.Wk

/-- Around j, on the way down from i. -/
def Dn0 {V : Type} [Inhabited V] (bf : V → V → Bool) (l : List (En V)) (i j : Nat) : Prop := (j = i ∧ DnI bf l j) ∨ DnB bf l j
theorem Dn0.dn {V : Type} [Inhabited V] {bf : V → V → Bool} {l : List (En V)} {i j : Nat} (h : Dn0 bf l i j) : DnI bf l j := by
  rcases h with ⟨_, h⟩ | h
  · exact h
  · exact h.dn
theorem Dn0.stop {V : Type} [Inhabited V] {bf : V → V → Bool} (hw : Weak bf) {l : List (En V)} {i j : Nat} (h : Dn0 bf l i j) (hs : Lst bf l j 2 j) : UpI bf l i := by
  rcases h with ⟨rfl, h⟩ | h
  · exact h.stop (fun c h0 h1 h2 => hs.two h0 h1 h2)
  · exact (h.stop (fun c h0 h1 h2 => hs.two h0 h1 h2)).up hw i
theorem idx2 (x y : Int) (w : World) : (Instr.index 78 (.agg #[.int .i64 x, .int .i64 y]) (.int .i64 0)).run Try.prog w = .ok (.int .i64 x) w ∧ (Instr.index 78 (.agg #[.int .i64 x, .int .i64 y]) (.int .i64 1)).run Try.prog w = .ok (.int .i64 y) w := ⟨by kernel_rfl, by kernel_rfl⟩
set_option maxRecDepth 100000 in
set_option maxHeartbeats 4000000 in
theorem down_any (f : Nat) (bf : Int → Int → Bool) (B : Bef (Value.int .i64) bf f) (b bm : Nat) (v : Value) (l : List (En Int)) (g : Int) (w : World) (h : AI f w b bm v l g) (i : Nat) (hi : i < l.length) (hu : DnI bf l i) :
    Calls Try.prog 89 #[.pointer (some ⟨b, 0, none⟩), .int .i64 i] w fun e w' => e = .returned (.tuple #[]) ∧ ∃ l', Kept (fun X m => AI f X b bm v m g) (dom b bm v) w l (fun m => UpI bf m i) w' l' := by
  have HS := Lib.hid (show Kept (fun X m => AI f X b bm v m g) (dom b bm v) w l (fun m => Dn0 bf m i i) w l from ⟨h, .inl ⟨rfl, hu⟩, fun _ => Iff.rfl, rfl, Fr.refl _ _⟩)
  have hn := h.ok.n
  have hg := h.ok.g
  have HB := Lib.hid B
  have HW := Lib.hid B.weak
  clear h hu B
  go_enter Try.func89, Try.ntmps89
  go_wp2
  go_loopw [1] (fun iv wr => ∃ (j : Nat) (m : List (En Int)), iv = .int .i64 j ∧ j < l.length ∧ Hid (Kept (fun X m => AI f X b bm v m g) (dom b bm v) w l (fun m => Dn0 bf m i j) wr m)) (fun iv _ => l.length - (intOf iv).toNat)
  case atStart => exact ⟨i, l, rfl, hi, HS⟩
  case round =>
    clear HS hi
    obtain ⟨j, m, rfl, hj, HS⟩ := hrel
    obtain ⟨wo, hwo⟩ : ∃ wo, wo = wr := ⟨_, rfl⟩
    subst hwo
    have hml := HS.out.len
    obtain ⟨j1, hj1⟩ : ∃ j1 : Nat, j1 = 2 * j + 1 := ⟨_, rfl⟩
    obtain ⟨j2, hj2⟩ : ∃ j2 : Nat, j2 = 2 * j + 2 := ⟨_, rfl⟩
    have w1 : IntKind.i64.wrap (2 * (j : Int) + 1) = (j1 : Int) := by simp only [IntKind.wrap_i64]; omega
    have w2 : IntKind.i64.wrap (2 * (j : Int) + 2) = (j2 : Int) := by simp only [IntKind.wrap_i64]; omega
    have w3 : IntKind.i64.wrap (j1 : Int) = (j1 : Int) := by simp only [IntKind.wrap_i64]; omega
    have w4 : IntKind.i64.wrap (j2 : Int) = (j2 : Int) := by simp only [IntKind.wrap_i64]; omega
    go_wp2
    clear w1 w2
    go_loopw [4, 15] (fun kv cv wr => ∃ (c k : Nat), kv = .int .i64 k ∧ cv = .int .i64 c ∧ c ≤ 2 ∧ k < l.length ∧ Hid (Lst bf m j c k) ∧ Hid (Fr No wo wr)) (fun _ cv _ => 2 - (intOf cv).toNat)
    case atStart => exact ⟨0, j, rfl, rfl, by omega, hj, Lib.hid (Lst.zero m j), Lib.hid (Fr.refl _ _)⟩
    case round =>
      obtain ⟨c, k, rfl, rfl, hc, hk, HL, HF⟩ := hrel
      have ec : c = 0 ∨ c = 1 ∨ c = 2 := by omega
      rcases ec with rfl | rfl | rfl
      · rcases Nat.lt_or_ge j1 m.length with hlt | hge
        · have HC := Lib.hid (first_any f bf HB.out b bm v m g wr (HS.out.at_.fr0 HF.out) j1 k hlt (by omega))
          have LK := Lib.hid (fun (e : fst bf (m.getD j1 default) (m.getD k default) = false) => HL.out.keep (fun _ => by rw [show 2 * j + 1 + 0 = j1 by omega]; exact e))
          have LT := Lib.hid (fun (e : fst bf (m.getD j1 default) (m.getD k default) = true) => HL.out.turn HW.out (by omega) (by rw [show 2 * j + 1 + 0 = j1 by omega]; exact e))
          rw [show 2 * j + 1 + 0 = j1 by omega] at LT
          generalize fst bf (m.getD j1 default) (m.getD k default) = t at *
          obtain ⟨s1, s2, s3, s4⟩ := HS.out.at_.cells
          have bl := HS.out.at_.blk.lt
          have d1 := (HF.out.cell (p := ⟨b, 1, none⟩) bl (fun z => z)).trans s2
          obtain ⟨A, cp, hv⟩ := HS.out.at_.form
          have HV := Lib.hid hv
          rw [hv] at d1
          have hlt2 : 2 * (j : Int) + 1 < (m.length : Int) := by omega
          obtain ⟨x0, x1⟩ := idx2 (2 * (j : Int) + 1) (2 * (j : Int) + 2) wr
          rw [show ((j1 : Nat) : Int) = 2 * (j : Int) + 1 by omega] at HC
          clear s1 s2 s3 s4 hv HL
          go_wp2_with fail
          refine HC.out.mono ?_
          rintro e w1 ⟨rfl, hf⟩
          have F1 := Lib.hid (HF.out.then0 hf)
          clear hf HC HF d1 x0 x1
          cases t
          · replace LK := Lib.hid (LK.out rfl)
            go_wp2
            go_roundw
            case rel => exact ⟨1, k, rfl, rfl, by omega, hk, LK, F1⟩
            case measure => simp [intOf]
          · replace LT := Lib.hid (LT.out rfl)
            go_wp2
            go_roundw
            case rel => exact ⟨1, j1, by rw [show ((j1 : Nat) : Int) = 2 * (j : Int) + 1 by omega], rfl, by omega, by omega, LT, F1⟩
            case measure => simp [intOf]
        · have LK := Lib.hid (HL.out.keep (fun z => absurd z (by omega)))
          obtain ⟨s1, s2, s3, s4⟩ := HS.out.at_.cells
          have bl := HS.out.at_.blk.lt
          have d1 := (HF.out.cell (p := ⟨b, 1, none⟩) bl (fun z => z)).trans s2
          obtain ⟨A, cp, hv⟩ := HS.out.at_.form
          rw [hv] at d1
          have hge2 : (m.length : Int) ≤ 2 * (j : Int) + 1 := by omega
          obtain ⟨x0, x1⟩ := idx2 (2 * (j : Int) + 1) (2 * (j : Int) + 2) wr
          clear s1 s2 s3 s4 hv HL
          go_wp2
          go_roundw
          case rel => exact ⟨1, k, rfl, rfl, by omega, hk, LK, HF⟩
          case measure => simp [intOf]
      · rcases Nat.lt_or_ge j2 m.length with hlt | hge
        · have HC := Lib.hid (first_any f bf HB.out b bm v m g wr (HS.out.at_.fr0 HF.out) j2 k hlt (by omega))
          have LK := Lib.hid (fun (e : fst bf (m.getD j2 default) (m.getD k default) = false) => HL.out.keep (fun _ => by rw [show 2 * j + 1 + 1 = j2 by omega]; exact e))
          have LT := Lib.hid (fun (e : fst bf (m.getD j2 default) (m.getD k default) = true) => HL.out.turn HW.out (by omega) (by rw [show 2 * j + 1 + 1 = j2 by omega]; exact e))
          rw [show 2 * j + 1 + 1 = j2 by omega] at LT
          generalize fst bf (m.getD j2 default) (m.getD k default) = t at *
          obtain ⟨s1, s2, s3, s4⟩ := HS.out.at_.cells
          have bl := HS.out.at_.blk.lt
          have d1 := (HF.out.cell (p := ⟨b, 1, none⟩) bl (fun z => z)).trans s2
          obtain ⟨A, cp, hv⟩ := HS.out.at_.form
          have HV := Lib.hid hv
          rw [hv] at d1
          have hlt2 : 2 * (j : Int) + 2 < (m.length : Int) := by omega
          obtain ⟨x0, x1⟩ := idx2 (2 * (j : Int) + 1) (2 * (j : Int) + 2) wr
          rw [show ((j2 : Nat) : Int) = 2 * (j : Int) + 2 by omega] at HC
          clear s1 s2 s3 s4 hv HL
          go_wp2_with fail
          refine HC.out.mono ?_
          rintro e w1 ⟨rfl, hf⟩
          have F1 := Lib.hid (HF.out.then0 hf)
          clear hf HC HF d1 x0 x1
          cases t
          · replace LK := Lib.hid (LK.out rfl)
            go_wp2
            go_roundw
            case rel => exact ⟨2, k, rfl, rfl, by omega, hk, LK, F1⟩
            case measure => simp [intOf]
          · replace LT := Lib.hid (LT.out rfl)
            go_wp2
            go_roundw
            case rel => exact ⟨2, j2, by rw [show ((j2 : Nat) : Int) = 2 * (j : Int) + 2 by omega], rfl, by omega, by omega, LT, F1⟩
            case measure => simp [intOf]
        · have LK := Lib.hid (HL.out.keep (fun z => absurd z (by omega)))
          obtain ⟨s1, s2, s3, s4⟩ := HS.out.at_.cells
          have bl := HS.out.at_.blk.lt
          have d1 := (HF.out.cell (p := ⟨b, 1, none⟩) bl (fun z => z)).trans s2
          obtain ⟨A, cp, hv⟩ := HS.out.at_.form
          rw [hv] at d1
          have hge2 : (m.length : Int) ≤ 2 * (j : Int) + 2 := by omega
          obtain ⟨x0, x1⟩ := idx2 (2 * (j : Int) + 1) (2 * (j : Int) + 2) wr
          clear s1 s2 s3 s4 hv HL
          go_wp2
          go_roundw
          case rel => exact ⟨2, k, rfl, rfl, by omega, hk, LK, HF⟩
          case measure => simp [intOf]
      · clear hj1 hj2 w3 w4
        by_cases hkj : k = j
        · have HE := Lib.hid (show Kept (fun X m => AI f X b bm v m g) (dom b bm v) w l (fun m => UpI bf m i) wr m from ⟨HS.out.at_.fr0 HF.out, HS.out.good.stop HW.out (by rw [← hkj]; rw [← hkj] at HL; exact HL.out), HS.out.mem, HS.out.len, HS.out.fr.then0 HF.out⟩)
          subst hkj
          clear HL
          go_wp2
          refine bodyPost_ret (results_none rfl _ _ _) rfl ?_
          exact ⟨rfl, m, HE.out⟩
        · obtain ⟨q1, q2, q3, q4⟩ := HL.out.child hkj
          have HC := Lib.hid (swap_any f b bm v m g wr (HS.out.at_.fr0 HF.out) j k (by omega) q2 (Ne.symm hkj))
          have ST := Lib.hid (HS.out.good.dn.step HW.out (by omega) q1 q2 q3 q4 (fun c h0 h1 h2 => HL.out.two h0 h1 h2))
          have MS := Lib.hid (fun e => mem_swp (l := m) (i := j) (k := k) (by omega) q2 e)
          have ls := swp_length m j k
          have hjk := par_lt q1
          rw [q3] at hjk
          have hkj2 : ((k : Int) = (j : Int)) = False := by simp; omega
          generalize swp m j k = m' at *
          clear q1 q2 q3 q4 HL
          go_wp2_with fail
          refine HC.out.mono ?_
          rintro e w2 ⟨rfl, ha, hf⟩
          have HN := Lib.hid (show Kept (fun X m => AI f X b bm v m g) (dom b bm v) w l (fun m => Dn0 bf m i k) w2 m' from ⟨ha, .inr ST.out, fun e => (MS.out e).trans (HS.out.mem e), ls.trans HS.out.len, (HS.out.fr.then0 HF.out).trans hf (fun _ _ z => z)⟩)
          clear ha hf HS HF HC
          go_wp2
          go_roundw
          case rel => exact ⟨k, m', rfl, hk, HN⟩
          case measure => simp only [intOf, Int.toNat_natCast]; omega
end Go.Proofs.Ytbndmelkdamgjaa
