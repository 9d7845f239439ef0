/- RunsRefuses: the walk. -/
import Derived.Test.YtopcjakgfaobcaaSn
namespace Go.Proofs.Ytopcjakgfaobcaa
open Go.RowKit Go.Wk

theorem blk_five {w : World} {g m k : Nat} {cur : Array Value} (h : Blk w g 31 cur) (hm : m * 5 ≤ cur.size) (hk : k < m) :
    ∃ u0 u1 u2 u3 u4, w.cell? ⟨g, k * 5, none⟩ = some u0 ∧ w.cell? ⟨g, k * 5 + 1, none⟩ = some u1 ∧ w.cell? ⟨g, k * 5 + 2, none⟩ = some u2 ∧ w.cell? ⟨g, k * 5 + 3, none⟩ = some u3 ∧ w.cell? ⟨g, k * 5 + 4, none⟩ = some u4 := by
  refine ⟨cur[k * 5]'(by omega), cur[k * 5 + 1]'(by omega), cur[k * 5 + 2]'(by omega), cur[k * 5 + 3]'(by omega), cur[k * 5 + 4]'(by omega), ?_, ?_, ?_, ?_, ?_⟩
  all_goals
    rw [h.cell]
    exact Array.getElem?_eq_getElem _

theorem zero_agg : RV.zero.agg = .agg #[.int .i64 0, .int .i64 0, .int .i64 0, .int .i64 0, .int .i64 0] := rfl
/-- A row that will be written over: there is memory for it. -/
def Scrap (base : Nat) (wr : World) (A : Option Addr) (m : Nat) : Prop := 0 < m → ∃ g cur, A = some ⟨g, 0, none⟩ ∧ base ≤ g ∧ Blk wr g 31 cur ∧ m * 5 ≤ cur.size
theorem Scrap.of {base : Nat} {wr : World} {A : Option Addr} {m c : Nat} {xs : List Value} (h : wr.ownsRow base 31 5 (.slice A m c) m xs) : Scrap base wr A m := fun hm => by
  rcases h.2 with ⟨_, h0⟩ | ⟨g, cap, cur, hv, hb, hh, hnc, _, hsz, _⟩
  · omega
  · injection hv with hA _ hq
    subst hA
    exact ⟨g, cur, rfl, hb, hh, by omega⟩

set_option maxRecDepth 100000 in
set_option maxHeartbeats 4000000 in
theorem runsRefuses_walk (A : Option Addr) (n c : Nat) (es : List (List Int)) (d j u a t r : Int) (w : World) (h : RowF kStp 48 w A n c es) (hn : n ≤ 9223372036854775807) :
    Calls Try.prog 7 #[.slice A n c, .agg #[.int .i64 d, .int .i64 j, .int .i64 u, .int .i64 a, .int .i64 t, .int .i64 r]] w fun e w' => e = .returned (.bool true) ∧ Fr No w w' := by
  have HW0 := Lib.hid ((Fr.refl No w).alloc (.cells #[.int .i64 d, .int .i64 j, .int .i64 u, .int .i64 a, .int .i64 t, .int .i64 r] 42))
  have HX := Lib.hid (Blk.new w 42 #[.int .i64 d, .int .i64 j, .int .i64 u, .int .i64 a, .int .i64 t, .int .i64 r])
  have HR := Lib.hid (h.fr0 HW0.out)
  clear h
  by_cases b1 : 60 < n
  · go_enter Try.func7, Try.ntmps7
    go_wp2_with fail
    refine (works_any _).mono ?_
    rintro x w1 ⟨rfl, hf⟩
    go_wp2
    go_ret
    exact ⟨rfl, HW0.out.then0 hf⟩
  have hn60 : n ≤ 60 := by omega
  go_enter Try.func7, Try.ntmps7
  go_wp2_with fail
  refine (filled_any A n c es _ HR.out hn60).mono ?_
  rintro x w1 ⟨b, D, rfl, OW⟩
  generalize fillS (stps es) = s at *
  have HO := Lib.hid (OW.back HW0.out)
  have HND := Lib.hid (show ¬ D w.heap.size from fun hd => by have := OW.hD _ hd; simp at this; omega)
  replace HX := Lib.hid (HX.out.fr0' OW.fr)
  have HDL := Lib.hid OW.hD
  clear OW HW0 HR
  have hs1 := HO.out.tab.ok.len
  have hs2 := HO.out.tab.ok.s1
  go_wp2_with fail
  refine (live_any b D s _ HO.out.tab).mono ?_
  rintro x w2 ⟨A2, c2, rfl, ho, hf⟩
  have HV := Lib.hid (RowOwn.of HO.out ho)
  replace HO := Lib.hid (HO.out.fr0 hf)
  replace HX := Lib.hid (HX.out.fr0' hf)
  clear ho hf
  obtain ⟨l, hl⟩ : ∃ l, l = s.live := ⟨_, rfl⟩
  rw [← hl] at HV hs1 ⊢
  have HL := Lib.hid hl
  obtain ⟨m, hm⟩ : ∃ m, m = l.length := ⟨_, rfl⟩
  rw [← hm] at HV hs1 ⊢
  have HM := Lib.hid hm
  clear hl hm
  go_wp2_with fail
  refine (last_any b D s _ HO.out.tab).mono ?_
  rintro x _ ⟨rfl, rfl⟩
  obtain ⟨x0, x1, x2, x3, x4, x5⟩ := cells6 HX.out
  go_wp2_with fail
  refine (get_any b D s _ r HO.out.tab).mono ?_
  rintro x w3 ⟨rfl, hf⟩
  unfold RV.agg
  generalize s.getV r = gv at *
  have FA := Lib.hid (hf.alloc (.cells #[.int .i64 gv.id, .int .i64 gv.job, .int .i64 gv.due, .int .i64 gv.att, .int .i64 gv.start] 31))
  replace HO := Lib.hid (HO.out.fr0 FA.out)
  replace HX := Lib.hid (HX.out.fr0' FA.out)
  replace HV := Lib.hid (HV.out.fr0 FA.out)
  clear x0 x1 x2 x3 x4 x5 hf FA
  obtain ⟨x0, x1, x2, x3, x4, x5⟩ := cells6 HX.out
  have two : s.has r = true ∨ s.has r = false := by cases s.has r <;> simp
  rcases two with hs | hs
  · rw [hs]
    go_wp2_with fail
    refine (start_arg b D s _ (-1) u 1 t HO.out.tab rfl).mono ?_
    rintro x _ ⟨rfl, rfl⟩
    go_wp2_with fail
    refine (start_arg b D s _ 0 u 0 t HO.out.tab rfl).mono ?_
    rintro x _ ⟨rfl, rfl⟩
    go_wp2_with fail
    refine (start_time b D s _ 0 (-1) 1 0 HO.out.tab rfl rfl).mono ?_
    rintro x _ ⟨rfl, rfl⟩
    go_wp2_with fail
    refine (start_time b D s _ 0 0 1 253402300800 HO.out.tab rfl rfl).mono ?_
    rintro x _ ⟨rfl, rfl⟩
    clear x0 x1 x2 x3 x4 x5
    go_wp2_with fail
    refine (live_any b D s _ HO.out.tab).mono ?_
    rintro x w5 ⟨A3, c3, rfl, ho, hf⟩
    replace HO := Lib.hid (HO.out.fr0 hf)
    replace HV := Lib.hid (HV.out.fr0 hf)
    have HN := Lib.hid (Reads.of_own ho)
    rw [← HL.out, ← HM.out] at HN
    rw [← HL.out, ← HM.out]
    clear ho hf
    go_wp2_with fail
    refine (same_yes _ _ _ _ _ _ _ l _ (by omega) HN.out HV.out.rd).mono ?_
    rintro x w6 ⟨rfl, hf⟩
    replace HO := Lib.hid (HO.out.fr0 hf)
    replace HV := Lib.hid (HV.out.fr0 hf)
    clear HN hf
    go_wp2_with fail
    refine (last_any b D s _ HO.out.tab).mono ?_
    rintro x _ ⟨rfl, rfl⟩
    have hll : (s.last != s.last) = false := by simp
    go_wp2_with fail
    refine (live_any b D s _ HO.out.tab).mono ?_
    rintro x w7 ⟨A4, c4, rfl, ho, hf⟩
    have HS := Lib.hid (Scrap.of ho)
    rw [← HL.out, ← HM.out] at HS
    rw [← HL.out, ← HM.out]
    have HF := Lib.hid hf
    clear ho hf
    go_wp2
    go_loopw [21] (fun i wr => ∃ k : Nat, i = .int .i64 k ∧ k ≤ m ∧ Fr No w6 wr ∧ Scrap w6.heap.size wr A4 m) (fun i _ => m - (intOf i).toNat)
    case atStart => exact ⟨0, rfl, Nat.zero_le _, HF.out, HS.out⟩
    case round =>
      clear HS HF
      obtain ⟨k, rfl, hk, HF, HS⟩ := hrel
      by_cases hlt : k < m
      · obtain ⟨g, cur, rfl, hg, hB, hsz⟩ := HS (by omega)
        obtain ⟨u0, u1, u2, u3, u4, y0, y1, y2, y3, y4⟩ := blk_five hB hsz hlt
        have fz := hB.frozen
        have HBB := Lib.hid hB
        have HFF := Lib.hid HF
        clear hB HF HS
        go_wp2
        go_roundw
        case rel => exact ⟨k + 1, by go_num, by omega, ((((HFF.out.setCell (.inl hg) _).setCell (.inl hg) _).setCell (.inl hg) _).setCell (.inl hg) _).setCell (.inl hg) _, fun _ => ⟨g, _, rfl, hg, ((((HBB.out.set_ _ _).set_ _ _).set_ _ _).set_ _ _).set_ _ _, by simpa using hsz⟩⟩
        case measure => simp [intOf]; omega
      · replace HO := Lib.hid (HO.out.fr0 HF)
        replace HV := Lib.hid (HV.out.fr0 HF)
        clear HF HS
        go_wp2_with fail
        refine (live_any b D s _ HO.out.tab).mono ?_
        rintro x w8 ⟨A5, c5, rfl, ho, hf⟩
        replace HO := Lib.hid (HO.out.fr0 hf)
        replace HV := Lib.hid (HV.out.fr0 hf)
        have HN := Lib.hid (Reads.of_own ho)
        rw [← HL.out, ← HM.out] at HN
        rw [← HL.out, ← HM.out]
        clear ho hf
        go_wp2_with fail
        refine (same_yes _ _ _ _ _ _ _ l _ (by omega) HN.out HV.out.rd).mono ?_
        rintro x w9 ⟨rfl, hf⟩
        replace HO := Lib.hid (HO.out.fr0 hf)
        clear HN hf HV
        go_wp2_with fail
        refine (works_any _).mono ?_
        rintro x w10 ⟨rfl, hf⟩
        replace HO := Lib.hid (HO.out.fr0 hf)
        clear hf
        go_wp2
        go_ret
        exact ⟨rfl, HO.out.fr⟩
  · rw [hs]
    obtain ⟨q1, q2, q3⟩ := fin_none hs
    go_wp2_with fail
    refine (finish_any b D s _ r HO.out.tab).mono ?_
    rintro x w4 ⟨rfl, ht, hf⟩
    rw [q1, q2, zero_agg]
    rw [q3] at ht
    replace HX := Lib.hid (HX.out.fr hf HND.out)
    replace HV := Lib.hid (HV.out.next hf (fun k hk => .inl hk))
    replace HO := Lib.hid (HO.out.next ht hf (fun k hk => .inl hk))
    have hB := Blk.new w4 31 #[.int .i64 0, .int .i64 0, .int .i64 0, .int .i64 0, .int .i64 0]
    obtain ⟨e0, e1, e2, e3, e4⟩ := cells5 hB
    have FA := Lib.hid ((Fr.refl No w4).alloc (.cells #[.int .i64 0, .int .i64 0, .int .i64 0, .int .i64 0, .int .i64 0] 31))
    replace HO := Lib.hid (HO.out.fr0 FA.out)
    replace HX := Lib.hid (HX.out.fr0' FA.out)
    replace HV := Lib.hid (HV.out.fr0 FA.out)
    clear x0 x1 x2 x3 x4 x5 hf FA ht q1 q2 q3 hB
    obtain ⟨x0, x1, x2, x3, x4, x5⟩ := cells6 HX.out
    go_wp2_with fail
    refine (start_arg b D s _ (-1) u 1 t HO.out.tab rfl).mono ?_
    rintro x _ ⟨rfl, rfl⟩
    go_wp2_with fail
    refine (start_arg b D s _ 0 u 0 t HO.out.tab rfl).mono ?_
    rintro x _ ⟨rfl, rfl⟩
    go_wp2_with fail
    refine (start_time b D s _ 0 (-1) 1 0 HO.out.tab rfl rfl).mono ?_
    rintro x _ ⟨rfl, rfl⟩
    go_wp2_with fail
    refine (start_time b D s _ 0 0 1 253402300800 HO.out.tab rfl rfl).mono ?_
    rintro x _ ⟨rfl, rfl⟩
    clear x0 x1 x2 x3 x4 x5
    go_wp2_with fail
    refine (live_any b D s _ HO.out.tab).mono ?_
    rintro x w5 ⟨A3, c3, rfl, ho, hf⟩
    replace HO := Lib.hid (HO.out.fr0 hf)
    replace HV := Lib.hid (HV.out.fr0 hf)
    have HN := Lib.hid (Reads.of_own ho)
    rw [← HL.out, ← HM.out] at HN
    rw [← HL.out, ← HM.out]
    clear ho hf
    go_wp2_with fail
    refine (same_yes _ _ _ _ _ _ _ l _ (by omega) HN.out HV.out.rd).mono ?_
    rintro x w6 ⟨rfl, hf⟩
    replace HO := Lib.hid (HO.out.fr0 hf)
    replace HV := Lib.hid (HV.out.fr0 hf)
    clear HN hf
    go_wp2_with fail
    refine (last_any b D s _ HO.out.tab).mono ?_
    rintro x _ ⟨rfl, rfl⟩
    have hll : (s.last != s.last) = false := by simp
    go_wp2_with fail
    refine (live_any b D s _ HO.out.tab).mono ?_
    rintro x w7 ⟨A4, c4, rfl, ho, hf⟩
    have HS := Lib.hid (Scrap.of ho)
    rw [← HL.out, ← HM.out] at HS
    rw [← HL.out, ← HM.out]
    have HF := Lib.hid hf
    clear ho hf
    go_wp2
    go_loopw [21] (fun i wr => ∃ k : Nat, i = .int .i64 k ∧ k ≤ m ∧ Fr No w6 wr ∧ Scrap w6.heap.size wr A4 m) (fun i _ => m - (intOf i).toNat)
    case atStart => exact ⟨0, rfl, Nat.zero_le _, HF.out, HS.out⟩
    case round =>
      clear HS HF
      obtain ⟨k, rfl, hk, HF, HS⟩ := hrel
      by_cases hlt : k < m
      · obtain ⟨g, cur, rfl, hg, hB, hsz⟩ := HS (by omega)
        obtain ⟨u0, u1, u2, u3, u4, y0, y1, y2, y3, y4⟩ := blk_five hB hsz hlt
        have fz := hB.frozen
        have HBB := Lib.hid hB
        have HFF := Lib.hid HF
        clear hB HF HS
        go_wp2
        go_roundw
        case rel => exact ⟨k + 1, by go_num, by omega, ((((HFF.out.setCell (.inl hg) _).setCell (.inl hg) _).setCell (.inl hg) _).setCell (.inl hg) _).setCell (.inl hg) _, fun _ => ⟨g, _, rfl, hg, ((((HBB.out.set_ _ _).set_ _ _).set_ _ _).set_ _ _).set_ _ _, by simpa using hsz⟩⟩
        case measure => simp [intOf]; omega
      · replace HO := Lib.hid (HO.out.fr0 HF)
        replace HV := Lib.hid (HV.out.fr0 HF)
        clear HF HS
        go_wp2_with fail
        refine (live_any b D s _ HO.out.tab).mono ?_
        rintro x w8 ⟨A5, c5, rfl, ho, hf⟩
        replace HO := Lib.hid (HO.out.fr0 hf)
        replace HV := Lib.hid (HV.out.fr0 hf)
        have HN := Lib.hid (Reads.of_own ho)
        rw [← HL.out, ← HM.out] at HN
        rw [← HL.out, ← HM.out]
        clear ho hf
        go_wp2_with fail
        refine (same_yes _ _ _ _ _ _ _ l _ (by omega) HN.out HV.out.rd).mono ?_
        rintro x w9 ⟨rfl, hf⟩
        replace HO := Lib.hid (HO.out.fr0 hf)
        clear HN hf HV
        go_wp2_with fail
        refine (works_any _).mono ?_
        rintro x w10 ⟨rfl, hf⟩
        replace HO := Lib.hid (HO.out.fr0 hf)
        clear hf
        go_wp2
        go_ret
        exact ⟨rfl, HO.out.fr⟩
end Go.Proofs.Ytopcjakgfaobcaa
