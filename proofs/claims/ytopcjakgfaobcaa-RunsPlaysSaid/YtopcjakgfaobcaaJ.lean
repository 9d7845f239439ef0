/- The contracts of package runs: Count as a plain call; Oldest. -/
import Derived.Test.YtopcjakgfaobcaaI
import Derived.Test.YtopcjakgfaobcaaG
namespace Go.Proofs.Ytopcjakgfaobcaa
open Go.RowKit Go.Shelf Go.Wk

theorem count_any (b : Nat) (D : Nat → Prop) (s : TS) (job : Int) (w : World) (h : TabAt w b D s) :
    Calls Try.prog 18 #[.pointer (some ⟨b, 0, none⟩), .int .i64 job] w fun e w' => e = .returned (.int .i64 (cntJ job s.live)) ∧ Fr No w w' := by
  obtain ⟨v, h, _⟩ := h
  exact ((callsIn_wide (n := 4)).1 (count_in _ 4 trivial trivial trivial trivial rfl (by omega) b v s job w h)).mono fun e w' ⟨he, hf⟩ => ⟨he, Fr.of_below hf⟩

def older (o x : RV) : RV := if x.start < o.start then x else o
def oldest (l0 : RV) (pre : List RV) : RV := pre.foldl older l0
theorem oldest_snoc (l0 : RV) (pre : List RV) (x : RV) : oldest l0 (pre ++ [x]) = older (oldest l0 pre) x := by simp [oldest]
theorem oldest_mem : ∀ (pre : List RV) (l0 : RV), oldest l0 pre = l0 ∨ oldest l0 pre ∈ pre
  | [], _ => .inl rfl
  | a :: pre, l0 => by
    have h : oldest l0 (a :: pre) = oldest (older l0 a) pre := rfl
    rw [h]
    rcases oldest_mem pre (older l0 a) with h | h
    · rw [h]
      unfold older
      split
      · exact .inr (by simp)
      · exact .inl rfl
    · exact .inr (by simp [h])

def TS.old (s : TS) : RV := oldest (s.live.getD 0 RV.zero) s.live
def TS.oldId (s : TS) : Int := if s.live = [] then 0 else s.old.id
def TS.oldAge (s : TS) (now : Int) : Int := if s.live = [] then 0 else if now < s.old.start then 0 else min (now - s.old.start) 4611686018427387904

theorem oldest_nil (b : Nat) (D : Nat → Prop) (s : TS) (now : Int) (w : World) (h : TabAt w b D s) (he : s.live = []) :
    Calls Try.prog 23 #[.pointer (some ⟨b, 0, none⟩), .int .i64 now] w fun e w' => e = .returned (.tuple #[.int .i64 0, .int .i64 0, .bool false]) ∧ Fr No w w' := by
  have HL := Lib.hid (len_any b D s w h)
  rw [he] at HL
  clear h
  go_enter Try.func23, Try.ntmps23
  go_wp2_with (go_at_call 14; refine HL.out.mono ?_; rintro e w1 ⟨rfl, rfl⟩)
  go_ret3
  exact ⟨rfl, Fr.refl _ _⟩

attribute [local go_sem] Oper.semAt_some

set_option maxRecDepth 100000 in
set_option maxHeartbeats 2000000 in
theorem oldest_some (b : Nat) (v : Value) (s : TS) (now : Int) (w : World) (hT : TabV w b v s) (he : 0 < s.live.length) (hnw : now ≤ 9223372036854775807) :
    Calls Try.prog 23 #[.pointer (some ⟨b, 0, none⟩), .int .i64 now] w fun e w' => e = .returned (.tuple #[.int .i64 s.oldId, .int .i64 (s.oldAge now), .bool true]) ∧ Below w.heap.size w w' := by
  have HL := Lib.hid (len_any b (dom b v) s w ⟨v, hT, rfl⟩)
  have hlen := hT.ok.len
  have hsz := hT.ok.s1
  have hTT := hT
  obtain ⟨g, c, rfl, hg, c0', c1', c2', c3', c4'⟩ := hT.at5 he
  simp only [Nat.zero_mul, Nat.zero_add] at c0' c1' c2' c3' c4'
  have c1 := hT.blk.cell 1
  simp at c1
  obtain ⟨m, hm⟩ : ∃ m, m = s.live.length := ⟨_, rfl⟩
  rw [← hm] at c1 he hlen HL
  have hmb : ((m : Int) == 0) = false := by simp; omega
  obtain ⟨x0, hx0⟩ : ∃ x0, x0 = s.live.getD 0 RV.zero := ⟨_, rfl⟩
  rw [← hx0] at c0' c1' c2' c3' c4'
  have HTT := Lib.hid hTT
  have HM := Lib.hid hm
  have HX0 := Lib.hid hx0
  clear hT hTT hm hx0
  refine (callsIn_wide (n := 4)).1 ?_
  refine callsIn_of_wp_marks Try.func23 rfl trivial ?_ rfl
  simp only [Try.ntmps23, List.size_toArray, List.length_cons, List.length_nil, Nat.reduceAdd, Nat.reduceSub, Array.replicate_succ, Array.replicate_zero, List.push_toArray, List.append_toArray, List.nil_append, List.cons_append]
  gi_wp2_with (first
    | (refine ⟨trivial, ?_⟩; gi_at_call 39; refine (all_in _ _ trivial rfl _ _).mono ?_; rintro e w' ⟨rfl, rfl⟩)
    | (refine ⟨trivial, ?_⟩; gi_at_call 14; refine (callsIn_wide.2 HL.out).mono ?_; rintro e w' ⟨rfl, rfl⟩))
  obtain ⟨wl, hwl⟩ : ∃ wl, wl = (w.alloc (.cells #[.int .i64 x0.id, .int .i64 x0.job, .int .i64 x0.due, .int .i64 x0.att, .int .i64 x0.start] 31)).alloc (.cells #[.pointer (some ⟨b, 0, none⟩)] 22) := ⟨_, rfl⟩
  rw [← hwl]
  have bO : Blk wl w.heap.size 31 #[.int .i64 x0.id, .int .i64 x0.job, .int .i64 x0.due, .int .i64 x0.att, .int .i64 x0.start] := by rw [hwl]; exact (Blk.new w 31 _).alloc _
  have bB : Blk wl (w.heap.size + 1) 22 #[.pointer (some ⟨b, 0, none⟩)] := by
    rw [hwl]
    have := Blk.new (w.alloc (.cells #[.int .i64 x0.id, .int .i64 x0.job, .int .i64 x0.due, .int .i64 x0.att, .int .i64 x0.start] 31)) 22 #[.pointer (some ⟨b, 0, none⟩)]
    rw [World.size_alloc] at this
    exact this
  have FL : Fr No w wl := by rw [hwl]; exact ((Fr.refl No w).alloc _).alloc _
  have hls : wl.heap.size = w.heap.size + 1 + 1 := by rw [hwl]; simp
  clear hwl c0' c1' c2' c3' c4' c1
  refine wpIn_rangeFunc_ownH rfl (by omega) (gf := 47) (lb := #[.pointer (some ⟨w.heap.size + 1, 0, none⟩)]) rfl trivial (enters_of Try.func47 (by kernel_rfl) rfl)
    (all_stops _ _ trivial trivial rfl (by omega) (w.heap.size + 1) b wl.heap.size (· = w.heap.size) (.slice (some ⟨g, 0, none⟩) s.live.length c) s wl (by omega) (bB.cell 0) (by omega) (by omega) (HTT.out.fr FL (fun _ _ x => x)) (fun k hk => by have := HTT.out.lt hk; omega))
    (fun h k => h.trans k) (fun W l o o' hl hW _ _ => KpX.put W l o o' hl hW) (Below.refl _ _) (fun _ => rfl)
    (fun pre W => Blk W w.heap.size 31 #[.int .i64 (oldest x0 pre).id, .int .i64 (oldest x0 pre).job, .int .i64 (oldest x0 pre).due, .int .i64 (oldest x0 pre).att, .int .i64 (oldest x0 pre).start] ∧ Fr No w W ∧ wl.heap.size ≤ W.heap.size)
    (fun _ _ _ => False)
    (fun pre W W' row ⟨i1, i3, i4⟩ hg hr => ⟨blk_own i1 hg (fun r e => (hr r e).2), i3.ownS (Fr.of_grown (S := fun k => wl.heap.size ≤ k) hg (fun k hk => (hr k hk).1)) (fun k hk => by omega), Nat.le_trans i4 hg.size⟩)
    (fun _ _ _ _ _ hs _ _ => hs)
    ⟨bO, FL, Nat.le_refl _⟩
    (fun x a' W => ∃ Bx, wl.heap.size ≤ Bx ∧ Blk W Bx 31 #[.int .i64 x.id, .int .i64 x.job, .int .i64 x.due, .int .i64 x.att, .int .i64 x.start] ∧ a' = { tmps := #[.pointer (some ⟨b, 0, none⟩), .int .i64 now, undef, undef, .int .i64 0, .int .i64 0, .bool false, .pointer (some ⟨w.heap.size, 0, none⟩), .pointer (some ⟨Bx, 0, none⟩), .pointer (some ⟨b, 0, none⟩), .int .i64 m, .bool false, .pointer (some ⟨b, 0, none⟩), .pointer (some ⟨b, 0, none⟩), .pointer (some ⟨b, 1, none⟩), .slice (some ⟨g, 0, none⟩) m c, .pointer (some ⟨g, 0, none⟩), .agg #[.int .i64 x0.id, .int .i64 x0.job, .int .i64 x0.due, .int .i64 x0.att, .int .i64 x0.start], .pointer (some ⟨b, 0, none⟩), .func (.func 47) #[] #[.pointer (some ⟨w.heap.size + 1, 0, none⟩)], .agg #[.int .i64 x.id, .int .i64 x.job, .int .i64 x.due, .int .i64 x.att, .int .i64 x.start], undef, undef, undef, undef, undef, undef, undef, undef, undef, undef, undef, undef, undef, undef, undef, undef, undef, undef, undef], defers := [] })
    (fun x a' _ W W' row ⟨Bx, h1, h2, h3⟩ hg hr => ⟨Bx, h1, blk_own h2 hg (fun r e => (hr r e).2), h3⟩) ?assign ?body ?done ?stop
  case assign =>
    intro l pre x W K ⟨i1, i3, i4⟩ hK
    rw [show encR x = #[.agg #[.int .i64 x.id, .int .i64 x.job, .int .i64 x.due, .int .i64 x.att, .int .i64 x.start]] from rfl]
    gi_wp2
    exact hK _ _ ((KeepsOthers.alloc _ _).from _) (KpX.of_fr ((Fr.refl _ W).alloc _) i4) ⟨i1.alloc _, i3.alloc _, by simp; omega⟩ ⟨W.heap.size, i4, Blk.new _ _ _, rfl⟩
  case body =>
    rintro l pre x a' W hl ⟨r, hr⟩ ⟨i1, i3, i4⟩ ⟨Bx, hBx, hX, rfl⟩ hlt
    obtain ⟨e0, e1, e2, e3, e4⟩ := cells5 hX
    have hsn := oldest_snoc x0 pre x
    have HSN := Lib.hid hsn
    clear hsn
    generalize oldest x0 pre = o at *
    obtain ⟨o0, o1, o2, o3, o4⟩ := cells5 i1
    have oz := i1.frozen
    have HI1 := Lib.hid i1
    clear i1 hX
    by_cases hj : x.start < o.start
    · have HO := Lib.hid (show older o x = x by unfold older; rw [if_pos hj])
      gi_wp2
      have hB := blk_setRun HI1.out (.int .i64 x.id) (.int .i64 x.job) (.int .i64 x.due) (.int .i64 x.att) (.int .i64 x.start)
      have F1 := fr_setRun (Fr.refl (· = w.heap.size) W) (X := w.heap.size) (.inr rfl) (.int .i64 x.id) (.int .i64 x.job) (.int .i64 x.due) (.int .i64 x.att) (.int .i64 x.start)
      have F2 := fr_setRun i3 (X := w.heap.size) (.inl (Nat.le_refl _)) (.int .i64 x.id) (.int .i64 x.job) (.int .i64 x.due) (.int .i64 x.att) (.int .i64 x.start)
      refine ⟨(((((KeepsOthers.setCell _ _ _).trans (KeepsOthers.setCell _ _ _)).trans (KeepsOthers.setCell _ _ _)).trans (KeepsOthers.setCell _ _ _)).trans (KeepsOthers.setCell _ _ _)).from _, KpX.of_fr F1 i4, ?_, F2, by have := F1.size; omega⟩
      rw [HSN.out, HO.out]
      exact hB
    · have HO := Lib.hid (show older o x = o by unfold older; rw [if_neg hj])
      gi_wp2
      refine ⟨(KeepsOthers.refl _).from _, KpX.refl _ _ _, ?_, i3, by omega⟩
      rw [HSN.out, HO.out]
      exact HI1.out
  case done =>
    rintro D ys W hD rfl ⟨i1, i3, i4⟩ hK
    have hold : s.old = oldest x0 s.live := by unfold TS.old; rw [HX0.out]
    have hne : s.live ≠ [] := by intro h; have := HM.out; rw [h] at this; simp at this; omega
    have hid' : s.oldId = (oldest x0 s.live).id := by unfold TS.oldId; rw [if_neg hne, hold]
    have hage : s.oldAge now = if now < (oldest x0 s.live).start then 0 else min (now - (oldest x0 s.live).start) 4611686018427387904 := by unfold TS.oldAge; rw [if_neg hne, hold]
    have hb0 : 0 ≤ (oldest x0 s.live).start ∧ (oldest x0 s.live).start ≤ 253402300799 := by
      have hx0m : x0 ∈ s.live := by
        rw [HX0.out]
        have : 0 < s.live.length := by rw [← HM.out]; exact he
        simp [this]
      rcases oldest_mem s.live x0 with h | h
      · rw [h]; exact HTT.out.ok.times _ hx0m
      · exact HTT.out.ok.times _ h
    have HH1 := Lib.hid hid'; have HH2 := Lib.hid hage
    clear hid' hage hold hne
    generalize oldest x0 s.live = o at *
    obtain ⟨o0, o1, o2, o3, o4⟩ := cells5 i1
    clear i1
    obtain ⟨hb1, hb2⟩ := hb0
    by_cases hnow : now < o.start
    · gi_wp2
      refine ⟨by simp, .inl ⟨_, _, rfl, run_takeDeferred hK, ?_⟩⟩
      exact ⟨_, results_tmp3 rfl _ _ _, by rw [HH1.out, HH2.out, if_pos hnow]; rfl, i3.below.trans (belowK_b (w := w) (Nat.le_refl _) W D _ _ (by omega) hK rfl rfl)⟩
    · by_cases hmin : now - o.start ≤ 4611686018427387904
      all_goals
        gi_wp2
        gi_region
      all_goals
        gi_wp2
        refine ⟨by simp, .inl ⟨_, _, rfl, run_takeDeferred hK, ?_⟩⟩
        refine ⟨_, results_tmp3 rfl _ _ _, ?_, i3.drew.below.trans (belowK_b (w := w) (Nat.le_refl _) W.drew D _ _ (by omega) (show W.drew.heap[D]? = _ from hK) rfl rfl)⟩
        rw [HH1.out, HH2.out, if_neg (show ¬ now < o.start by omega)]
        first
          | (rw [Int.min_eq_left (by omega)]; rfl)
          | (rw [Int.min_eq_right (by omega)]; rfl)
  case stop =>
    rintro D c pre W _ _ h _
    exact h.elim

theorem oldest_any (b : Nat) (D : Nat → Prop) (s : TS) (now : Int) (w : World) (h : TabAt w b D s) (hnw : now ≤ 9223372036854775807) :
    Calls Try.prog 23 #[.pointer (some ⟨b, 0, none⟩), .int .i64 now] w fun e w' => e = .returned (.tuple #[.int .i64 s.oldId, .int .i64 (s.oldAge now), .bool (decide (s.live ≠ []))]) ∧ Fr No w w' := by
  by_cases he : s.live = []
  · have e1 : s.oldId = 0 := by unfold TS.oldId; rw [if_pos he]
    have e2 : s.oldAge now = 0 := by unfold TS.oldAge; rw [if_pos he]
    rw [e1, e2, show decide (s.live ≠ []) = false by simpa using he]
    exact oldest_nil b D s now w h he
  · rw [show decide (s.live ≠ []) = true by simpa using he]
    obtain ⟨v, h, _⟩ := h
    exact (oldest_some b v s now w h (List.length_pos_iff.2 he) hnw).mono fun e w' ⟨h1, h2⟩ => ⟨h1, Fr.of_below h2⟩
end Go.Proofs.Ytopcjakgfaobcaa
