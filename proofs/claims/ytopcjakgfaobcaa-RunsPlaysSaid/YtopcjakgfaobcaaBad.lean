/- Tables that are not valid: nil, or the zero value. -/
import Derived.Test.YtopcjakgfaobcaaM
import Derived.Test.YtopcjakgfaobcaaK
namespace Go.Proofs.Ytopcjakgfaobcaa
open Go.RowKit Go.Shelf Go.Wk

attribute [local go_sem] Oper.semAt_some

def BadT (w : World) (p : Option Addr) : Prop := p = none ∨ ∃ b, p = some ⟨b, 0, none⟩ ∧ Blk w b 61 #[.int .i64 0, .slice none 0 0, .int .i64 0, .bool false]
def badDom (p : Option Addr) : Nat → Prop := fun k => ∃ o, p = some ⟨k, o, none⟩
theorem BadT.fr {w w' : World} {p : Option Addr} (h : BadT w p) (hf : Fr No w w') : BadT w' p := by
  rcases h with h | ⟨b, h, hb⟩
  · exact .inl h
  · exact .inr ⟨b, h, hb.fr hf (fun x => x)⟩
theorem BadT.lt {w : World} {p : Option Addr} (h : BadT w p) {k : Nat} (hk : badDom p k) : k < w.heap.size := by
  obtain ⟨o, hk⟩ := hk
  rcases h with h | ⟨b, h, hb⟩
  · rw [h] at hk; cases hk
  · rw [h] at hk
    injection hk with hk
    injection hk with hk
    subst hk
    exact hb.lt

theorem valid_bad_in (F : Fence) (n : Nat) (h35 : F.fn 35) (hro : F.round = none) (p : Option Addr) (w : World) (h : BadT w p) :
    CallsIn F n Try.prog 35 #[.pointer p] w fun e w' => e = .returned (.bool false) ∧ w' = w := by
  rcases h with rfl | ⟨b, rfl, hb⟩
  · refine callsIn_of_wp Try.func35 rfl h35 ?_ hro
    simp only [Try.ntmps35, List.size_toArray, List.length_cons, List.length_nil, Nat.reduceAdd, Nat.reduceSub, Array.replicate_succ, Array.replicate_zero, List.push_toArray, List.append_toArray, List.nil_append, List.cons_append]
    gi_wp2
    go_ret
    exact ⟨rfl, rfl⟩
  · have c3 := hb.cell 3
    simp only [List.getElem?_toArray, List.getElem?_cons_succ, List.getElem?_cons_zero] at c3
    refine callsIn_of_wp Try.func35 rfl h35 ?_ hro
    simp only [Try.ntmps35, List.size_toArray, List.length_cons, List.length_nil, Nat.reduceAdd, Nat.reduceSub, Array.replicate_succ, Array.replicate_zero, List.push_toArray, List.append_toArray, List.nil_append, List.cons_append]
    gi_wp2
    go_ret
    exact ⟨rfl, rfl⟩
theorem valid_bad (p : Option Addr) (w : World) (h : BadT w p) : Calls Try.prog 35 #[.pointer p] w fun e w' => e = .returned (.bool false) ∧ w = w' :=
  ((callsIn_wide (n := 4)).1 (valid_bad_in Fence.wide 4 trivial rfl p w h)).mono fun _ _ ⟨h1, h2⟩ => ⟨h1, h2.symm⟩

set_option maxRecDepth 100000 in
set_option maxHeartbeats 2000000 in
theorem all_stops_bad (F : Fence) (n : Nat) (h47 : F.fn 47) (h35 : F.fn 35) (hro : F.round = none) (hn : 2 ≤ n) (Bs : Nat) (p : Option Addr) (n1 : Nat) (S : Nat → Prop) (w : World) (hB : Bs < w.heap.size)
    (hc : w.cell? ⟨Bs, 0, none⟩ = some (.pointer p)) (_hBn : Bs < n1) (_hBS : ¬ S Bs) (hT : BadT w p) (_hD : ∀ k, badDom p k → k < n1 ∧ ¬ S k) :
    SeqStopsK F n Try.prog 47 #[.pointer (some ⟨Bs, 0, none⟩)] encR (KpX n1 S) (fun ys => ys = []) (fun pre => pre <+: []) 0 w := fun l J Jx W hW _ _ _ h0 => by
  have hBs := (hW.cell hB).trans hc
  have HV := Lib.hid (valid_bad_in F (n - 1) h35 hro p W (hT.fr (Fr.of_below hW)))
  clear hT hc
  have hd1 : 1 ≤ n := by omega
  refine callsIn_of_wp Try.func47 rfl h47 ?_ hro
  simp only [Try.ntmps47, List.size_toArray, List.length_cons, List.length_nil, Nat.reduceAdd, Nat.reduceSub, Array.replicate_succ, Array.replicate_zero, List.push_toArray, List.append_toArray, List.nil_append, List.cons_append]
  gi_wp2
  gi_loopw [3] (fun i wr => i = .int .i64 0 ∧ wr = W) (fun _ _ => 0)
  case atStart => exact ⟨rfl, rfl⟩
  case round =>
    obtain ⟨rfl, rfl⟩ := hrel
    gi_wp2_with (gi_at_call 35; refine HV.out.mono ?_; rintro e w' ⟨rfl, rfl⟩)
    go_end0
    exact ⟨⟨_, rfl⟩, .inl ⟨_, rfl, h0⟩⟩

set_option maxRecDepth 100000 in
set_option maxHeartbeats 2000000 in
theorem count_bad_in (F : Fence) (n : Nat) (h18 : F.fn 18) (h39 : F.fn 39) (h47 : F.fn 47) (h35 : F.fn 35) (hro : F.round = none) (hn : 4 ≤ n) (p : Option Addr) (job : Int) (w : World) (hT : BadT w p) :
    CallsIn F n Try.prog 18 #[.pointer p, .int .i64 job] w fun e W' => e = .returned (.int .i64 (0)) ∧ Below w.heap.size w W' := by
  have h1 : 1 ≤ n := by omega
  refine callsIn_of_wp_marks Try.func18 rfl h18 ?_ hro
  simp only [Try.ntmps18, List.size_toArray, List.length_cons, List.length_nil, Nat.reduceAdd, Nat.reduceSub, Array.replicate_succ, Array.replicate_zero, List.push_toArray, List.append_toArray, List.nil_append, List.cons_append]
  gi_wp2_with (gi_at_call 39; refine (all_in F (n - 1) h39 hro _ _).mono ?_; rintro e w' ⟨rfl, rfl⟩)
  obtain ⟨wl, hwl⟩ : ∃ wl, wl = ((w.alloc (.cells #[.int .i64 job] 3)).alloc (.cells #[.int .i64 0] 3)).alloc (.cells #[.pointer p] 22) := ⟨_, rfl⟩
  rw [← hwl]
  have bJ : Blk wl w.heap.size 3 #[.int .i64 job] := by rw [hwl]; exact ((Blk.new w 3 _).alloc _).alloc _
  have bN : Blk wl (w.heap.size + 1) 3 #[.int .i64 0] := by
    rw [hwl]
    have := Blk.new (w.alloc (.cells #[.int .i64 job] 3)) 3 #[.int .i64 0]
    rw [World.size_alloc] at this
    exact this.alloc _
  have bB : Blk wl (w.heap.size + 1 + 1) 22 #[.pointer p] := by
    rw [hwl]
    have := Blk.new ((w.alloc (.cells #[.int .i64 job] 3)).alloc (.cells #[.int .i64 0] 3)) 22 #[.pointer p]
    rw [World.size_alloc, World.size_alloc] at this
    exact this
  have FL : Fr No w wl := by rw [hwl]; exact (((Fr.refl No w).alloc _).alloc _).alloc _
  have hls : wl.heap.size = w.heap.size + 1 + 1 + 1 := by rw [hwl]; simp
  clear hwl
  refine wpIn_rangeFunc_ownH hro h1 (gf := 47) (lb := #[.pointer (some ⟨w.heap.size + 1 + 1, 0, none⟩)]) rfl h47 (enters_of Try.func47 (by kernel_rfl) rfl)
    (all_stops_bad F (n - 1) h47 h35 hro (by omega) (w.heap.size + 1 + 1) p wl.heap.size (· = w.heap.size + 1) wl (by omega) (bB.cell 0) (by omega) (by omega) (hT.fr FL) (fun k hk => by have := hT.lt hk; omega))
    (fun h k => h.trans k) (fun W l o o' hl hW _ _ => KpX.put W l o o' hl hW) (Below.refl _ _) (fun _ => rfl)
    (fun pre W => Blk W w.heap.size 3 #[.int .i64 job] ∧ Blk W (w.heap.size + 1) 3 #[.int .i64 (cntJ job pre)] ∧ Fr No w W ∧ wl.heap.size ≤ W.heap.size)
    (fun _ _ _ => False)
    (fun pre W W' row ⟨i1, i2, i3, i4⟩ hg hr => ⟨blk_own i1 hg (fun r e => (hr r e).2), blk_own i2 hg (fun r e => (hr r e).2), i3.ownS (Fr.of_grown (S := fun k => wl.heap.size ≤ k) hg (fun k hk => (hr k hk).1)) (fun k hk => by omega), Nat.le_trans i4 hg.size⟩)
    (fun _ _ _ _ _ hs _ _ => hs)
    ⟨bJ, bN, FL, Nat.le_refl _⟩
    (fun x a' W => ∃ Bx, wl.heap.size ≤ Bx ∧ Blk W Bx 31 #[.int .i64 x.id, .int .i64 x.job, .int .i64 x.due, .int .i64 x.att, .int .i64 x.start] ∧ a' = { tmps := #[.pointer p, .int .i64 job, undef, .pointer (some ⟨w.heap.size, 0, none⟩), .int .i64 0, .pointer (some ⟨w.heap.size + 1, 0, none⟩), .pointer (some ⟨Bx, 0, none⟩), .pointer p, .func (.func 47) #[] #[.pointer (some ⟨w.heap.size + 1 + 1, 0, none⟩)], .agg #[.int .i64 x.id, .int .i64 x.job, .int .i64 x.due, .int .i64 x.att, .int .i64 x.start], undef, undef, undef, undef, undef, undef, undef], defers := [] })
    (fun x a' _ W W' row ⟨Bx, h1, h2, h3⟩ hg hr => ⟨Bx, h1, blk_own h2 hg (fun r e => (hr r e).2), h3⟩) ?assign ?body ?done ?stop
  case assign =>
    intro l pre x W K ⟨i1, i2, i3, i4⟩ hK
    rw [show encR x = #[.agg #[.int .i64 x.id, .int .i64 x.job, .int .i64 x.due, .int .i64 x.att, .int .i64 x.start]] from rfl]
    gi_wp2
    exact hK _ _ ((KeepsOthers.alloc _ _).from _) (KpX.of_fr ((Fr.refl _ W).alloc _) i4) ⟨i1.alloc _, i2.alloc _, i3.alloc _, by simp; omega⟩ ⟨W.heap.size, i4, Blk.new _ _ _, rfl⟩
  case body =>
    rintro l pre x a' W hl ⟨r, hr⟩ _ _ hlt
    exact absurd hlt (Nat.not_lt_zero _)
  case done =>
    rintro D ys W hD rfl ⟨i1, i2, i3, i4⟩ hK
    have n0 : W.cell? ⟨w.heap.size + 1, 0, none⟩ = some (.int .i64 (0)) := i2.cell 0
    gi_wp2
    refine ⟨by simp, .inl ⟨_, _, rfl, run_takeDeferred hK, ?_⟩⟩
    exact ⟨_, results_tmp rfl _ _ _, rfl, i3.below.trans (belowK_b (w := w) (Nat.le_refl _) W D _ _ (by omega) hK rfl rfl)⟩
  case stop =>
    rintro D c pre W _ _ h _
    exact h.elim

set_option maxRecDepth 100000 in
set_option maxHeartbeats 4000000 in
theorem append_bad (p : Option Addr) (Bs : Nat) (w : World) (hT : BadT w p) (hBs : Bs < w.heap.size) (hc : w.cell? ⟨Bs, 0, none⟩ = some (.pointer p)) :
    CallsIn Fence.wide 4 Try.prog 46 #[.slice none 0 0, .func (.func 47) #[] #[.pointer (some ⟨Bs, 0, none⟩)]] w fun e W' => ∃ v', e = .returned v' ∧ W'.ownsRow w.heap.size 31 5 v' 0 [] ∧ Below w.heap.size w W' := by
  refine callsIn_of_wp_marks Try.func46 rfl trivial ?_ rfl
  simp only [Try.ntmps46, List.size_toArray, List.length_cons, List.length_nil, Nat.reduceAdd, Nat.reduceSub, Array.replicate_succ, Array.replicate_zero, List.push_toArray, List.append_toArray, List.nil_append, List.cons_append]
  gi_wp2
  obtain ⟨wl, hwl⟩ : ∃ wl, wl = w.alloc (.cells #[.slice none 0 0] 37) := ⟨_, rfl⟩
  rw [← hwl]
  have bS : Blk wl w.heap.size 37 #[.slice none 0 0] := by rw [hwl]; exact Blk.new w 37 _
  have FL : Fr No w wl := by rw [hwl]; exact (Fr.refl No w).alloc _
  have hls : wl.heap.size = w.heap.size + 1 := by rw [hwl]; simp
  clear hwl
  refine wpIn_rangeFunc_ownH rfl (by omega) (gf := 47) (lb := #[.pointer (some ⟨Bs, 0, none⟩)]) rfl trivial (enters_of Try.func47 (by kernel_rfl) rfl)
    (all_stops_bad _ _ trivial trivial rfl (by omega) Bs p wl.heap.size (· = w.heap.size) wl (by omega) ((FL.cell (p := ⟨Bs, 0, none⟩) hBs (fun x => x)).trans hc) (by omega) (by omega) (hT.fr FL) (fun k hk => by have := hT.lt hk; omega))
    (fun h k => h.trans k) (fun W l o o' hl hW _ _ => KpX.put W l o o' hl hW) (Below.refl _ _) (fun _ => rfl)
    (fun pre W => ∃ u, Blk W w.heap.size 37 #[u] ∧ W.ownsRow wl.heap.size 31 5 u pre.length (rcells pre) ∧ Fr No w W ∧ wl.heap.size ≤ W.heap.size)
    (fun _ _ _ => False)
    (fun pre W W' row ⟨u, i1, i2, i3, i4⟩ hg hr => ⟨u, blk_own i1 hg (fun r e => (hr r e).2), own_kept i2 hg (fun r e => (hr r e).2), i3.ownS (Fr.of_grown (S := fun k => wl.heap.size ≤ k) hg (fun k hk => (hr k hk).1)) (fun k hk => by omega), Nat.le_trans i4 hg.size⟩)
    (fun _ _ _ _ _ hs _ _ => hs)
    ⟨_, bS, own_nil _ _ _ _, FL, Nat.le_refl _⟩
    (fun x a' W => ∃ Bx, wl.heap.size ≤ Bx ∧ Blk W Bx 31 #[.int .i64 x.id, .int .i64 x.job, .int .i64 x.due, .int .i64 x.att, .int .i64 x.start] ∧ a' = { tmps := #[.slice none 0 0, .func (.func 47) #[] #[.pointer (some ⟨Bs, 0, none⟩)], .pointer (some ⟨w.heap.size, 0, none⟩), undef, .slice none 0 0, .pointer (some ⟨Bx, 0, none⟩), .func (.func 47) #[] #[.pointer (some ⟨Bs, 0, none⟩)], .agg #[.int .i64 x.id, .int .i64 x.job, .int .i64 x.due, .int .i64 x.att, .int .i64 x.start], undef, undef, undef, undef, undef], defers := [] })
    (fun x a' _ W W' row ⟨Bx, h1, h2, h3⟩ hg hr => ⟨Bx, h1, blk_own h2 hg (fun r e => (hr r e).2), h3⟩) ?assign ?body ?done ?stop
  case assign =>
    rintro l pre x W K ⟨u, i1, i2, i3, i4⟩ hK
    rw [show encR x = #[.agg #[.int .i64 x.id, .int .i64 x.job, .int .i64 x.due, .int .i64 x.att, .int .i64 x.start]] from rfl]
    gi_wp2
    exact hK _ _ ((KeepsOthers.alloc _ _).from _) (KpX.of_fr ((Fr.refl _ W).alloc _) i4) ⟨u, i1.alloc _, own_fr i2 ((Fr.refl No W).alloc _) (fun _ _ x => x), i3.alloc _, by simp; omega⟩ ⟨W.heap.size, i4, Blk.new _ _ _, rfl⟩
  case body =>
    rintro l pre x a' W hl ⟨r, hr⟩ _ _ hlt
    exact absurd hlt (Nat.not_lt_zero _)
  case done =>
    rintro D ys W hD rfl ⟨u, i1, i2, i3, i4⟩ hK
    obtain ⟨A, q, rfl⟩ := own_form' i2
    have s0 := i1.cell 0
    simp only [List.getElem?_toArray, List.getElem?_cons_zero] at s0
    gi_wp2
    refine ⟨by simp, .inl ⟨_, _, rfl, run_takeDeferred hK, ?_⟩⟩
    refine ⟨_, results_tmp rfl _ _ _, _, rfl, ?_, i3.below.trans (belowK_b (w := w) (Nat.le_refl _) W D _ _ (by omega) hK rfl rfl)⟩
    exact own_kept (own_base i2 (by omega)) (grownBy_putObj' W D (.deferred none)) (fun r e => by cases e; exact ⟨_, hK, rfl⟩)
  case stop =>
    rintro D c pre W _ _ h _
    exact h.elim


theorem count_bad (p : Option Addr) (job : Int) (w : World) (h : BadT w p) : Calls Try.prog 18 #[.pointer p, .int .i64 job] w fun e w' => e = .returned (.int .i64 0) ∧ Fr No w w' :=
  ((callsIn_wide (n := 4)).1 (count_bad_in Fence.wide 4 trivial trivial trivial trivial rfl (by omega) p job w h)).mono fun _ _ ⟨h1, h2⟩ => ⟨h1, Fr.of_below h2⟩

theorem live_bad (p : Option Addr) (w : World) (h : BadT w p) : Calls Try.prog 17 #[.pointer p] w fun x w' => (∃ A c, x = .returned (.slice A 0 c)) ∧ Fr No w w' := by
  have hb := Blk.new w 22 #[.pointer p]
  have H := Lib.hid ((callsIn_wide (n := 4)).1 (append_bad p w.heap.size (w.alloc (.cells #[.pointer p] 22)) (h.fr ((Fr.refl No w).alloc _)) (by simp) (hb.cell 0)))
  have HC : Hid (Calls Try.prog 38 #[.func (.func 47) #[] #[.pointer (some ⟨w.heap.size, 0, none⟩)]] (w.alloc (.cells #[.pointer p] 22)) fun x w' => (∃ A c, x = .returned (.slice A 0 c)) ∧ Fr No (w.alloc (.cells #[.pointer p] 22)) w') := by
    refine Lib.hid ?_
    clear h hb
    go_enter Try.func38, Try.ntmps38
    go_wp2_with (go_at_call 46; refine H.out.mono ?_; rintro e w1 ⟨v', rfl, ho, hb⟩; obtain ⟨A, c, rfl⟩ := own_form' ho)
    go_ret
    exact ⟨⟨A, c, rfl⟩, Fr.of_below hb⟩
  clear h hb H
  go_enter Try.func17, Try.ntmps17
  go_wp2_with (first
    | (go_at_call 39; refine (all_any _ _).mono ?_; rintro e w1 ⟨rfl, rfl⟩)
    | (go_at_call 38; refine HC.out.mono ?_; rintro e w1 ⟨⟨A, c, rfl⟩, hb⟩))
  go_ret
  exact ⟨⟨A, c, rfl⟩, ((Fr.refl No w).alloc _).then0 hb⟩

theorem start_bad (p : Option Addr) (w : World) (job due att now : Int) (h : BadT w p) :
    Calls Try.prog 13 #[.pointer p, .int .i64 job, .int .i64 due, .int .i64 att, .int .i64 now] w fun e w' => e = .returned (.tuple #[.int .i64 0, .int .i64 1]) ∧ w = w' := by
  have HV := Lib.hid (valid_bad p w h)
  clear h
  go_enter Try.func13, Try.ntmps13
  go_wp2_with (go_at_call 35; refine HV.out.mono ?_; rintro e w1 ⟨rfl, rfl⟩)
  go_ret2
  exact ⟨rfl, rfl⟩
theorem len_bad (p : Option Addr) (w : World) (h : BadT w p) : Calls Try.prog 14 #[.pointer p] w fun e w' => e = .returned (.int .i64 0) ∧ w = w' := by
  have HV := Lib.hid (valid_bad p w h)
  clear h
  go_enter Try.func14, Try.ntmps14
  go_wp2_with (go_at_call 35; refine HV.out.mono ?_; rintro e w1 ⟨rfl, rfl⟩)
  go_ret
  exact ⟨rfl, rfl⟩
theorem last_bad (p : Option Addr) (w : World) (h : BadT w p) : Calls Try.prog 21 #[.pointer p] w fun e w' => e = .returned (.int .i64 0) ∧ w = w' := by
  have HV := Lib.hid (valid_bad p w h)
  clear h
  go_enter Try.func21, Try.ntmps21
  go_wp2_with (go_at_call 35; refine HV.out.mono ?_; rintro e w1 ⟨rfl, rfl⟩)
  go_ret
  exact ⟨rfl, rfl⟩
theorem copy_bad (p : Option Addr) (w : World) (h : BadT w p) : Calls Try.prog 24 #[.pointer p] w fun e w' => e = .returned (.pointer none) ∧ w = w' := by
  have HV := Lib.hid (valid_bad p w h)
  clear h
  go_enter Try.func24, Try.ntmps24
  go_wp2_with (go_at_call 35; refine HV.out.mono ?_; rintro e w1 ⟨rfl, rfl⟩)
  go_ret
  exact ⟨rfl, rfl⟩
theorem find_bad (p : Option Addr) (w : World) (r : Int) (h : BadT w p) : Calls Try.prog 36 #[.pointer p, .int .i64 r] w fun e w' => e = .returned (.tuple #[.int .i64 0, .bool false]) ∧ w = w' := by
  have HV := Lib.hid (valid_bad p w h)
  clear h
  go_enter Try.func36, Try.ntmps36
  go_wp2_with (go_at_call 35; refine HV.out.mono ?_; rintro e w1 ⟨rfl, rfl⟩)
  go_ret2
  exact ⟨rfl, rfl⟩
theorem oldest_bad (p : Option Addr) (w : World) (now : Int) (h : BadT w p) : Calls Try.prog 23 #[.pointer p, .int .i64 now] w fun e w' => e = .returned (.tuple #[.int .i64 0, .int .i64 0, .bool false]) ∧ w = w' := by
  have HV := Lib.hid (len_bad p w h)
  clear h
  go_enter Try.func23, Try.ntmps23
  go_wp2_with (go_at_call 14; refine HV.out.mono ?_; rintro e w1 ⟨rfl, rfl⟩)
  go_ret3
  exact ⟨rfl, rfl⟩
theorem finish_bad (p : Option Addr) (w : World) (r : Int) (h : BadT w p) : Calls Try.prog 15 #[.pointer p, .int .i64 r] w fun x w' => x = .returned (.tuple #[RV.zero.agg, .int .i64 1]) ∧ Fr No w w' := by
  have F1 := (Fr.refl No w).alloc (.cells #[.int .i64 0, .int .i64 0, .int .i64 0, .int .i64 0, .int .i64 0] 31)
  have HV := Lib.hid (valid_bad p _ (h.fr F1))
  have hX := Blk.new w 31 #[.int .i64 0, .int .i64 0, .int .i64 0, .int .i64 0, .int .i64 0]
  obtain ⟨d0, d1, d2, d3, d4⟩ := cells5 hX
  clear h
  go_enter Try.func15, Try.ntmps15
  go_wp2_with (go_at_call 35; refine HV.out.mono ?_; rintro e w1 ⟨rfl, rfl⟩)
  exact bodyPost_ret (v := .tuple #[RV.zero.agg, .int .i64 1]) (by rw [results_cell_tmp rfl]; unfold RV.agg RV.zero; go_simp) rfl ⟨rfl, F1⟩
theorem get_bad (p : Option Addr) (w : World) (r : Int) (h : BadT w p) : Calls Try.prog 22 #[.pointer p, .int .i64 r] w fun x w' => x = .returned (.tuple #[RV.zero.agg, .bool false]) ∧ Fr No w w' := by
  have F1 := (Fr.refl No w).alloc (.cells #[.int .i64 0, .int .i64 0, .int .i64 0, .int .i64 0, .int .i64 0] 31)
  have HV := Lib.hid (find_bad p _ r (h.fr F1))
  have hX := Blk.new w 31 #[.int .i64 0, .int .i64 0, .int .i64 0, .int .i64 0, .int .i64 0]
  obtain ⟨d0, d1, d2, d3, d4⟩ := cells5 hX
  clear h
  go_enter Try.func22, Try.ntmps22
  go_wp2_with (go_at_call 36; refine HV.out.mono ?_; rintro e w1 ⟨rfl, rfl⟩)
  exact bodyPost_ret (v := .tuple #[RV.zero.agg, .bool false]) (by rw [results_cell_tmp rfl]; unfold RV.agg RV.zero; go_simp) rfl ⟨rfl, F1⟩
end Go.Proofs.Ytopcjakgfaobcaa
