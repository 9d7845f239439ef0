/- The contracts of package runs: Live. -/
import Derived.Test.YtopcjakgfaobcaaJ
namespace Go.Proofs.Ytopcjakgfaobcaa
open Go.RowKit Go.Shelf Go.Wk

attribute [local go_sem] Oper.semAt_some

theorem own_kept {w w' : World} {base n size : Nat} {e : TypeId} {v : Value} {xs : List Value} {row : Option Nat} (h : w.ownsRow base e size v n xs) (hg : w.grownBy w' row) (hr : ∀ r, row = some r → ∃ o : Obj, w.heap[r]? = some o ∧ o.isCells = false) : w'.ownsRow base e size v n xs := by
  refine ⟨h.1, ?_⟩
  rcases h.2 with h2 | ⟨g, cap, cur, h1, h2, h3, h4⟩
  · exact .inl h2
  · exact .inr ⟨g, cap, cur, h1, h2, blk_own (t := e) h3 hg hr, h4⟩

theorem own_form' {w : World} {base n size : Nat} {v : Value} {e : TypeId} {xs : List Value} (h : w.ownsRow base e size v n xs) : ∃ A q, v = .slice A n q := by
  rcases h.2 with ⟨h1, h0⟩ | ⟨g, cap, cur, h1, _⟩
  · exact ⟨none, 0, by rw [h1, h0]⟩
  · exact ⟨_, cap, h1⟩

theorem keeps_row {w w' : World} {base n size : Nat} {e : TypeId} {v : Value} {xs : List Value} (h : w.ownsRow base e size v n xs) (hg : w.grownBy w' v.ownBlock) : KeepsOthers w w' := by
  refine KeepsOthers.of_grownBy hg (fun j o hj ho => ?_)
  rcases h.2 with ⟨h1, _⟩ | ⟨g, cap, cur, h1, _, h3, _⟩
  · subst h1; cases hj
  · subst h1
    have : g = j := by simpa [Value.ownBlock] using hj
    subst this
    rw [h3] at ho
    cases ho
    rfl
theorem own_base {w : World} {base base' n size : Nat} {e : TypeId} {v : Value} {xs : List Value} (h : w.ownsRow base e size v n xs) (hb : base' ≤ base) : w.ownsRow base' e size v n xs := by
  refine ⟨h.1, ?_⟩
  rcases h.2 with h2 | ⟨g, cap, cur, h1, h2, h3⟩
  · exact .inl h2
  · exact .inr ⟨g, cap, cur, h1, Nat.le_trans hb h2, h3⟩

set_option maxRecDepth 100000 in
set_option maxHeartbeats 4000000 in
theorem append_seq (b : Nat) (v : Value) (s : TS) (Bs : Nat) (w : World) (hT : TabV w b v s) (hBs : Bs < w.heap.size) (hc : w.cell? ⟨Bs, 0, none⟩ = some (.pointer (some ⟨b, 0, none⟩))) :
    CallsIn Fence.wide 4 Try.prog 46 #[.slice none 0 0, .func (.func 47) #[] #[.pointer (some ⟨Bs, 0, none⟩)]] w fun e W' => ∃ v', e = .returned v' ∧ W'.ownsRow w.heap.size 31 5 v' s.live.length (rcells s.live) ∧ Below w.heap.size w W' := by
  have hlen := hT.ok.len
  have hsz := hT.ok.s1
  have hml : (s.live.length : Int) ≤ 1000 := by omega
  obtain ⟨i0, hi, hz0, hz1, hz2⟩ : ∃ i, Try.prog.info? 31 = some i ∧ i.zero = some (.agg #[.int .i64 0, .int .i64 0, .int .i64 0, .int .i64 0, .int .i64 0]) ∧ i.size = 5 ∧ i.bytes = 40 := ⟨_, rfl, rfl, rfl, rfl⟩
  refine callsIn_of_wp_marks Try.func46 rfl trivial ?_ rfl
  simp only [Try.ntmps46, List.size_toArray, List.length_cons, List.length_nil, Nat.reduceAdd, Nat.reduceSub, Array.replicate_succ, Array.replicate_zero, List.push_toArray, List.append_toArray, List.nil_append, List.cons_append]
  gi_wp2
  obtain ⟨wl, hwl⟩ : ∃ wl, wl = w.alloc (.cells #[.slice none 0 0] 37) := ⟨_, rfl⟩
  rw [← hwl]
  have bS : Blk wl w.heap.size 37 #[.slice none 0 0] := by rw [hwl]; exact Blk.new w 37 _
  have FL : Fr No w wl := by rw [hwl]; exact (Fr.refl No w).alloc _
  have hls : wl.heap.size = w.heap.size + 1 := by rw [hwl]; simp
  clear hwl
  refine wpIn_rangeFunc_ownH rfl (by omega) (gf := 47) (lb := #[.pointer (some ⟨Bs, 0, none⟩)]) rfl trivial (enters_of Try.func47 (by kernel_rfl) rfl)
    (all_stops _ _ trivial trivial rfl (by omega) Bs b wl.heap.size (· = w.heap.size) v s wl (by omega) ((FL.cell (p := ⟨Bs, 0, none⟩) hBs (fun x => x)).trans hc) (by omega) (by omega) (hT.fr FL (fun _ _ x => x)) (fun k hk => by have := hT.lt hk; omega))
    (fun h k => h.trans k) (fun W l o o' hl hW _ _ => KpX.put W l o o' hl hW) (Below.refl _ _) (fun _ => rfl)
    (fun pre W => ∃ u, Blk W w.heap.size 37 #[u] ∧ W.ownsRow wl.heap.size 31 5 u pre.length (rcells pre) ∧ Fr No w W ∧ wl.heap.size ≤ W.heap.size)
    (fun _ _ _ => False)
    (fun pre W W' row ⟨u, i1, i2, i3, i4⟩ hg hr => ⟨u, blk_own i1 hg (fun r e => (hr r e).2), own_kept i2 hg (fun r e => (hr r e).2), i3.ownS (Fr.of_grown (S := fun k => wl.heap.size ≤ k) hg (fun k hk => (hr k hk).1)) (fun k hk => by omega), Nat.le_trans i4 hg.size⟩)
    (fun _ _ _ _ _ hs _ _ => hs)
    ⟨_, bS, own_nil _ _ _ _, FL, Nat.le_refl _⟩
    (fun x a' W => ∃ Bx, wl.heap.size ≤ Bx ∧ Blk W Bx 31 #[.int .i64 x.id, .int .i64 x.job, .int .i64 x.due, .int .i64 x.att, .int .i64 x.start] ∧ a' = { tmps := #[.slice none 0 0, .func (.func 47) #[] #[.pointer (some ⟨Bs, 0, none⟩)], .pointer (some ⟨w.heap.size, 0, none⟩), undef, .slice none 0 0, .pointer (some ⟨Bx, 0, none⟩), .func (.func 47) #[] #[.pointer (some ⟨Bs, 0, none⟩)], .agg #[.int .i64 x.id, .int .i64 x.job, .int .i64 x.due, .int .i64 x.att, .int .i64 x.start], undef, undef, undef, undef, undef], defers := [] })
    (fun x a' _ W W' row ⟨Bx, h1, h2, h3⟩ hg hr => ⟨Bx, h1, blk_own h2 hg (fun r e => (hr r e).2), h3⟩) ?assign ?body ?done ?stop
  case assign =>
    rintro l pre x W K ⟨u, i1, i2, i3, i4⟩ hK
    rw [show encR x = #[.agg #[.int .i64 x.id, .int .i64 x.job, .int .i64 x.due, .int .i64 x.att, .int .i64 x.start]] from rfl]
    gi_wp2
    exact hK _ _ ((KeepsOthers.alloc _ _).from _) (KpX.of_fr ((Fr.refl _ W).alloc _) i4) ⟨u, i1.alloc _, own_fr i2 ((Fr.refl No W).alloc _) (fun _ _ x => x), i3.alloc _, by simp; omega⟩ ⟨W.heap.size, i4, Blk.new _ _ _, rfl⟩
  case body =>
    rintro l pre x a' W hl ⟨r, hr⟩ ⟨u, i1, i2, i3, i4⟩ ⟨Bx, hBx, hX, rfl⟩ hlt
    obtain ⟨e0, e1, e2, e3, e4⟩ := cells5 hX
    obtain ⟨A, q, rfl⟩ := own_form' i2
    have s0 := i1.cell 0
    simp only [List.getElem?_toArray, List.getElem?_cons_zero] at s0
    obtain ⟨wa, hwa⟩ : ∃ wa, wa = W.alloc (.cells #[.int .i64 x.id, .int .i64 x.job, .int .i64 x.due, .int .i64 x.att, .int .i64 x.start] 31) := ⟨_, rfl⟩
    have NEW : Blk wa W.heap.size 31 #[.int .i64 x.id, .int .i64 x.job, .int .i64 x.due, .int .i64 x.att, .int .i64 x.start] := by rw [hwa]; exact Blk.new W 31 _
    have HNC := Lib.hid (show ∀ j u, (rcells [x])[j]? = some u → wa.cell? ((⟨W.heap.size, 0, none⟩ : Addr).add j) = some u from fun j u hu => by
      rw [add_plain, Nat.zero_add, NEW.cell, List.getElem?_toArray, ← hu]; rfl)
    have FA : Fr No W wa := by rw [hwa]; exact (Fr.refl No W).alloc _
    have ON := Lib.hid (own_fr i2 FA (fun _ _ x => x))
    have HB1 := Lib.hid (show (pre.length + 1) * 40 ≤ 140737488355328 by omega)
    have HB0 := Lib.hid (show pre.length + 1 ≤ maxLen by unfold maxLen; omega)
    have HBS := Lib.hid (Nat.le_trans i4 FA.size)
    have HI1 := Lib.hid (i1.fr FA (fun x => x))
    have HFA := Lib.hid FA
    have HI3 := Lib.hid i3
    have HI4 := Lib.hid i4
    have HI2 := Lib.hid i2
    have HWA := Lib.hid hwa
    rw [hwa] at HNC ON HBS
    clear NEW FA i1 i2 hwa
    gi_wp2_with (gi_at_builtin; refine wpListIn_append_own (W.alloc (.cells #[.int .i64 x.id, .int .i64 x.job, .int .i64 x.due, .int .i64 x.att, .int .i64 x.start] 31)) rfl (.tmp 8) (.tmp 10) 37 rfl wl.heap.size 31 i0 (.agg #[.int .i64 0, .int .i64 0, .int .i64 0, .int .i64 0, .int .i64 0]) 5 40 Try.underlying37 hi hz0 hz1 hz2 rfl (by omega) (.slice A pre.length q) pre.length (rcells pre) rfl ON.out ⟨W.heap.size, 0, none⟩ 1 1 (rcells [x]) rfl rfl HNC.out (rcells_one _) HB0.out HB1.out HBS.out ?_; intro v' w1 hown1 hg1 _; obtain ⟨A2, q2, rfl⟩ := own_form' hown1; rw [← HWA.out] at hg1; have F1 := Fr.of_grown (S := fun k => (Value.slice A pre.length q).ownBlock = some k) hg1 (fun k hk => hk); have H1 := HI1.out.fr F1 (fun h => by have := (HI2.out.lt _ h).1; omega); have t0 := H1.cell 0; have tz := H1.frozen 0; simp only [List.getElem?_toArray, List.getElem?_cons_zero] at t0)
    have FW : Fr (· = w.heap.size) w1 (w1.setCell ⟨w.heap.size, 0, none⟩ (.slice A2 (pre.length + 1) q2)) := (Fr.refl (· = w.heap.size) w1).setCell (p := ⟨w.heap.size, 0, none⟩) (.inr rfl) _
    have KR := keeps_row (w := wa) (own_fr HI2.out HFA.out (fun _ _ x => x)) hg1
    have FT : Fr (fun k => k = w.heap.size ∨ wl.heap.size ≤ k) W (w1.setCell ⟨w.heap.size, 0, none⟩ (.slice A2 (pre.length + 1) q2)) :=
      ((HFA.out.mono (fun _ x => x.elim)).trans F1 (fun k _ hk => .inr (HI2.out.lt _ hk).1)).trans FW (fun k _ hk => .inl hk)
    refine ⟨?_, ⟨FT.os, FT.tape, FT.output, FT.size, fun k hk hs => FT.block k (Nat.lt_of_lt_of_le hk HI4.out) (fun h => h.elim hs (fun h => by omega))⟩, .slice A2 (pre.length + 1) q2, H1.set_ 0 _, ?_, ?_, Nat.le_trans HI4.out FT.size⟩
    · have k1 : KeepsOthers W wa := by rw [HWA.out]; exact KeepsOthers.alloc _ _
      exact ((k1.trans KR).trans (KeepsOthers.setCell _ _ _)).from _
    · rw [rcells_app, List.length_append, List.length_singleton]
      exact own_fr hown1 FW (fun k hk h => own_blk_ne hown1 H1 (by decide) k hk h)
    · exact HI3.out.ownS FT (fun k hk => by rcases hk with hk | hk <;> omega)
  case done =>
    rintro D ys W hD rfl ⟨u, i1, i2, i3, i4⟩ hK
    obtain ⟨A, q, rfl⟩ := own_form' i2
    have s0 := i1.cell 0
    simp only [List.getElem?_toArray, List.getElem?_cons_zero] at s0
    gi_wp2
    refine ⟨by simp, .inl ⟨_, _, rfl, run_takeDeferred hK, ?_⟩⟩
    refine ⟨_, results_tmp rfl _ _ _, _, rfl, ?_, i3.below.trans (belowK_b (w := w) (Nat.le_refl _) W D _ _ (by omega) hK rfl rfl)⟩
    exact own_kept (own_base i2 (by omega)) (grownBy_putObj' W D (.deferred none)) (fun r e => by cases e; exact ⟨_, hK, rfl⟩)
  case stop =>
    rintro D c pre W _ _ h _
    exact h.elim

theorem collect_any (b : Nat) (v : Value) (s : TS) (Bs : Nat) (w : World) (hT : TabV w b v s) (hBs : Bs < w.heap.size) (hc : w.cell? ⟨Bs, 0, none⟩ = some (.pointer (some ⟨b, 0, none⟩))) :
    Calls Try.prog 38 #[.func (.func 47) #[] #[.pointer (some ⟨Bs, 0, none⟩)]] w fun e W' => ∃ v', e = .returned v' ∧ W'.ownsRow w.heap.size 31 5 v' s.live.length (rcells s.live) ∧ Below w.heap.size w W' := by
  have H := Lib.hid ((callsIn_wide (n := 4)).1 (append_seq b v s Bs w hT hBs hc))
  clear hT hc
  go_enter Try.func38, Try.ntmps38
  go_wp2_with (go_at_call 46; refine H.out.mono ?_; rintro e w1 ⟨v', rfl, ho, hb⟩)
  go_ret
  exact ⟨v', rfl, ho, hb⟩

/-- What Live hands back: a slice of the call's own with the runs. -/
def Lived (w : World) (s : TS) (x : Ending) (w' : World) : Prop := ∃ A c, x = .returned (.slice A s.live.length c) ∧ w'.ownsRow w.heap.size 31 5 (.slice A s.live.length c) s.live.length (rcells s.live) ∧ Fr No w w'

theorem all_any (p : Option Addr) (w : World) : Calls Try.prog 39 #[.pointer p] w fun e w' => e = .returned (.func (.func 47) #[] #[.pointer (some ⟨w.heap.size, 0, none⟩)]) ∧ w' = w.alloc (.cells #[.pointer p] 22) :=
  (callsIn_wide (n := 4)).1 (all_in Fence.wide 4 trivial rfl p w)

theorem live_any (b : Nat) (D : Nat → Prop) (s : TS) (w : World) (h : TabAt w b D s) : Calls Try.prog 17 #[.pointer (some ⟨b, 0, none⟩)] w fun x w' => Lived w s x w' := by
  obtain ⟨v, h, _⟩ := h
  have hb := Blk.new w 22 #[.pointer (some ⟨b, 0, none⟩)]
  have H := Lib.hid (collect_any b v s w.heap.size (w.alloc (.cells #[.pointer (some ⟨b, 0, none⟩)] 22)) (h.fr ((Fr.refl No w).alloc _) (fun _ _ x => x)) (by simp) (hb.cell 0))
  clear h hb
  go_enter Try.func17, Try.ntmps17
  go_wp2_with (first
    | (go_at_call 39; refine (all_any _ _).mono ?_; rintro e w1 ⟨rfl, rfl⟩)
    | (go_at_call 38; refine H.out.mono ?_; rintro e w1 ⟨v', rfl, ho, hb⟩))
  go_ret
  rw [World.size_alloc] at ho
  obtain ⟨A, c, rfl⟩ := own_form' ho
  exact ⟨A, c, rfl, own_base ho (Nat.le_succ _), ((Fr.refl No w).alloc _).then0 (Fr.of_below (S := No) hb)⟩
end Go.Proofs.Ytopcjakgfaobcaa
