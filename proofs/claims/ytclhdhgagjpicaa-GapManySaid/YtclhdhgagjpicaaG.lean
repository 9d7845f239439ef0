/- The contracts of package gap: Merge. -/
import Derived.Test.YtclhdhgagjpicaaF
namespace Go.Wk
open Go.RowKit
theorem blk_own {w w' : World} {g : Nat} {t : TypeId} {cs : Array Value} {row : Option Nat} (h : Blk w g t cs) (hg : w.grownBy w' row) (hr : ∀ r, row = some r → ∃ o : Obj, w.heap[r]? = some o ∧ o.isCells = false) : Blk w' g t cs :=
  (hg.block g h.lt (fun e => by
    obtain ⟨o, ho, hc⟩ := hr g e.symm
    unfold Blk at h
    rw [h] at ho
    cases ho
    cases hc)).trans h
theorem own_kept {w w' : World} {base n size : Nat} {e : TypeId} {v : Value} {xs : List Value} {row : Option Nat} (h : w.ownsRow base e size v n xs) (hg : w.grownBy w' row) (hr : ∀ r, row = some r → ∃ o : Obj, w.heap[r]? = some o ∧ o.isCells = false) : w'.ownsRow base e size v n xs := by
  refine ⟨h.1, ?_⟩
  rcases h.2 with h2 | ⟨g, cap, cur, h1, h2, h3, h4⟩
  · exact .inl h2
  · exact .inr ⟨g, cap, cur, h1, h2, blk_own (t := e) h3 hg hr, h4⟩
theorem own_form' {w : World} {base n size : Nat} {v : Value} {e : TypeId} {xs : List Value} (h : w.ownsRow base e size v n xs) : ∃ A q, v = .slice A n q := by
  rcases h.2 with ⟨h1, h0⟩ | ⟨g, cap, cur, h1, _⟩
  · exact ⟨none, 0, by rw [h1, h0]⟩
  · exact ⟨_, cap, h1⟩
theorem own_base {w : World} {base base' n size : Nat} {e : TypeId} {v : Value} {xs : List Value} (h : w.ownsRow base e size v n xs) (hb : base' ≤ base) : w.ownsRow base' e size v n xs := by
  refine ⟨h.1, ?_⟩
  rcases h.2 with h2 | ⟨g, cap, cur, h1, h2, h3⟩
  · exact .inl h2
  · exact .inr ⟨g, cap, cur, h1, Nat.le_trans hb h2, h3⟩
theorem keeps_row {w w' : World} {base n size : Nat} {e : TypeId} {v : Value} {xs : List Value} (h : w.ownsRow base e size v n xs) (hg : w.grownBy w' v.ownBlock) : KeepsOthers w w' := by
  refine KeepsOthers.of_grownBy hg (fun j o hj ho => ?_)
  rcases h.2 with ⟨h1, _⟩ | ⟨g, cap, cur, h1, _, h3, _⟩
  · subst h1; cases hj
  · subst h1
    have : g = j := by simpa [Value.ownBlock] using hj
    subst this
    rw [h3] at ho
    cases ho
    rfl
end Go.Wk
namespace Go.Proofs.Ytclhdhgagjpicaa
open Go.RowKit Go.Shelf Go.Wk

attribute [local go_sem] Oper.semAt_some

theorem both_any (A A' : Option Addr) (n c n' c' : Nat) (w : World) : Calls Try.prog 44 #[.slice A n c, .slice A' n' c'] w fun e w' => e = .returned (.func (.func 54) #[] #[.pointer (some ⟨w.heap.size, 0, none⟩), .pointer (some ⟨w.heap.size + 1, 0, none⟩)]) ∧ w' = (w.alloc (.cells #[.slice A n c] 25)).alloc (.cells #[.slice A' n' c'] 25) := by
  go_enter Try.func44, Try.ntmps44
  go_wp2
  go_ret
  exact ⟨rfl, rfl⟩

/-- The times of two lists. -/
def mergeL (a b : List Int) : List Int := if chk [a, b] = 0 then (bothL a b).map (·.1) else []
theorem bothL_len : ∀ (a b : List Int), (bothL a b).length ≤ a.length + b.length
  | [], [] => by rw [bothL]; simp
  | x :: a, [] => by rw [bothL]; have := bothL_len a []; simp at this ⊢; omega
  | [], y :: b => by rw [bothL]; have := bothL_len [] b; simp at this ⊢; omega
  | x :: a, y :: b => by
    rw [bothL]
    have h1 := bothL_len a (y :: b)
    have h2 := bothL_len (x :: a) b
    have h3 := bothL_len a b
    simp at h1 h2 h3
    split
    · simp; omega
    · split
      · simp; omega
      · simp; omega
termination_by a b => a.length + b.length

set_option maxRecDepth 100000 in
set_option maxHeartbeats 4000000 in
theorem merge_ok (A A' : Option Addr) (n c n' c' : Nat) (la lb : List Int) (w : World) (h : Reads w w.heap.size 1 A n (la.map (Value.int .i64))) (h' : Reads w w.heap.size 1 A' n' (lb.map (Value.int .i64))) (hc : n ≤ c) (hc' : n' ≤ c') (hk : chk [la, lb] = 0) :
    Calls Try.prog 19 #[.slice A n c, .slice A' n' c'] w fun e w' => Gapped w (mergeL la lb) (chk [la, lb]) e w' := by
  have HC := Lib.hid (check2_any A A' n c n' c' w.heap.size la lb w h h' (Nat.le_refl _))
  have hM : mergeL la lb = (bothL la lb).map (·.1) := by unfold mergeL; rw [if_pos hk]
  rw [hM]
  have HG := Lib.hid (chk_ok hk)
  have hn : n ≤ 100000 := by have := (HG.out la (by simp)).len; have := h.length_ints; omega
  have hn' : n' ≤ 100000 := by have := (HG.out lb (by simp)).len; have := h'.length_ints; omega
  have HBL := Lib.hid (show (bothL la lb).length ≤ 200000 from by
    have := bothL_len la lb
    have := h.length_ints
    have := h'.length_ints
    omega)
  rw [hk] at HC
  have HK := Lib.hid hk
  clear hk hM
  obtain ⟨i0, hi, hz0, hz1, hz2⟩ : ∃ i, Try.prog.info? 2 = some i ∧ i.zero = some (.int .i64 0) ∧ i.size = 1 ∧ i.bytes = 8 := ⟨_, rfl, rfl, rfl, rfl⟩
  obtain ⟨w1, hw1⟩ : ∃ w1, w1 = w.alloc (.cells #[.slice A n c, .slice A' n' c'] 25) := ⟨_, rfl⟩
  have F1 : Fr No w w1 := by rw [hw1]; exact (Fr.refl No w).alloc _
  have hs1 : w1.heap.size = w.heap.size + 1 := by rw [hw1]; simp
  have HW1 := Lib.hid hw1
  rw [← hw1] at HC
  clear hw1
  refine (callsIn_wide (n := 4)).1 ?_
  refine callsIn_of_wp_marks Try.func19 rfl trivial ?_ rfl
  simp only [Try.ntmps19, List.size_toArray, List.length_cons, List.length_nil, Nat.reduceAdd, Nat.reduceSub, Array.replicate_succ, Array.replicate_zero, List.push_toArray, List.append_toArray, List.nil_append, List.cons_append]
  gi_wp2_with (first
    | (refine ⟨trivial, ?_⟩; gi_at_call 41; rw [← HW1.out]; refine (callsIn_wide.2 HC.out).mono ?_; rintro e w' ⟨rfl, rfl⟩)
    | (refine ⟨trivial, ?_⟩; gi_at_call 44; refine (callsIn_wide.2 (both_any _ _ _ _ _ _ _)).mono ?_; rintro e w' ⟨rfl, rfl⟩))
  obtain ⟨wl, hwl⟩ : ∃ wl, wl = ((w1.alloc (.cells #[.slice none 0 0] 25)).alloc (.cells #[.slice A n c] 25)).alloc (.cells #[.slice A' n' c'] 25) := ⟨_, rfl⟩
  rw [← hwl]
  have b7 : Blk wl (w.heap.size + 1) 25 #[.slice none 0 0] := by
    rw [hwl, ← hs1]; exact ((Blk.new w1 25 _).alloc _).alloc _
  have bA : Blk wl (w.heap.size + 1 + 1) 25 #[.slice A n c] := by
    rw [hwl]
    have := Blk.new (w1.alloc (.cells #[.slice none 0 0] 25)) 25 #[.slice A n c]
    rw [World.size_alloc, hs1] at this
    exact this.alloc _
  have bB : Blk wl (w.heap.size + 1 + 1 + 1) 25 #[.slice A' n' c'] := by
    rw [hwl]
    have := Blk.new ((w1.alloc (.cells #[.slice none 0 0] 25)).alloc (.cells #[.slice A n c] 25)) 25 #[.slice A' n' c']
    rw [World.size_alloc, World.size_alloc, hs1] at this
    exact this
  have FL : Fr No w wl := by rw [hwl]; exact ((F1.alloc _).alloc _).alloc _
  have hls : wl.heap.size = w.heap.size + 1 + 1 + 1 + 1 := by rw [hwl]; simp [hs1]
  clear hwl
  have RA : Rest wl (w.heap.size + 1 + 1) w.heap.size n A c la := ⟨bA, h.fr FL (Nat.le_refl _) (fun _ _ x => x), hc, h.length_ints⟩
  have RB : Rest wl (w.heap.size + 1 + 1 + 1) w.heap.size n' A' c' lb := ⟨bB, h'.fr FL (Nat.le_refl _) (fun _ _ x => x), hc', h'.length_ints⟩
  refine wpIn_fed (n := 4) (gf := 54) (lb := #[.pointer (some ⟨w.heap.size + 1 + 1, 0, none⟩), .pointer (some ⟨w.heap.size + 1 + 1 + 1, 0, none⟩)]) (encs := encP) (T := fun k => k = w.heap.size + 1 + 1 ∨ k = w.heap.size + 1 + 1 + 1) (Kp := KpX wl.heap.size (· = w.heap.size + 1)) (xs := bothL la lb) (by omega) rfl (enters_of Try.func54 (by kernel_rfl) rfl)
    (both_feeds 3 (by omega) (w.heap.size + 1 + 1) (w.heap.size + 1 + 1 + 1) w.heap.size wl.heap.size (· = w.heap.size + 1) A A' n c n' c' la lb wl RA RB hn hn' (by omega) (by omega) (by omega) (by omega) (by omega) (fun b hb h => by omega) (by omega) (by omega))
    (fun k hk => by omega) (fun h k => h.trans k) (fun W l o o' hl hW => KpX.put W l o o' hl hW) (fun _ => rfl)
    (fun pre W => ∃ u, Blk W (w.heap.size + 1) 25 #[u] ∧ W.ownsRow wl.heap.size 2 1 u pre.length (cells .i64 (pre.map (·.1))) ∧ Fr No w W ∧ wl.heap.size ≤ W.heap.size)
    ?hIp ?hIa ?hIT ⟨_, b7, own_nil _ _ _ _, FL, Nat.le_refl _⟩
    (fun x => { tmps := #[.slice A n c, .slice A' n' c', undef, undef, .slice none 0 0, .int .i64 0, .int .i64 0, .pointer (some ⟨w.heap.size + 1, 0, none⟩), .int .i64 x.1, .slice A n c, .slice A' n' c', .slice (some ⟨w.heap.size, 0, none⟩) 2 2, .int .i64 0, .int .i64 0, .bool false, undef, .slice A n c, .slice A' n' c', .func (.func 54) #[] #[.pointer (some ⟨w.heap.size + 1 + 1, 0, none⟩), .pointer (some ⟨w.heap.size + 1 + 1 + 1, 0, none⟩)], .int .i64 x.1, .int .i64 x.2, undef, undef, undef, undef, undef], defers := [] }) ?assign ?body ?done
  case hIp =>
    rintro s X l o o' ⟨u, i1, i2, i3, i4⟩ hl hX ho
    have hg := grownBy_putObj' X l o'
    have hr : ∀ r, some l = some r → ∃ o : Obj, X.heap[r]? = some o ∧ o.isCells = false := fun r e => by cases e; exact ⟨o, hX, ho⟩
    exact ⟨u, blk_own i1 hg hr, own_kept i2 hg hr, i3.ownS (Fr.of_grown (S := (· = l)) hg (fun k hk => by injection hk with hk; exact hk.symm)) (fun k hk => by omega), Nat.le_trans i4 hg.size⟩
  case hIa =>
    rintro s X o ⟨u, i1, i2, i3, i4⟩
    exact ⟨u, i1.alloc o, own_fr i2 ((Fr.refl No X).alloc o) (fun _ _ x => x), i3.alloc o, by simp; omega⟩
  case hIT =>
    rintro s X Y ⟨u, i1, i2, i3, i4⟩ hf
    exact ⟨u, i1.fr hf (fun h => by omega), own_fr i2 hf (fun k hk h => by have := (i2.lt k hk).1; omega), i3.ownS hf (fun k hk => by omega), Nat.le_trans i4 hf.size⟩
  case assign =>
    intro l x W K hK
    rw [show encP x = #[.int .i64 x.1, .int .i64 x.2] from rfl]
    gi_wp2
    exact hK
  case body =>
    rintro l pre x W hl ⟨u, i1, i2, i3, i4⟩ hp
    obtain ⟨A2, q, rfl⟩ := own_form' i2
    have hpl := hp.length_le
    have hb2 := HBL.out
    rw [List.length_append, List.length_singleton] at hpl
    have s0 := i1.cell 0
    simp only [List.getElem?_toArray, List.getElem?_cons_zero] at s0
    obtain ⟨wa, hwa⟩ : ∃ wa, wa = W.alloc (.cells #[.int .i64 x.1] 2) := ⟨_, rfl⟩
    have NEW : Blk wa W.heap.size 2 #[.int .i64 x.1] := by rw [hwa]; exact Blk.new W 2 _
    have HNC := Lib.hid (show ∀ j v, ([.int .i64 x.1] : List Value)[j]? = some v → wa.cell? ((⟨W.heap.size, 0, none⟩ : Addr).add j) = some v from fun j v hv => by
      rw [add_plain, Nat.zero_add, NEW.cell, List.getElem?_toArray, ← hv])
    have FA : Fr No W wa := by rw [hwa]; exact (Fr.refl No W).alloc _
    have ON := Lib.hid (own_fr i2 FA (fun _ _ x => x))
    have HB1 := Lib.hid (show (pre.length + 1) * 8 ≤ 140737488355328 by omega)
    have HB0 := Lib.hid (show pre.length + 1 ≤ maxLen by unfold maxLen; omega)
    have HBS := Lib.hid (Nat.le_trans i4 FA.size)
    have HI1 := Lib.hid (i1.fr FA (fun x => x))
    have HFA := Lib.hid FA
    have HI3 := Lib.hid i3
    have HI4 := Lib.hid i4
    have HI2 := Lib.hid i2
    have HWA := Lib.hid hwa
    have H1C : Hid (∀ v ∈ ([.int .i64 x.1] : List Value), v.oneCell' = true) := Lib.hid (fun v hv => by simp at hv; subst hv; rfl)
    rw [hwa] at HNC ON HBS
    clear NEW FA i1 i2 hwa hpl hb2
    gi_wp2_with (gi_at_builtin; refine wpListIn_append_own (W.alloc (.cells #[.int .i64 x.1] 2)) rfl (.tmp 21) (.tmp 23) 25 rfl wl.heap.size 2 i0 (.int .i64 0) 1 8 Try.underlying25 hi hz0 hz1 hz2 rfl (by omega) (.slice A2 pre.length q) pre.length (cells .i64 (pre.map (·.1))) rfl ON.out ⟨W.heap.size, 0, none⟩ 1 1 [.int .i64 x.1] rfl rfl HNC.out H1C.out HB0.out HB1.out HBS.out ?_; intro v' w3 hown1 hg1 _; obtain ⟨A3, q3, rfl⟩ := own_form' hown1; rw [← HWA.out] at hg1; have F1' := Fr.of_grown (S := fun k => (Value.slice A2 pre.length q).ownBlock = some k) hg1 (fun k hk => hk); have H1 := HI1.out.fr F1' (fun h => by have := (HI2.out.lt _ h).1; omega); have t0 := H1.cell 0; have tz := H1.frozen 0; simp only [List.getElem?_toArray, List.getElem?_cons_zero] at t0)
    have FW : Fr (· = w.heap.size + 1) w3 (w3.setCell ⟨w.heap.size + 1, 0, none⟩ (.slice A3 (pre.length + 1) q3)) := (Fr.refl (· = w.heap.size + 1) w3).setCell (p := ⟨w.heap.size + 1, 0, none⟩) (.inr rfl) _
    have KR := keeps_row (w := wa) (own_fr HI2.out HFA.out (fun _ _ x => x)) hg1
    have FT : Fr (fun k => k = w.heap.size + 1 ∨ wl.heap.size ≤ k) W (w3.setCell ⟨w.heap.size + 1, 0, none⟩ (.slice A3 (pre.length + 1) q3)) :=
      ((HFA.out.mono (fun _ x => x.elim)).trans F1' (fun k _ hk => .inr (HI2.out.lt _ hk).1)).trans FW (fun k _ hk => .inl hk)
    refine ⟨?_, ⟨FT.os, FT.tape, FT.output, FT.size, fun k hk hs => FT.block k (Nat.lt_of_lt_of_le hk HI4.out) (fun h => h.elim hs (fun h => by omega))⟩, .slice A3 (pre.length + 1) q3, H1.set_ 0 _, ?_, ?_, Nat.le_trans HI4.out FT.size⟩
    · have k1 : KeepsOthers W wa := by rw [HWA.out]; exact KeepsOthers.alloc _ _
      exact ((k1.trans KR).trans (KeepsOthers.setCell _ _ _)).from _
    · rw [List.map_append, List.length_append, List.length_singleton, List.map_singleton, cells_snoc]
      exact own_fr hown1 FW (fun k hk h => own_blk_ne hown1 H1 (by decide) k hk h)
    · exact HI3.out.ownS FT (fun k hk => by rcases hk with hk | hk <;> omega)
  case done =>
    rintro D W hD ⟨u, i1, i2, i3, i4⟩ hK
    obtain ⟨A2, q, rfl⟩ := own_form' i2
    have s0 := i1.cell 0
    simp only [List.getElem?_toArray, List.getElem?_cons_zero] at s0
    gi_wp2
    refine ⟨by simp, .inl ⟨_, _, rfl, run_takeDeferred hK, ?_⟩⟩
    refine ⟨_, results_tmp2 rfl _ _ _, A2, q, ?_, ?_, Fr.of_below (i3.below.trans (belowK_b (w := w) (Nat.le_refl _) W D _ _ (by omega) hK rfl rfl))⟩
    · rw [HK.out, List.length_map]
      rfl
    · rw [List.length_map]
      exact own_kept (own_base i2 (by omega)) (grownBy_putObj' W D (.deferred none)) (fun r e => by cases e; exact ⟨_, hK, rfl⟩)

theorem merge_any (A A' : Option Addr) (n c n' c' : Nat) (la lb : List Int) (w : World) (h : Reads w w.heap.size 1 A n (la.map (Value.int .i64))) (h' : Reads w w.heap.size 1 A' n' (lb.map (Value.int .i64))) (hc : n ≤ c) (hc' : n' ≤ c') :
    Calls Try.prog 19 #[.slice A n c, .slice A' n' c'] w fun e w' => Gapped w (mergeL la lb) (chk [la, lb]) e w' := by
  by_cases hk : chk [la, lb] = 0
  · exact merge_ok A A' n c n' c' la lb w h h' hc hc' hk
  · have HC := Lib.hid (check2_any A A' n c n' c' w.heap.size la lb w h h' (Nat.le_refl _))
    have HF := Lib.hid ((Fr.refl No w).alloc (.cells #[.slice A n c, .slice A' n' c'] 25))
    have HM := Lib.hid (show mergeL la lb = [] by unfold mergeL; rw [if_neg hk])
    have hkb : (chk [la, lb] != 0) = true := by simpa using hk
    generalize hkk : chk [la, lb] = k at *
    clear h h'
    go_enter Try.func19, Try.ntmps19
    go_wp2_with (go_at_call 41; refine HC.out.mono ?_; rintro e w1 ⟨rfl, rfl⟩)
    go_ret2
    rw [HM.out]
    exact ⟨none, 0, rfl, own_nil _ _ _ _, HF.out⟩
end Go.Proofs.Ytclhdhgagjpicaa
