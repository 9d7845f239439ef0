/- The contracts of package runs: Count. -/
import Derived.Test.YtopcjakgfaobcaaH
namespace Go.Proofs.Ytopcjakgfaobcaa
open Go.RowKit Go.Shelf Go.Wk

attribute [local go_sem] Oper.semAt_some

/-- How many runs of a list are the job's. -/
def cntJ (job : Int) (l : List RV) : Int := ((l.countP (fun x => x.job == job) : Nat) : Int)
theorem cntJ_snoc (job : Int) (l : List RV) (x : RV) : cntJ job (l ++ [x]) = cntJ job l + (if x.job = job then 1 else 0) := by
  simp only [cntJ, List.countP_append, List.countP_singleton, beq_iff_eq]
  split <;> simp
theorem cntJ_le (job : Int) (l : List RV) : 0 ≤ cntJ job l ∧ cntJ job l ≤ (l.length : Int) := by
  have := List.countP_le_length (p := fun x : RV => x.job == job) (l := l)
  unfold cntJ
  omega

theorem blk_own {w w' : World} {g : Nat} {t : TypeId} {cs : Array Value} {row : Option Nat} (h : Blk w g t cs) (hg : w.grownBy w' row) (hr : ∀ r, row = some r → ∃ o : Obj, w.heap[r]? = some o ∧ o.isCells = false) : Blk w' g t cs :=
  (hg.block g h.lt (fun e => by
    obtain ⟨o, ho, hc⟩ := hr g e.symm
    unfold Blk at h
    rw [h] at ho
    cases ho
    cases hc)).trans h

set_option maxRecDepth 100000 in
set_option maxHeartbeats 2000000 in
theorem count_in (F : Fence) (n : Nat) (h18 : F.fn 18) (h39 : F.fn 39) (h47 : F.fn 47) (h35 : F.fn 35) (hro : F.round = none) (hn : 4 ≤ n) (b : Nat) (v : Value) (s : TS) (job : Int) (w : World) (hT : TabV w b v s) :
    CallsIn F n Try.prog 18 #[.pointer (some ⟨b, 0, none⟩), .int .i64 job] w fun e W' => e = .returned (.int .i64 (cntJ job s.live)) ∧ Below w.heap.size w W' := by
  have h1 : 1 ≤ n := by omega
  have hlen := hT.ok.len
  have hsz := hT.ok.s1
  have hml : (s.live.length : Int) ≤ 1000 := by omega
  refine callsIn_of_wp_marks Try.func18 rfl h18 ?_ hro
  simp only [Try.ntmps18, List.size_toArray, List.length_cons, List.length_nil, Nat.reduceAdd, Nat.reduceSub, Array.replicate_succ, Array.replicate_zero, List.push_toArray, List.append_toArray, List.nil_append, List.cons_append]
  gi_wp2_with (gi_at_call 39; refine (all_in F (n - 1) h39 hro _ _).mono ?_; rintro e w' ⟨rfl, rfl⟩)
  obtain ⟨wl, hwl⟩ : ∃ wl, wl = ((w.alloc (.cells #[.int .i64 job] 3)).alloc (.cells #[.int .i64 0] 3)).alloc (.cells #[.pointer (some ⟨b, 0, none⟩)] 22) := ⟨_, rfl⟩
  rw [← hwl]
  have bJ : Blk wl w.heap.size 3 #[.int .i64 job] := by rw [hwl]; exact ((Blk.new w 3 _).alloc _).alloc _
  have bN : Blk wl (w.heap.size + 1) 3 #[.int .i64 0] := by
    rw [hwl]
    have := Blk.new (w.alloc (.cells #[.int .i64 job] 3)) 3 #[.int .i64 0]
    rw [World.size_alloc] at this
    exact this.alloc _
  have bB : Blk wl (w.heap.size + 1 + 1) 22 #[.pointer (some ⟨b, 0, none⟩)] := by
    rw [hwl]
    have := Blk.new ((w.alloc (.cells #[.int .i64 job] 3)).alloc (.cells #[.int .i64 0] 3)) 22 #[.pointer (some ⟨b, 0, none⟩)]
    rw [World.size_alloc, World.size_alloc] at this
    exact this
  have FL : Fr No w wl := by rw [hwl]; exact (((Fr.refl No w).alloc _).alloc _).alloc _
  have hls : wl.heap.size = w.heap.size + 1 + 1 + 1 := by rw [hwl]; simp
  clear hwl
  refine wpIn_rangeFunc_ownH hro h1 (gf := 47) (lb := #[.pointer (some ⟨w.heap.size + 1 + 1, 0, none⟩)]) rfl h47 (enters_of Try.func47 (by kernel_rfl) rfl)
    (all_stops F (n - 1) h47 h35 hro (by omega) (w.heap.size + 1 + 1) b wl.heap.size (· = w.heap.size + 1) v s wl (by omega) (bB.cell 0) (by omega) (by omega) (hT.fr FL (fun _ _ x => x)) (fun k hk => by have := hT.lt hk; omega))
    (fun h k => h.trans k) (fun W l o o' hl hW _ _ => KpX.put W l o o' hl hW) (Below.refl _ _) (fun _ => rfl)
    (fun pre W => Blk W w.heap.size 3 #[.int .i64 job] ∧ Blk W (w.heap.size + 1) 3 #[.int .i64 (cntJ job pre)] ∧ Fr No w W ∧ wl.heap.size ≤ W.heap.size)
    (fun _ _ _ => False)
    (fun pre W W' row ⟨i1, i2, i3, i4⟩ hg hr => ⟨blk_own i1 hg (fun r e => (hr r e).2), blk_own i2 hg (fun r e => (hr r e).2), i3.ownS (Fr.of_grown (S := fun k => wl.heap.size ≤ k) hg (fun k hk => (hr k hk).1)) (fun k hk => by omega), Nat.le_trans i4 hg.size⟩)
    (fun _ _ _ _ _ hs _ _ => hs)
    ⟨bJ, bN, FL, Nat.le_refl _⟩
    (fun x a' W => ∃ Bx, wl.heap.size ≤ Bx ∧ Blk W Bx 31 #[.int .i64 x.id, .int .i64 x.job, .int .i64 x.due, .int .i64 x.att, .int .i64 x.start] ∧ a' = { tmps := #[.pointer (some ⟨b, 0, none⟩), .int .i64 job, undef, .pointer (some ⟨w.heap.size, 0, none⟩), .int .i64 0, .pointer (some ⟨w.heap.size + 1, 0, none⟩), .pointer (some ⟨Bx, 0, none⟩), .pointer (some ⟨b, 0, none⟩), .func (.func 47) #[] #[.pointer (some ⟨w.heap.size + 1 + 1, 0, none⟩)], .agg #[.int .i64 x.id, .int .i64 x.job, .int .i64 x.due, .int .i64 x.att, .int .i64 x.start], undef, undef, undef, undef, undef, undef, undef], defers := [] })
    (fun x a' _ W W' row ⟨Bx, h1, h2, h3⟩ hg hr => ⟨Bx, h1, blk_own h2 hg (fun r e => (hr r e).2), h3⟩) ?assign ?body ?done ?stop
  case assign =>
    intro l pre x W K ⟨i1, i2, i3, i4⟩ hK
    rw [show encR x = #[.agg #[.int .i64 x.id, .int .i64 x.job, .int .i64 x.due, .int .i64 x.att, .int .i64 x.start]] from rfl]
    gi_wp2
    exact hK _ _ ((KeepsOthers.alloc _ _).from _) (KpX.of_fr ((Fr.refl _ W).alloc _) i4) ⟨i1.alloc _, i2.alloc _, i3.alloc _, by simp; omega⟩ ⟨W.heap.size, i4, Blk.new _ _ _, rfl⟩
  case body =>
    rintro l pre x a' W hl ⟨r, hr⟩ ⟨i1, i2, i3, i4⟩ ⟨Bx, hBx, hX, rfl⟩ hlt
    obtain ⟨e0, e1, e2, e3, e4⟩ := (show W.cell? ⟨Bx, 0, none⟩ = some (.int .i64 x.id) ∧ W.cell? ⟨Bx, 1, none⟩ = some (.int .i64 x.job) ∧ W.cell? ⟨Bx, 2, none⟩ = some (.int .i64 x.due) ∧ W.cell? ⟨Bx, 3, none⟩ = some (.int .i64 x.att) ∧ W.cell? ⟨Bx, 4, none⟩ = some (.int .i64 x.start) from ⟨hX.cell 0, hX.cell 1, hX.cell 2, hX.cell 3, hX.cell 4⟩)
    have j0 : W.cell? ⟨w.heap.size, 0, none⟩ = some (.int .i64 job) := i1.cell 0
    have n0 : W.cell? ⟨w.heap.size + 1, 0, none⟩ = some (.int .i64 (cntJ job pre)) := i2.cell 0
    have nz := i2.frozen 0
    have hc := cntJ_le job pre
    have hsn := cntJ_snoc job pre x
    have HI2 := Lib.hid i2
    have HSN := Lib.hid hsn
    clear hsn i2
    generalize cntJ job pre = C at *
    by_cases hj : x.job = job
    · have HJ := Lib.hid hj
      have hjb : (x.job == job) = true := by simpa using hj
      clear hj
      gi_wp2
      refine ⟨(KeepsOthers.setCell _ _ _).from _, KpX.of_fr ((Fr.refl (· = w.heap.size + 1) W).setCell (p := ⟨w.heap.size + 1, 0, none⟩) (.inr rfl) _) i4, i1.far (by simp) _, ?_, i3.setCell (.inl (by simp)) _, by simpa [World.setCell] using i4⟩
      rw [HSN.out, if_pos HJ.out]
      exact HI2.out.set_ 0 _
    · have HJ := Lib.hid hj
      have hjb : (x.job == job) = false := by simpa using hj
      clear hj
      gi_wp2
      refine ⟨(KeepsOthers.refl _).from _, KpX.refl _ _ _, i1, ?_, i3, i4⟩
      rw [HSN.out, if_neg HJ.out, Int.add_zero]
      exact HI2.out
  case done =>
    rintro D ys W hD rfl ⟨i1, i2, i3, i4⟩ hK
    have n0 : W.cell? ⟨w.heap.size + 1, 0, none⟩ = some (.int .i64 (cntJ job s.live)) := i2.cell 0
    gi_wp2
    refine ⟨by simp, .inl ⟨_, _, rfl, run_takeDeferred hK, ?_⟩⟩
    exact ⟨_, results_tmp rfl _ _ _, rfl, i3.below.trans (belowK_b (w := w) (Nat.le_refl _) W D _ _ (by omega) hK rfl rfl)⟩
  case stop =>
    rintro D c pre W _ _ h _
    exact h.elim
end Go.Proofs.Ytopcjakgfaobcaa
