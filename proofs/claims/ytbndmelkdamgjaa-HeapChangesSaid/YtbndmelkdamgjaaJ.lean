/- The heap of integers: swap. -/
import Derived.Test.YtbndmelkdamgjaaI
namespace Go.Proofs.Ytbndmelkdamgjaa
open Go.RowKit Go.Wk

theorem own_swp {V : Type} [Inhabited V] (C : Cod V) {base cap g i k : Nat} {et : TypeId} {l : List (En V)} {w : World} (h : w.ownsRow base et C.s (.slice (some ⟨g, 0, none⟩) l.length cap) l.length (ecells C l)) (hi : i < l.length) (hk : k < l.length) :
    ((w.setCells g (i * C.s) (ecell C (l.getD k default))).setCells g (k * C.s) (ecell C (l.getD i default))).ownsRow base et C.s (.slice (some ⟨g, 0, none⟩) l.length cap) l.length (ecells C (swp l i k)) := by
  have a := own_put C h hi (l.getD k default)
  have e : l.length = (l.set i (l.getD k default)).length := by simp
  generalize l.length = n at *
  subst e
  exact own_put C a hk (l.getD i default)
theorem fr_swp {V : Type} [Inhabited V] (C : Cod V) {g : Nat} {w : World} (i k : Nat) (x y : En V) : Fr (· = g) w ((w.setCells g (i * C.s) (ecell C x)).setCells g (k * C.s) (ecell C y)) :=
  fr_setCells (S := (· = g)) rfl _ _ (fr_setCells (S := (· = g)) rfl _ _ (Fr.refl _ w))
theorem cellsI (w : World) (g i k : Nat) (x y : En Int) : (w.setCells g (i * CI.s) (ecell CI x)).setCells g (k * CI.s) (ecell CI y) = ((((((w.setCell ⟨g, i * 3, none⟩ (.int .i64 x.id)).setCell ⟨g, i * 3 + 1, none⟩ (.int .i64 x.v)).setCell ⟨g, i * 3 + 2, none⟩ (.int .i64 x.p)).setCell ⟨g, k * 3, none⟩ (.int .i64 y.id)).setCell ⟨g, k * 3 + 1, none⟩ (.int .i64 y.v)).setCell ⟨g, k * 3 + 2, none⟩ (.int .i64 y.p)) := rfl
theorem zeroI (w : World) : (zeroValue 3).run Try.prog w = .ok (.int .i64 0) w := by kernel_rfl
/-- Behind the two stores: the row turned, the map not yet. -/
structure Mid (w w' : World) (G c n : Nat) (xs : List Value) : Prop where
  own : w'.ownsRow 0 95 3 (.slice (some ⟨G, 0, none⟩) n c) n xs
  fr : Fr (· = G) w w'
set_option maxRecDepth 100000 in
set_option maxHeartbeats 4000000 in
theorem swap_any (f : Nat) (b bm : Nat) (v : Value) (l : List (En Int)) (g : Int) (w : World) (h : AI f w b bm v l g) (i k : Nat) (hi : i < l.length) (hk : k < l.length) (hik : i ≠ k) :
    Calls Try.prog 88 #[.pointer (some ⟨b, 0, none⟩), .int .i64 i, .int .i64 k] w fun e w' => e = .returned (.tuple #[]) ∧ AI f w' b bm v (swp l i k) g ∧ Fr (dom b bm v) w w' := by
  obtain ⟨c0, c1, c2, c3⟩ := h.cells
  obtain ⟨G, c, rfl, hG, hz, hGb, hGm, _⟩ := AV.item h hi
  obtain ⟨_, _, e0, _, s0, s1, s2⟩ := h.item hi
  obtain ⟨G', c', e1, _, t0, t1, t2⟩ := h.item hk
  obtain ⟨rfl, rfl⟩ : G' = G ∧ c' = c := by
    injection e1 with e1 _ e3
    injection e1 with e1
    injection e1 with e1
    exact ⟨e1.symm, e3.symm⟩
  injection e0 with e0 _ _
  injection e0 with e0
  injection e0 with e0
  subst e0
  clear e1
  have hn := h.ok.n
  have hg := h.ok.g
  have hb := h.blk.lt
  have HH := Lib.hid h
  have z0 := hz (i * 3)
  have z1 := hz (i * 3 + 1)
  have z2 := hz (i * 3 + 2)
  have z3 := hz (k * 3)
  have z4 := hz (k * 3 + 1)
  have z5 := hz (k * 3 + 2)
  have o1 : ∀ p q, p < 3 → q < 3 → i * 3 + p ≠ k * 3 + q := fun p q _ _ => by omega
  have PS := Lib.hid (fun (f : Int → Option Int) (hp : PlaceOf f l) => hp.swp hi hk hik)
  have ml := swp_length l i k
  have MS := Lib.hid (fun e => mem_swp hi hk e)
  have g1 : (swp l i k).getD i default = l.getD k default := by rw [swp_get l hi hk, if_neg hik, if_pos rfl]
  have g2 : (swp l i k).getD k default = l.getD i default := by rw [swp_get l hi hk, if_pos rfl]
  have X1 := Lib.hid (own_swp CI h.own hi hk)
  generalize swp l i k = l' at *
  have hfx := (h.okAt hi).1
  have hfy := (h.okAt hk).1
  have hid := h.mp
  obtain ⟨fm, hmf, hpl⟩ := hid
  have f1 := hpl.at_ hi
  have f2 := hpl.at_ hk
  have hxy : (l.getD i default).id ≠ (l.getD k default).id := fun e => hik (hpl.inj hi hk e)
  replace PS := Lib.hid (PS.out fm hpl)
  generalize l.getD i default = x at *
  generalize l.getD k default = y at *
  obtain ⟨xi, xv, xp⟩ := x
  obtain ⟨yi, yv, yp⟩ := y
  dsimp only at s0 s1 s2 t0 t1 t2 f1 f2 hfx hfy hxy
  have X2 := X1.out
  have X3 := fr_swp CI (g := G') (w := w) i k ⟨yi, yv, yp⟩ ⟨xi, xv, xp⟩
  rw [cellsI] at X2 X3
  generalize hln : l.length = n at *
  have hi2 : (i : Int) < (n : Int) := by omega
  have hk2 : (k : Int) < (n : Int) := by omega
  dsimp only at X2 X3
  obtain ⟨W1, hw1⟩ : ∃ W, W = ((((((w.setCell ⟨G', i * 3, none⟩ (.int .i64 yi)).setCell ⟨G', i * 3 + 1, none⟩ (.int .i64 yv)).setCell ⟨G', i * 3 + 2, none⟩ (.int .i64 yp)).setCell ⟨G', k * 3, none⟩ (.int .i64 xi)).setCell ⟨G', k * 3 + 1, none⟩ (.int .i64 xv)).setCell ⟨G', k * 3 + 2, none⟩ (.int .i64 xp)).drew := ⟨_, rfl⟩
  have M1 := Lib.hid (show Mid w W1 G' c' n (ecells CI l') by rw [hw1]; exact ⟨X2.drew, X3.drew⟩)
  have HW1 := Lib.hid hw1
  clear h hz hw1 X1 X2 X3 hpl
  have hGl : G' < W1.heap.size := Nat.lt_of_lt_of_le hG M1.out.fr.size
  have hbl : b < W1.heap.size := Nat.lt_of_lt_of_le hb M1.out.fr.size
  have d1 := (M1.out.fr.cell (p := ⟨b, 1, none⟩) hb (Ne.symm hGb)).trans c1
  have d2 := (M1.out.fr.cell (p := ⟨b, 2, none⟩) hb (Ne.symm hGb)).trans c2
  have d3 : W1.cell? ⟨G', i * 3, none⟩ = some (.int .i64 yi) :=
    (M1.out.own.cellAt (i * 3) (by omega)).trans ((ecells_get CI l' i 0 (by omega) (by decide)).trans (by rw [g1]; rfl))
  have d4 : W1.cell? ⟨G', k * 3, none⟩ = some (.int .i64 xi) :=
    (M1.out.own.cellAt (k * 3) (by omega)).trans ((ecells_get CI l' k 0 (by omega) (by decide)).trans (by rw [g2]; rfl))
  obtain ⟨sv, tv, Wa, Wb, WF, r1, r2, q1, q2, q3, q4, mF, fA, fB, fF⟩ := (show MapF W1.drew Try.prog 3 bm g.toNat fm from hmf.fr M1.out.fr.drew (Ne.symm hGm)).pair (by have := HH.out.ok.g; unfold maxLen; omega) Try.underlying3 Try.underlying43 (zeroI) hfy hfx (Ne.symm hxy) f2 f1 (i : Int) (k : Int)
  obtain ⟨_, rfl, a1⟩ := r1 _ (.inl rfl)
  obtain ⟨_, rfl, a2⟩ := r1 _ (.inr rfl)
  obtain ⟨_, rfl, a3⟩ := r2 _ (.inl rfl)
  obtain ⟨_, rfl, a4⟩ := r2 _ (.inr rfl)
  have HB := Lib.hid (show Blk W1 b 93 #[.func (.func f) #[] #[], .slice (some ⟨G', 0, none⟩) n c', .map (some bm), .int .i64 g] from HH.out.blk.fr M1.out.fr (Ne.symm hGb))
  have hap := HH.out.apart
  have FA := Lib.hid (show Fr (· = bm) W1 Wa from ((Fr.refl (· = bm) W1).drew).trans fA (fun _ _ z => z))
  have FB := Lib.hid (show Fr (· = bm) W1 Wb from ((Fr.refl (· = bm) W1).drew).trans fB (fun _ _ z => z))
  have FF := Lib.hid (show Fr (· = bm) W1 WF from ((Fr.refl (· = bm) W1).drew).trans fF (fun _ _ z => z))
  have HF := Lib.hid (show AI f WF b bm (.slice (some ⟨G', 0, none⟩) n c') l' g from by
    refine ⟨HB.out.fr FF.out (Ne.symm hap.1), ?_, ⟨_, mF, PS.out⟩, HH.out.ok.same MS.out (ml.trans hln.symm), HH.out.ne⟩
    rw [ml]
    exact own_fr M1.out.own FF.out (fun q hq e => hap.2.2 q hq e))
  have hS : ∀ q, q = G' ∨ q = bm → dom b bm (.slice (some ⟨G', 0, none⟩) n c') q := fun q hq => by
    rcases hq with rfl | rfl
    · exact .inr (.inr rfl)
    · exact .inr (.inl rfl)
  have FT := Lib.hid (show Fr (dom b bm (.slice (some ⟨G', 0, none⟩) n c')) w WF from (M1.out.fr.mono (fun q hq => hS q (.inl hq))).trans (FF.out.mono (T := dom b bm (.slice (some ⟨G', 0, none⟩) n c')) (fun q hq => hS q (.inr hq))) (fun _ _ z => z))
  have rd := fun (X : World) (hX : Fr (· = bm) W1 X) => (show X.cell? ⟨b, 1, none⟩ = some (.slice (some ⟨G', 0, none⟩) n c') ∧ X.cell? ⟨b, 2, none⟩ = some (.map (some bm)) ∧ X.cell? ⟨G', i * 3, none⟩ = some (.int .i64 yi) ∧ X.cell? ⟨G', k * 3, none⟩ = some (.int .i64 xi) from
    ⟨(hX.cell (p := ⟨b, 1, none⟩) hbl (Ne.symm hap.1)).trans d1, (hX.cell (p := ⟨b, 2, none⟩) hbl (Ne.symm hap.1)).trans d2, (hX.cell (p := ⟨G', i * 3, none⟩) hGl hGm).trans d3, (hX.cell (p := ⟨G', k * 3, none⟩) hGl hGm).trans d4⟩)
  have R1 := Lib.hid (rd W1 (Fr.refl _ _))
  have R2 := Lib.hid (rd Wa FA.out)
  have R3 := Lib.hid (rd Wb FB.out)
  have A := Lib.hid (And.intro a1 (And.intro a2 (And.intro a3 (And.intro a4 (And.intro q1 (And.intro q2 (And.intro q3 q4)))))))
  clear rd a1 a2 a3 a4 q1 q2 q3 q4 r1 r2 d1 d2 d3 d4 hS hap f1 f2 g1 g2 hxy hfx hfy hmf mF fA fB fF PS MS FA FB FF HB M1 ml
  go_enter Try.func88, Try.ntmps88
  go_wp2
  go_region
  rw [← HW1.out]
  clear c0 c1 c2 c3 s0 s1 s2 t0 t1 t2 z0 z1 z2 z3 z4 z5 o1 HW1
  obtain ⟨d1, d2, d3, d4⟩ := R1.out
  obtain ⟨d5, d6, d7, d8⟩ := R2.out
  obtain ⟨d9, d10, d11, d12⟩ := R3.out
  obtain ⟨a1, a2, a3, a4, q1, q2, q3, q4⟩ := A.out
  go_wp2
  go_region
  go_end0
  exact ⟨rfl, HF.out, FT.out⟩
end Go.Proofs.Ytbndmelkdamgjaa
