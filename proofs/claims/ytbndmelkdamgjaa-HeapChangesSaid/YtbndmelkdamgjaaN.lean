/- The heap of integers: take. -/
import Derived.Test.YtbndmelkdamgjaaM
namespace Go.Proofs.Ytbndmelkdamgjaa
open Go.RowKit Go.Wk

theorem cellsI1 (w : World) (g i : Nat) (x : En Int) : w.setCells g (i * CI.s) (ecell CI x) = (((w.setCell ⟨g, i * 3, none⟩ (.int .i64 x.id)).setCell ⟨g, i * 3 + 1, none⟩ (.int .i64 x.v)).setCell ⟨g, i * 3 + 2, none⟩ (.int .i64 x.p)) := rfl
theorem fr_put {V : Type} (C : Cod V) {g : Nat} {w : World} (i : Nat) (x : En V) : Fr (· = g) w (w.setCells g (i * C.s) (ecell C x)) := fr_setCells (S := (· = g)) rfl _ _ (Fr.refl _ w)
/-- A row of entries known by its block; a frame. -/
structure RowI (w : World) (G c n : Nat) (l : List (En Int)) : Prop where
  own : w.ownsRow 0 95 CI.s (.slice (some ⟨G, 0, none⟩) n c) n (ecells CI l)
theorem RowI.cell {w : World} {G c n : Nat} {l : List (En Int)} (h : RowI w G c n l) (hl : l.length = n) {i : Nat} (hi : i < n) : w.cell? ⟨G, i * 3, none⟩ = some (.int .i64 (l.getD i default).id) ∧ w.cell? ⟨G, i * 3 + 1, none⟩ = some (.int .i64 (l.getD i default).v) ∧ w.cell? ⟨G, i * 3 + 2, none⟩ = some (.int .i64 (l.getD i default).p) := by
  have hs : CI.s = 3 := rfl
  have e := fun (j : Nat) (hj : j < 3) => (h.own.cellAt (i * CI.s + j) (by rw [hs]; omega)).trans (ecells_get CI l i j (by omega) hj)
  exact ⟨e 0 (by omega), e 1 (by omega), e 2 (by omega)⟩
theorem RowI.frozen {w : World} {G c n : Nat} {l : List (En Int)} (h : RowI w G c n l) (o : Nat) : w.frozen? ⟨G, o, none⟩ = false := h.own.frozenAt o

set_option maxRecDepth 100000 in
set_option maxHeartbeats 4000000 in
theorem take_any (f : Nat) (bf : Int → Int → Bool) (B : Bef (Value.int .i64) bf f) (b bm : Nat) (v : Value) (l : List (En Int)) (g : Int) (w : World) (h : AI f w b bm v l g) (hh : HP bf l) (i : Nat) (hi : i < l.length) :
    Calls Try.prog 70 #[.pointer (some ⟨b, 0, none⟩), .int .i64 i] w fun e w' => e = .returned (.tuple #[]) ∧ ∃ v' l', v'.ownBlock = v.ownBlock ∧ AI f w' b bm v' l' g ∧ HP bf l' ∧ (∀ e, e ∈ l' ↔ e ∈ cut l i) ∧ l'.length = l.length - 1 ∧ Fr (dom b bm v) w w' := by
  obtain ⟨c0, c1, c2, c3⟩ := h.cells
  obtain ⟨G, c, rfl, hG, hz, hGb, hGm, _⟩ := AV.item h hi
  have hap := h.apart
  obtain ⟨fm, hmf, hpl⟩ := h.mp
  have hn := h.ok.n
  have hg := h.ok.g
  have hb := h.blk.lt
  have HH := Lib.hid h
  have HPL := Lib.hid hpl
  have HB := Lib.hid B
  have HHP := Lib.hid hh
  have HI := Lib.hid hi
  obtain ⟨n, hnl⟩ : ∃ n, n = l.length - 1 := ⟨_, rfl⟩
  have hln : l.length = n + 1 := by omega
  have OK := Lib.hid (h.ok.cut hpl hi)
  obtain ⟨_, _, e0, _, s0, s1, s2⟩ := h.item hi
  obtain ⟨_, _, e1, _, t0, t1, t2⟩ := h.item (k := n) (by omega)
  injection e0 with e0 _ ec0
  injection e0 with e0
  injection e0 with e0
  subst e0
  subst ec0
  injection e1 with e1 _ ec1
  injection e1 with e1
  injection e1 with e1
  subst e1
  subst ec1
  have f1 := hpl.at_ hi
  have f2 := hpl.at_ (i := n) (by omega)
  have hfx := (h.okAt hi).1
  have hfy := (h.okAt (k := n) (by omega)).1
  have hS : ∀ q, q = G ∨ q = bm ∨ q = b → dom b bm (.slice (some ⟨G, 0, none⟩) l.length c) q := fun q hq => by
    rcases hq with rfl | rfl | rfl
    · exact .inr (.inr rfl)
    · exact .inr (.inl rfl)
    · exact .inl rfl
  have HS := Lib.hid hS
  -- the map without the id
  obtain ⟨w2, hdel, M2, hf2⟩ := (hmf.fr (Fr.refl No w).drew (fun z => z)).del Try.underlying3 Try.underlying43 hfx 0
  have F2 := Lib.hid (show Fr (· = bm) w w2 from ((Fr.refl (· = bm) w).drew).trans hf2 (fun _ _ z => z))
  have B2 := Lib.hid (h.blk.fr F2.out (Ne.symm hap.1))
  have O2 := Lib.hid (RowI.mk (own_fr h.own F2.out (fun q hq e => hap.2.2 q hq e)))
  have d1 := B2.out.cell 1
  have d2 := B2.out.cell 2
  simp only [List.getElem?_toArray, List.getElem?_cons_zero, List.getElem?_cons_succ] at d1 d2
  obtain ⟨y0, y1, y2⟩ := O2.out.cell rfl (i := n) (by omega)
  obtain ⟨v0, v1, v2⟩ := O2.out.cell rfl hi
  have z0 := O2.out.frozen (i * 3)
  have z1 := O2.out.frozen (i * 3 + 1)
  have z2 := O2.out.frozen (i * 3 + 2)
  have hwr2 : (l.length : Int) - 1 = (n : Int) := by omega
  have hil : (i : Int) < (l.length : Int) := by omega
  have hnl2 : (n : Int) < (l.length : Int) := by omega
  have hnl3 : n ≤ l.length := by omega
  have hcl : l.length ≤ c := own_cap h.own
  rcases Nat.lt_or_ge i n with hin | hin
  · have hin2 : (i : Int) < (n : Int) := by omega
    have P1 := Lib.hid (show PlaceOf _ (cut l i) from hpl.cut_lt (i := i) (by omega))
    have DN := Lib.hid (hh.cut B.weak (i := i) (by omega))
    rw [← hnl] at P1
    have O3 := Lib.hid (RowI.mk (own_put CI O2.out.own hi (l.getD n default)))
    have F3 := Lib.hid (fr_put CI (g := G) (w := w2) i (l.getD n default))
    have E3 := Lib.hid (getD_set l i i (l.getD n default) hi)
    have OZ := Lib.hid (fun (X : World) (hX : RowI X G c l.length (l.set i (l.getD n default))) => show RowI (X.setCells G (n * CI.s) (ecell CI ⟨0, 0, 0⟩)) G c n (cut l i) from by
      have a := own_cut CI (k := n) (z := ⟨0, 0, 0⟩) (l := l.set i (l.getD n default)) (w := X) (by rw [List.length_set]; exact hX.own) (by rw [List.length_set]; omega)
      have e := cut_set l i ⟨0, 0, 0⟩
      rw [← hnl] at e
      rw [e] at a
      exact ⟨a⟩)
    have hxy : (l.getD n default).id ≠ (l.getD i default).id := fun e => by have := hpl.inj (i := n) (by omega) hi e; omega
    obtain ⟨w3, hw3⟩ : ∃ w3, w3 = (w2.setCells G (i * CI.s) (ecell CI (l.getD n default))).drew := ⟨_, rfl⟩
    have M3 := Lib.hid (M2.fr (show Fr (· = G) w2 w3.drew by rw [hw3]; exact F3.out.drew.drew) (Ne.symm hGm))
    replace F3 := Lib.hid (show Fr (· = G) w2 w3 by rw [hw3]; exact F3.out.drew)
    replace O3 := Lib.hid (show RowI w3 G c l.length (l.set i (l.getD n default)) by rw [hw3]; exact ⟨O3.out.own.drew⟩)
    have B3 := Lib.hid (B2.out.fr F3.out (Ne.symm hGb))
    rw [cellsI1] at hw3
    obtain ⟨x0, _, _⟩ := O3.out.cell (by simp) hi
    rw [E3.out, if_pos rfl] at x0
    obtain ⟨w5, hput, M5, hf5⟩ := M3.out.turn (by have := h.ok.g; unfold maxLen; omega) Try.underlying3 Try.underlying43 zeroI hfy (i := n) (by rw [if_neg hxy]; exact f2) (i : Int)
    have F5 := Lib.hid (show Fr (· = bm) w3 w5 from ((Fr.refl (· = bm) w3).drew).trans hf5 (fun _ _ z => z))
    have B5 := Lib.hid (B3.out.fr F5.out (Ne.symm hap.1))
    have O5 := Lib.hid (RowI.mk (own_fr O3.out.own F5.out (fun q hq e => hap.2.2 q hq e)))
    have MM5 := Lib.hid M5
    clear M2 M5 hf2 hf5 E3 hxy f1 f2 hfx hfy hpl hmf h hh B hz
    have g1 := B3.out.cell 1
    have g2 := B3.out.cell 2
    have k1 := B5.out.cell 1
    have k3 := B5.out.frozen 1
    simp only [List.getElem?_toArray, List.getElem?_cons_zero, List.getElem?_cons_succ] at g1 g2 k1
    obtain ⟨L0, L1, L2⟩ := O5.out.cell (by simp) (i := n) (by omega)
    have K0 := O5.out.frozen (n * 3)
    have K1 := O5.out.frozen (n * 3 + 1)
    have K2 := O5.out.frozen (n * 3 + 2)
    have O6 := Lib.hid (OZ.out w5 O5.out)
    have F6 := Lib.hid (fr_put CI (g := G) (w := w5) n (⟨0, 0, 0⟩ : En Int))
    obtain ⟨w6, hw6⟩ : ∃ w6, w6 = w5.setCells G (n * CI.s) (ecell CI ⟨0, 0, 0⟩) := ⟨_, rfl⟩
    rw [← hw6] at O6 F6
    rw [cellsI1] at hw6
    have B6 := Lib.hid (B5.out.fr F6.out (Ne.symm hGb))
    dsimp only at hw6
    obtain ⟨w7, hw7⟩ : ∃ w7, w7 = w6.setCell ⟨b, 1, none⟩ (.slice (some ⟨G, 0, none⟩) n c) := ⟨_, rfl⟩
    have F7 := Lib.hid (show Fr (· = b) w6 w7 by rw [hw7]; exact (Fr.refl (· = b) w6).setCell (.inr rfl) _)
    have B7 := Lib.hid (show Blk w7 b 93 #[.func (.func f) #[] #[], .slice (some ⟨G, 0, none⟩) n c, .map (some bm), .int .i64 g] by
      rw [hw7]
      have := B6.out.set_ 1 (.slice (some ⟨G, 0, none⟩) n c)
      simpa using this)
    have hcn : (cut l i).length = n := by rw [cut_len]; exact hnl.symm
    have H7 := Lib.hid (show AI f w7 b bm (.slice (some ⟨G, 0, none⟩) n c) (cut l i) g from by
      refine ⟨B7.out, ?_, ⟨_, (MM5.out.fr F6.out (Ne.symm hGm)).fr F7.out hap.1, P1.out⟩, OK.out, HH.out.ne⟩
      rw [hcn]
      exact own_fr O6.out.own F7.out (fun q hq e => hap.2.1 q hq e))
    have F17 := Lib.hid (show Fr (dom b bm (.slice (some ⟨G, 0, none⟩) l.length c)) w w7 from
      ((((F2.out.mono (fun q (hq : q = bm) => HS.out q (.inr (.inl hq)))).trans (F3.out.mono (fun q (hq : q = G) => HS.out q (.inl hq))) (fun _ _ z => z)).trans (F5.out.mono (fun q (hq : q = bm) => HS.out q (.inr (.inl hq)))) (fun _ _ z => z)).trans (F6.out.mono (fun q (hq : q = G) => HS.out q (.inl hq))) (fun _ _ z => z)).trans (F7.out.mono (fun q (hq : q = b) => HS.out q (.inr (.inr hq)))) (fun _ _ z => z))
    have DW := Lib.hid (down_any f bf HB.out b bm _ _ g w7 H7.out i (by rw [hcn]; exact hin) DN.out)
    have HW7 := Lib.hid hw7
    clear hw7 F2 F3 F5 F6 F7 B2 B3 B5 B6 B7 O2 O3 O5 O6 OZ MM5 P1 DN hS hap
    have HW3 := Lib.hid hw3
    have HW6 := Lib.hid hw6
    generalize l.getD i default = x at *
    generalize l.getD n default = y at *
    obtain ⟨xi, xv, xp⟩ := x
    obtain ⟨yi, yv, yp⟩ := y
    dsimp only at s0 s1 s2 t0 t1 t2 y0 y1 y2 x0 hput hdel HW3
    obtain ⟨m, hm⟩ : ∃ m, m = l.length := ⟨_, rfl⟩
    rw [← hm] at c1 d1 g1 k1 hwr2 hil hnl2 hnl3 hcl
    have hmg : (m : Int) ≤ 1000000000 := by omega
    have HM := Lib.hid hm
    have HNL := Lib.hid hnl
    clear hw3 hw6 hm hnl hln
    go_enter Try.func70, Try.ntmps70
    go_wp2
    go_region
    go_wp2
    go_region
    rw [← HW3.out]
    go_wp2
    go_region
    clear v0 v1 v2 c0 c1 c2 c3 d1 d2 g1 g2 s0 s1 s2 t0 t1 t2 y0 y1 y2 x0 z0 z1 z2 hput hdel
    go_wp2_with fail
    rw [← HW6.out, ← HW7.out]
    refine DW.out.mono ?_
    rintro e w8 ⟨rfl, l8, h8⟩
    have UP := Lib.hid (up_any f bf HB.out b bm _ _ g w8 h8.at_ i (by rw [h8.len, hcn]; exact hin) h8.good)
    have H8 := Lib.hid h8
    clear h8
    go_wp2_with fail
    refine UP.out.mono ?_
    rintro e w9 ⟨rfl, l9, h9⟩
    have H9 := Lib.hid h9
    clear h9
    go_wp2
    go_end0
    exact ⟨rfl, .slice (some ⟨G, 0, none⟩) n c, l9, rfl, H9.out.at_, H9.out.good, fun e => (H9.out.mem e).trans (H8.out.mem e), by rw [H9.out.len, H8.out.len, hcn, HNL.out], (F17.out.trans H8.out.fr (fun _ _ z => z)).trans H9.out.fr (fun _ _ z => z)⟩
  · obtain rfl : i = n := by omega
    have P1 := Lib.hid (show PlaceOf _ (cut l i) from by have := hpl.cut_end (by omega); rw [← hnl] at this; exact this)
    have DN := Lib.hid (show HP bf (cut l i) by have := hh.cut_last (by omega); rw [← hnl] at this; exact this)
    have e1 := cut_set_last l ⟨0, 0, 0⟩
    rw [← hnl] at e1
    have O6 := Lib.hid (show RowI (w2.setCells G (i * CI.s) (ecell CI ⟨0, 0, 0⟩)) G c i (cut l i) from by
      have a := own_cut CI (k := i) (z := ⟨0, 0, 0⟩) O2.out.own hi
      rw [e1] at a
      exact ⟨a⟩)
    have F6 := Lib.hid (fr_put CI (g := G) (w := w2) i (⟨0, 0, 0⟩ : En Int))
    obtain ⟨w6, hw6⟩ : ∃ w6, w6 = w2.setCells G (i * CI.s) (ecell CI ⟨0, 0, 0⟩) := ⟨_, rfl⟩
    rw [← hw6] at O6 F6
    rw [cellsI1] at hw6
    have B6 := Lib.hid (B2.out.fr F6.out (Ne.symm hGb))
    have b3 := B2.out.frozen 1
    dsimp only at hw6
    obtain ⟨w7, hw7⟩ : ∃ w7, w7 = w6.setCell ⟨b, 1, none⟩ (.slice (some ⟨G, 0, none⟩) i c) := ⟨_, rfl⟩
    have F7 := Lib.hid (show Fr (· = b) w6 w7 by rw [hw7]; exact (Fr.refl (· = b) w6).setCell (.inr rfl) _)
    have B7 := Lib.hid (show Blk w7 b 93 #[.func (.func f) #[] #[], .slice (some ⟨G, 0, none⟩) i c, .map (some bm), .int .i64 g] by
      rw [hw7]
      have := B6.out.set_ 1 (.slice (some ⟨G, 0, none⟩) i c)
      simpa using this)
    have hcn : (cut l i).length = i := by rw [cut_len]; exact hnl.symm
    have H7 := Lib.hid (show AI f w7 b bm (.slice (some ⟨G, 0, none⟩) i c) (cut l i) g from by
      refine ⟨B7.out, ?_, ⟨_, (M2.fr F6.out (Ne.symm hGm)).fr F7.out hap.1, P1.out⟩, OK.out, HH.out.ne⟩
      rw [hcn]
      exact own_fr O6.out.own F7.out (fun q hq e => hap.2.1 q hq e))
    have F17 := Lib.hid (show Fr (dom b bm (.slice (some ⟨G, 0, none⟩) l.length c)) w w7 from
      ((F2.out.mono (fun q (hq : q = bm) => HS.out q (.inr (.inl hq)))).trans (F6.out.mono (fun q (hq : q = G) => HS.out q (.inl hq))) (fun _ _ z => z)).trans (F7.out.mono (fun q (hq : q = b) => HS.out q (.inr (.inr hq)))) (fun _ _ z => z))
    have HW6 := Lib.hid hw6
    have HW7 := Lib.hid hw7
    clear hw7 hw6 F2 F6 F7 B2 B6 B7 O2 O6 P1 hS hap M2 hf2 f1 f2 hfx hfy hpl hmf h hh B hz e1 y0 y1 y2 t0 t1 t2
    generalize l.getD i default = x at *
    obtain ⟨xi, xv, xp⟩ := x
    dsimp only at s0 s1 s2 v0 v1 v2 hdel
    obtain ⟨m, hm⟩ : ∃ m, m = l.length := ⟨_, rfl⟩
    rw [← hm] at c1 d1 hwr2 hil hnl2 hnl3 hcl
    have hmg : (m : Int) ≤ 1000000000 := by omega
    have HM := Lib.hid hm
    have HNL := Lib.hid hnl
    clear hm hnl hln
    go_enter Try.func70, Try.ntmps70
    go_wp2
    go_region
    go_wp2
    rw [← HW6.out, ← HW7.out]
    go_end0
    exact ⟨rfl, .slice (some ⟨G, 0, none⟩) i c, cut l i, rfl, H7.out, DN.out, fun e => Iff.rfl, by rw [hcn, HNL.out], F17.out⟩
end Go.Proofs.Ytbndmelkdamgjaa
