/- The heap of items: first. -/
import Derived.Test.YtbndmelkdamgjaaW
import Derived.BigRegion
import Derived.Deep.RegionHeld3
import Derived.Laws.Cover3
namespace Go.Proofs.Ytbndmelkdamgjaa.It
open Go.RowKit Go.Wk

/-- An item. -/
structure IV where
  id : Int
  pr : Int
  since : Int
  seq : Int
instance : Inhabited IV := ⟨⟨0, 0, 0, 0⟩⟩
@[reducible] def valIV (v : IV) : Value := .agg #[.int .i64 v.id, .int .i64 v.pr, .int .i64 v.since, .int .i64 v.seq]
def CI : Cod IV := ⟨4, fun v => [.int .i64 v.id, .int .i64 v.pr, .int .i64 v.since, .int .i64 v.seq], fun _ => rfl, fun _ u hu => by simp at hu; rcases hu with rfl | rfl | rfl | rfl <;> rfl⟩
abbrev AI (f : Nat) := AV (V := IV) 45 84 CI (.func (.func f) #[] #[])
theorem AI.item {f : Nat} {w : World} {b bm : Nat} {v : Value} {l : List (En IV)} {g : Int} (h : AI f w b bm v l g) {k : Nat} (hk : k < l.length) : ∃ G c, v = .slice (some ⟨G, 0, none⟩) l.length c ∧ G < w.heap.size ∧
    w.cell? ⟨G, k * 6, none⟩ = some (.int .i64 (l.getD k default).id) ∧ w.cell? ⟨G, k * 6 + 1, none⟩ = some (.int .i64 (l.getD k default).v.id) ∧ w.cell? ⟨G, k * 6 + 2, none⟩ = some (.int .i64 (l.getD k default).v.pr) ∧ w.cell? ⟨G, k * 6 + 3, none⟩ = some (.int .i64 (l.getD k default).v.since) ∧ w.cell? ⟨G, k * 6 + 4, none⟩ = some (.int .i64 (l.getD k default).v.seq) ∧ w.cell? ⟨G, k * 6 + 5, none⟩ = some (.int .i64 (l.getD k default).p) := by
  obtain ⟨G, c, hv, hG, _, _, _, hc⟩ := AV.item h hk
  exact ⟨G, c, hv, hG, hc 0 _ rfl, hc 1 _ rfl, hc 2 _ rfl, hc 3 _ rfl, hc 4 _ rfl, hc 5 _ rfl⟩

set_option maxRecDepth 100000 in
set_option maxHeartbeats 4000000 in
theorem first_any (f : Nat) (bf : IV → IV → Bool) (B : Bef valIV bf f) (b bm : Nat) (v : Value) (l : List (En IV)) (g : Int) (w : World) (h : AI f w b bm v l g) (i k : Nat) (hi : i < l.length) (hk : k < l.length) :
    Calls Try.prog 85 #[.pointer (some ⟨b, 0, none⟩), .int .i64 i, .int .i64 k] w fun e w' => e = .returned (.bool (fst bf (l.getD i default) (l.getD k default))) ∧ Fr No w w' := by
  obtain ⟨c0, c1, c2, c3⟩ := h.cells
  obtain ⟨G, c, rfl, hG, s0, s1, s2, s3, s4, s5⟩ := h.item hi
  obtain ⟨G', c', e1, _, t0, t1, t2, t3, t4, t5⟩ := h.item hk
  obtain ⟨rfl, rfl⟩ : G' = G ∧ c' = c := by
    injection e1 with e1 _ e3
    injection e1 with e1
    injection e1 with e1
    exact ⟨e1.symm, e3.symm⟩
  clear e1
  have hn := h.ok.n
  have hg := h.ok.g
  have hb := h.blk.lt
  have HB := Lib.hid B
  generalize l.getD i default = x at *
  generalize l.getD k default = y at *
  obtain ⟨xi, ⟨xv1, xv2, xv3, xv4⟩, xp⟩ := x
  obtain ⟨yi, ⟨yv1, yv2, yv3, yv4⟩, yp⟩ := y
  dsimp only at s0 s1 s2 s3 s4 s5 t0 t1 t2 t3 t4 t5
  generalize l.length = n at *
  have hi2 : (i : Int) < (n : Int) := by omega
  have hk2 : (k : Int) < (n : Int) := by omega
  clear h B
  obtain ⟨WA, hwa⟩ : ∃ W, W = ((w.alloc (Obj.cells #[Value.int IntKind.i64 xi, Value.int IntKind.i64 xv1, Value.int IntKind.i64 xv2, Value.int IntKind.i64 xv3, Value.int IntKind.i64 xv4, Value.int IntKind.i64 xp] 84)).alloc (Obj.cells #[Value.int IntKind.i64 yi, Value.int IntKind.i64 yv1, Value.int IntKind.i64 yv2, Value.int IntKind.i64 yv3, Value.int IntKind.i64 yv4, Value.int IntKind.i64 yp] 84)).drew := ⟨_, rfl⟩
  obtain ⟨WB, hwb⟩ : ∃ W, W = ((w.alloc (Obj.cells #[Value.int IntKind.i64 yi, Value.int IntKind.i64 yv1, Value.int IntKind.i64 yv2, Value.int IntKind.i64 yv3, Value.int IntKind.i64 yv4, Value.int IntKind.i64 yp] 84)).alloc (Obj.cells #[Value.int IntKind.i64 xi, Value.int IntKind.i64 xv1, Value.int IntKind.i64 xv2, Value.int IntKind.i64 xv3, Value.int IntKind.i64 xv4, Value.int IntKind.i64 xp] 84)).drew := ⟨_, rfl⟩
  have FA := Lib.hid (show Fr No w WA by rw [hwa]; exact (((Fr.refl No w).alloc _).alloc _).drew)
  have FB := Lib.hid (show Fr No w WB by rw [hwb]; exact (((Fr.refl No w).alloc _).alloc _).drew)
  have BAx := Lib.hid (show Blk WA w.heap.size 84 #[.int .i64 xi, .int .i64 xv1, .int .i64 xv2, .int .i64 xv3, .int .i64 xv4, .int .i64 xp] by rw [hwa]; exact ((Blk.new w 84 _).alloc _).drew)
  have BAy := Lib.hid (show Blk WA (w.heap.size + 1) 84 #[.int .i64 yi, .int .i64 yv1, .int .i64 yv2, .int .i64 yv3, .int .i64 yv4, .int .i64 yp] by
    rw [hwa]
    have := Blk.new (w.alloc (Obj.cells #[Value.int IntKind.i64 xi, Value.int IntKind.i64 xv1, Value.int IntKind.i64 xv2, Value.int IntKind.i64 xv3, Value.int IntKind.i64 xv4, Value.int IntKind.i64 xp] 84)) 84 #[.int .i64 yi, .int .i64 yv1, .int .i64 yv2, .int .i64 yv3, .int .i64 yv4, .int .i64 yp]
    rw [World.size_alloc] at this
    exact this.drew)
  have BBy := Lib.hid (show Blk WB w.heap.size 84 #[.int .i64 yi, .int .i64 yv1, .int .i64 yv2, .int .i64 yv3, .int .i64 yv4, .int .i64 yp] by rw [hwb]; exact ((Blk.new w 84 _).alloc _).drew)
  have BBx := Lib.hid (show Blk WB (w.heap.size + 1) 84 #[.int .i64 xi, .int .i64 xv1, .int .i64 xv2, .int .i64 xv3, .int .i64 xv4, .int .i64 xp] by
    rw [hwb]
    have := Blk.new (w.alloc (Obj.cells #[Value.int IntKind.i64 yi, Value.int IntKind.i64 yv1, Value.int IntKind.i64 yv2, Value.int IntKind.i64 yv3, Value.int IntKind.i64 yv4, Value.int IntKind.i64 yp] 84)) 84 #[.int .i64 xi, .int .i64 xv1, .int .i64 xv2, .int .i64 xv3, .int .i64 xv4, .int .i64 xp]
    rw [World.size_alloc] at this
    exact this.drew)
  have HWA := Lib.hid hwa
  have HWB := Lib.hid hwb
  have C0 := Lib.hid (fun (X : World) (hX : Fr No w X) => (hX.cell (p := ⟨b, 0, none⟩) hb (fun z => z)).trans c0)
  have hent := HB.out.ent
  have HR1 := Lib.hid (fun (X : World) => (show Calls Try.prog f #[.agg #[.int .i64 xv1, .int .i64 xv2, .int .i64 xv3, .int .i64 xv4], .agg #[.int .i64 yv1, .int .i64 yv2, .int .i64 yv3, .int .i64 yv4]] X fun e X' => e = .returned (.bool (bf (⟨xv1, xv2, xv3, xv4⟩ : IV) (⟨yv1, yv2, yv3, yv4⟩ : IV))) ∧ Fr No X X' from HB.out.run _ _ X))
  have HR2 := Lib.hid (fun (X : World) => (show Calls Try.prog f #[.agg #[.int .i64 yv1, .int .i64 yv2, .int .i64 yv3, .int .i64 yv4], .agg #[.int .i64 xv1, .int .i64 xv2, .int .i64 xv3, .int .i64 xv4]] X fun e X' => e = .returned (.bool (bf (⟨yv1, yv2, yv3, yv4⟩ : IV) (⟨xv1, xv2, xv3, xv4⟩ : IV))) ∧ Fr No X X' from HB.out.run _ _ X))
  have HV := Lib.hid (show fst bf ⟨xi, (⟨xv1, xv2, xv3, xv4⟩ : IV), xp⟩ ⟨yi, (⟨yv1, yv2, yv3, yv4⟩ : IV), yp⟩ = (bf (⟨xv1, xv2, xv3, xv4⟩ : IV) (⟨yv1, yv2, yv3, yv4⟩ : IV) || (!bf (⟨yv1, yv2, yv3, yv4⟩ : IV) (⟨xv1, xv2, xv3, xv4⟩ : IV) && decide (xp < yp))) from rfl)
  rw [HV.out]
  clear HV hwa hwb
  go_enter Try.func85, Try.ntmps85
  go_wp2
  go_region
  all_goals
    first
    | (clear c0 c1 c2 c3 s0 s1 s2 s3 s4 s5 t0 t1 t2 t3 t4 t5; rw [← HWA.out]; have FX := FA; have BX := BAx; have BY := BAy; clear HWA HWB FA FB BAx BAy BBx BBy hG; generalize WA = WX at *; generalize w.heap.size + 1 = P8 at *; generalize w.heap.size = P7 at *)
    | (clear c0 c1 c2 c3 s0 s1 s2 s3 s4 s5 t0 t1 t2 t3 t4 t5; rw [← HWB.out]; have FX := FB; have BX := BBx; have BY := BBy; clear HWA HWB FA FB BAx BAy BBx BBy hG; generalize WB = WX at *; generalize w.heap.size + 1 = P7 at *; generalize w.heap.size = P8 at *)
  all_goals
    have SK := Lib.hid (fun (X : World) (hX : Fr No WX X) => (show X.cell? ⟨b, 0, none⟩ = some (.func (.func f) #[] #[]) ∧ X.cell? ⟨P7, 1, none⟩ = some (.int .i64 xv1) ∧ X.cell? ⟨P7, 2, none⟩ = some (.int .i64 xv2) ∧ X.cell? ⟨P7, 3, none⟩ = some (.int .i64 xv3) ∧ X.cell? ⟨P7, 4, none⟩ = some (.int .i64 xv4) ∧ X.cell? ⟨P8, 1, none⟩ = some (.int .i64 yv1) ∧ X.cell? ⟨P8, 2, none⟩ = some (.int .i64 yv2) ∧ X.cell? ⟨P8, 3, none⟩ = some (.int .i64 yv3) ∧ X.cell? ⟨P8, 4, none⟩ = some (.int .i64 yv4) from ⟨C0.out X (FX.out.then0 hX), (BX.out.fr hX (fun z => z)).cell 1, (BX.out.fr hX (fun z => z)).cell 2, (BX.out.fr hX (fun z => z)).cell 3, (BX.out.fr hX (fun z => z)).cell 4, (BY.out.fr hX (fun z => z)).cell 1, (BY.out.fr hX (fun z => z)).cell 2, (BY.out.fr hX (fun z => z)).cell 3, (BY.out.fr hX (fun z => z)).cell 4⟩))
    have k0 := SK.out WX (Fr.refl _ _)
    obtain ⟨k1, k2, k3, k4, k5, k6, k7, k8, k9⟩ := k0
    go_wp2
    go_region_held3 (fun X => X.cell? ⟨b, 0, none⟩ = some (.func (.func f) #[] #[]) ∧ X.cell? ⟨P7, 1, none⟩ = some (.int .i64 xv1) ∧ X.cell? ⟨P7, 2, none⟩ = some (.int .i64 xv2) ∧ X.cell? ⟨P7, 3, none⟩ = some (.int .i64 xv3) ∧ X.cell? ⟨P7, 4, none⟩ = some (.int .i64 xv4) ∧ X.cell? ⟨P8, 1, none⟩ = some (.int .i64 yv1) ∧ X.cell? ⟨P8, 2, none⟩ = some (.int .i64 yv2) ∧ X.cell? ⟨P8, 3, none⟩ = some (.int .i64 yv3) ∧ X.cell? ⟨P8, 4, none⟩ = some (.int .i64 yv4))
      (first | exact ⟨k1, k2, k3, k4, k5, k6, k7, k8, k9⟩ | exact SK.out _ ((Fr.refl No WX).drew.then0 F1.out) | go_keep)
      (((with_reducible refine (HR1.out _).mono ?_); rintro e W1 ⟨rfl, hf⟩; have F1 := Lib.hid hf; clear hf))
  all_goals
    have F2 := Lib.hid ((Fr.refl No WX).drew.then0 F1.out)
    clear F1 k1 k2 k3 k4 k5 k6 k7 k8 k9
    cases hb1 : bf (⟨xv1, xv2, xv3, xv4⟩ : IV) (⟨yv1, yv2, yv3, yv4⟩ : IV)
    · go_wp2
      obtain ⟨k1, k2, k3, k4, k5, k6, k7, k8, k9⟩ := SK.out _ F2.out
      go_region_held3 (fun X => X.cell? ⟨b, 0, none⟩ = some (.func (.func f) #[] #[]) ∧ X.cell? ⟨P7, 1, none⟩ = some (.int .i64 xv1) ∧ X.cell? ⟨P7, 2, none⟩ = some (.int .i64 xv2) ∧ X.cell? ⟨P7, 3, none⟩ = some (.int .i64 xv3) ∧ X.cell? ⟨P7, 4, none⟩ = some (.int .i64 xv4) ∧ X.cell? ⟨P8, 1, none⟩ = some (.int .i64 yv1) ∧ X.cell? ⟨P8, 2, none⟩ = some (.int .i64 yv2) ∧ X.cell? ⟨P8, 3, none⟩ = some (.int .i64 yv3) ∧ X.cell? ⟨P8, 4, none⟩ = some (.int .i64 yv4))
        (first | exact ⟨k1, k2, k3, k4, k5, k6, k7, k8, k9⟩ | exact SK.out _ ((F2.out.drew).then0 F3.out) | go_keep)
        (((with_reducible refine (HR2.out _).mono ?_); rintro e W3 ⟨rfl, hf⟩; have F3 := Lib.hid hf; clear hf))
      have F4 := Lib.hid ((F2.out.drew).then0 F3.out)
      clear F3 k1 k2 k3 k4 k5 k6 k7 k8 k9
      cases hb2 : bf (⟨yv1, yv2, yv3, yv4⟩ : IV) (⟨xv1, xv2, xv3, xv4⟩ : IV)
      · have q7 := (BX.out.fr F4.out (fun z => z)).cell 5
        have q8 := (BY.out.fr F4.out (fun z => z)).cell 5
        simp only [List.getElem?_toArray, List.getElem?_cons_zero, List.getElem?_cons_succ] at q7 q8
        go_wp2
        go_ret
        exact ⟨by simp [hb1, hb2], FX.out.then0 F4.out⟩
      · go_wp2
        go_ret
        exact ⟨by simp [hb1, hb2], FX.out.then0 F4.out⟩
    · go_wp2
      go_ret
      exact ⟨by simp [hb1], FX.out.then0 F2.out⟩
end Go.Proofs.Ytbndmelkdamgjaa.It
