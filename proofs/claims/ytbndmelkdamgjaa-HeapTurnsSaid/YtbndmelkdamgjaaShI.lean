/- The heap of pairs of strings: first. -/
import Derived.Test.YtbndmelkdamgjaaW
import Derived.BigRegion
import Derived.Deep.RegionHeld3
import Derived.Laws.Cover3
namespace Go.Proofs.Ytbndmelkdamgjaa.Sh
open Go.RowKit Go.Wk

/-- Two strings. -/
structure SV where
  a : ByteArray
  b : ByteArray
instance : Inhabited SV := ⟨⟨ByteArray.empty, ByteArray.empty⟩⟩
@[reducible] def valSV (v : SV) : Value := .agg #[.string v.a, .string v.b]
def CI : Cod SV := ⟨2, fun v => [.string v.a, .string v.b], fun _ => rfl, fun _ u hu => by simp at hu; rcases hu with rfl | rfl <;> rfl⟩
abbrev AI (f : Nat) := AV (V := SV) 98 100 CI (.func (.func f) #[] #[])
theorem AI.item {f : Nat} {w : World} {b bm : Nat} {v : Value} {l : List (En SV)} {g : Int} (h : AI f w b bm v l g) {k : Nat} (hk : k < l.length) : ∃ G c, v = .slice (some ⟨G, 0, none⟩) l.length c ∧ G < w.heap.size ∧
    w.cell? ⟨G, k * 4, none⟩ = some (.int .i64 (l.getD k default).id) ∧ w.cell? ⟨G, k * 4 + 1, none⟩ = some (.string (l.getD k default).v.a) ∧ w.cell? ⟨G, k * 4 + 2, none⟩ = some (.string (l.getD k default).v.b) ∧ w.cell? ⟨G, k * 4 + 3, none⟩ = some (.int .i64 (l.getD k default).p) := by
  obtain ⟨G, c, hv, hG, _, _, _, hc⟩ := AV.item h hk
  exact ⟨G, c, hv, hG, hc 0 _ rfl, hc 1 _ rfl, hc 2 _ rfl, hc 3 _ rfl⟩

set_option maxRecDepth 100000 in
set_option maxHeartbeats 4000000 in
theorem first_any (f : Nat) (bf : SV → SV → Bool) (B : Bef valSV bf f) (b bm : Nat) (v : Value) (l : List (En SV)) (g : Int) (w : World) (h : AI f w b bm v l g) (i k : Nat) (hi : i < l.length) (hk : k < l.length) :
    Calls Try.prog 90 #[.pointer (some ⟨b, 0, none⟩), .int .i64 i, .int .i64 k] w fun e w' => e = .returned (.bool (fst bf (l.getD i default) (l.getD k default))) ∧ Fr No w w' := by
  obtain ⟨c0, c1, c2, c3⟩ := h.cells
  obtain ⟨G, c, rfl, hG, s0, s1, s2, s3⟩ := h.item hi
  obtain ⟨G', c', e1, _, t0, t1, t2, t3⟩ := h.item hk
  obtain ⟨rfl, rfl⟩ : G' = G ∧ c' = c := by
    injection e1 with e1 _ e3
    injection e1 with e1
    injection e1 with e1
    exact ⟨e1.symm, e3.symm⟩
  clear e1
  have hn := h.ok.n
  have hg := h.ok.g
  have hb := h.blk.lt
  have HB := Lib.hid B
  generalize l.getD i default = x at *
  generalize l.getD k default = y at *
  obtain ⟨xi, ⟨xv1, xv2⟩, xp⟩ := x
  obtain ⟨yi, ⟨yv1, yv2⟩, yp⟩ := y
  dsimp only at s0 s1 s2 s3 t0 t1 t2 t3
  generalize l.length = n at *
  have hi2 : (i : Int) < (n : Int) := by omega
  have hk2 : (k : Int) < (n : Int) := by omega
  clear h B
  obtain ⟨WA, hwa⟩ : ∃ W, W = ((w.alloc (Obj.cells #[Value.int IntKind.i64 xi, Value.string xv1, Value.string xv2, Value.int IntKind.i64 xp] 100)).alloc (Obj.cells #[Value.int IntKind.i64 yi, Value.string yv1, Value.string yv2, Value.int IntKind.i64 yp] 100)).drew := ⟨_, rfl⟩
  obtain ⟨WB, hwb⟩ : ∃ W, W = ((w.alloc (Obj.cells #[Value.int IntKind.i64 yi, Value.string yv1, Value.string yv2, Value.int IntKind.i64 yp] 100)).alloc (Obj.cells #[Value.int IntKind.i64 xi, Value.string xv1, Value.string xv2, Value.int IntKind.i64 xp] 100)).drew := ⟨_, rfl⟩
  have FA := Lib.hid (show Fr No w WA by rw [hwa]; exact (((Fr.refl No w).alloc _).alloc _).drew)
  have FB := Lib.hid (show Fr No w WB by rw [hwb]; exact (((Fr.refl No w).alloc _).alloc _).drew)
  have BAx := Lib.hid (show Blk WA w.heap.size 100 #[.int .i64 xi, .string xv1, .string xv2, .int .i64 xp] by rw [hwa]; exact ((Blk.new w 100 _).alloc _).drew)
  have BAy := Lib.hid (show Blk WA (w.heap.size + 1) 100 #[.int .i64 yi, .string yv1, .string yv2, .int .i64 yp] by
    rw [hwa]
    have := Blk.new (w.alloc (Obj.cells #[Value.int IntKind.i64 xi, Value.string xv1, Value.string xv2, Value.int IntKind.i64 xp] 100)) 100 #[.int .i64 yi, .string yv1, .string yv2, .int .i64 yp]
    rw [World.size_alloc] at this
    exact this.drew)
  have BBy := Lib.hid (show Blk WB w.heap.size 100 #[.int .i64 yi, .string yv1, .string yv2, .int .i64 yp] by rw [hwb]; exact ((Blk.new w 100 _).alloc _).drew)
  have BBx := Lib.hid (show Blk WB (w.heap.size + 1) 100 #[.int .i64 xi, .string xv1, .string xv2, .int .i64 xp] by
    rw [hwb]
    have := Blk.new (w.alloc (Obj.cells #[Value.int IntKind.i64 yi, Value.string yv1, Value.string yv2, Value.int IntKind.i64 yp] 100)) 100 #[.int .i64 xi, .string xv1, .string xv2, .int .i64 xp]
    rw [World.size_alloc] at this
    exact this.drew)
  have HWA := Lib.hid hwa
  have HWB := Lib.hid hwb
  have C0 := Lib.hid (fun (X : World) (hX : Fr No w X) => (hX.cell (p := ⟨b, 0, none⟩) hb (fun z => z)).trans c0)
  have hent := HB.out.ent
  have HR1 := Lib.hid (fun (X : World) => (show Calls Try.prog f #[.agg #[.string xv1, .string xv2], .agg #[.string yv1, .string yv2]] X fun e X' => e = .returned (.bool (bf (⟨xv1, xv2⟩ : SV) (⟨yv1, yv2⟩ : SV))) ∧ Fr No X X' from HB.out.run _ _ X))
  have HR2 := Lib.hid (fun (X : World) => (show Calls Try.prog f #[.agg #[.string yv1, .string yv2], .agg #[.string xv1, .string xv2]] X fun e X' => e = .returned (.bool (bf (⟨yv1, yv2⟩ : SV) (⟨xv1, xv2⟩ : SV))) ∧ Fr No X X' from HB.out.run _ _ X))
  have HV := Lib.hid (show fst bf ⟨xi, (⟨xv1, xv2⟩ : SV), xp⟩ ⟨yi, (⟨yv1, yv2⟩ : SV), yp⟩ = (bf (⟨xv1, xv2⟩ : SV) (⟨yv1, yv2⟩ : SV) || (!bf (⟨yv1, yv2⟩ : SV) (⟨xv1, xv2⟩ : SV) && decide (xp < yp))) from rfl)
  rw [HV.out]
  clear HV hwa hwb
  go_enter Try.func90, Try.ntmps90
  go_wp2
  go_region
  all_goals
    first
    | (clear c0 c1 c2 c3 s0 s1 s2 s3 t0 t1 t2 t3; rw [← HWA.out]; have FX := FA; have BX := BAx; have BY := BAy; clear HWA HWB FA FB BAx BAy BBx BBy hG; generalize WA = WX at *; generalize w.heap.size + 1 = P8 at *; generalize w.heap.size = P7 at *)
    | (clear c0 c1 c2 c3 s0 s1 s2 s3 t0 t1 t2 t3; rw [← HWB.out]; have FX := FB; have BX := BBx; have BY := BBy; clear HWA HWB FA FB BAx BAy BBx BBy hG; generalize WB = WX at *; generalize w.heap.size + 1 = P7 at *; generalize w.heap.size = P8 at *)
  all_goals
    have SK := Lib.hid (fun (X : World) (hX : Fr No WX X) => (show X.cell? ⟨b, 0, none⟩ = some (.func (.func f) #[] #[]) ∧ X.cell? ⟨P7, 1, none⟩ = some (.string xv1) ∧ X.cell? ⟨P7, 2, none⟩ = some (.string xv2) ∧ X.cell? ⟨P8, 1, none⟩ = some (.string yv1) ∧ X.cell? ⟨P8, 2, none⟩ = some (.string yv2) from ⟨C0.out X (FX.out.then0 hX), (BX.out.fr hX (fun z => z)).cell 1, (BX.out.fr hX (fun z => z)).cell 2, (BY.out.fr hX (fun z => z)).cell 1, (BY.out.fr hX (fun z => z)).cell 2⟩))
    have k0 := SK.out WX (Fr.refl _ _)
    obtain ⟨k1, k2, k3, k4, k5⟩ := k0
    go_wp2
    go_region_held3 (fun X => X.cell? ⟨b, 0, none⟩ = some (.func (.func f) #[] #[]) ∧ X.cell? ⟨P7, 1, none⟩ = some (.string xv1) ∧ X.cell? ⟨P7, 2, none⟩ = some (.string xv2) ∧ X.cell? ⟨P8, 1, none⟩ = some (.string yv1) ∧ X.cell? ⟨P8, 2, none⟩ = some (.string yv2))
      (first | exact ⟨k1, k2, k3, k4, k5⟩ | exact SK.out _ ((Fr.refl No WX).drew.then0 F1.out) | go_keep)
      (((with_reducible refine (HR1.out _).mono ?_); rintro e W1 ⟨rfl, hf⟩; have F1 := Lib.hid hf; clear hf))
  all_goals
    have F2 := Lib.hid ((Fr.refl No WX).drew.then0 F1.out)
    clear F1 k1 k2 k3 k4 k5
    cases hb1 : bf (⟨xv1, xv2⟩ : SV) (⟨yv1, yv2⟩ : SV)
    · go_wp2
      obtain ⟨k1, k2, k3, k4, k5⟩ := SK.out _ F2.out
      go_region_held3 (fun X => X.cell? ⟨b, 0, none⟩ = some (.func (.func f) #[] #[]) ∧ X.cell? ⟨P7, 1, none⟩ = some (.string xv1) ∧ X.cell? ⟨P7, 2, none⟩ = some (.string xv2) ∧ X.cell? ⟨P8, 1, none⟩ = some (.string yv1) ∧ X.cell? ⟨P8, 2, none⟩ = some (.string yv2))
        (first | exact ⟨k1, k2, k3, k4, k5⟩ | exact SK.out _ ((F2.out.drew).then0 F3.out) | go_keep)
        (((with_reducible refine (HR2.out _).mono ?_); rintro e W3 ⟨rfl, hf⟩; have F3 := Lib.hid hf; clear hf))
      have F4 := Lib.hid ((F2.out.drew).then0 F3.out)
      clear F3 k1 k2 k3 k4 k5
      cases hb2 : bf (⟨yv1, yv2⟩ : SV) (⟨xv1, xv2⟩ : SV)
      · have q7 := (BX.out.fr F4.out (fun z => z)).cell 3
        have q8 := (BY.out.fr F4.out (fun z => z)).cell 3
        simp only [List.getElem?_toArray, List.getElem?_cons_zero, List.getElem?_cons_succ] at q7 q8
        go_wp2
        go_ret
        exact ⟨by simp [hb1, hb2], FX.out.then0 F4.out⟩
      · go_wp2
        go_ret
        exact ⟨by simp [hb1, hb2], FX.out.then0 F4.out⟩
    · go_wp2
      go_ret
      exact ⟨by simp [hb1], FX.out.then0 F2.out⟩
end Go.Proofs.Ytbndmelkdamgjaa.Sh
