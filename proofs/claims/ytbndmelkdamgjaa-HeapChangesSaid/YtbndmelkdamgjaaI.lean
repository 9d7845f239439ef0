/- The heap of integers: first. -/
import Derived.Test.YtbndmelkdamgjaaAv
import Derived.BigRegion
import Derived.Deep.RegionHeld3
import Derived.Laws.Cover3
namespace Go.Proofs.Ytbndmelkdamgjaa
open Go.RowKit Go.Wk

def CI : Cod Int := ⟨1, fun v => [.int .i64 v], fun _ => rfl, fun _ u hu => by simp at hu; subst hu; rfl⟩
abbrev AI (f : Nat) := AV (V := Int) 93 95 CI (.func (.func f) #[] #[])
theorem AI.item {f : Nat} {w : World} {b bm : Nat} {v : Value} {l : List (En Int)} {g : Int} (h : AI f w b bm v l g) {k : Nat} (hk : k < l.length) : ∃ G c, v = .slice (some ⟨G, 0, none⟩) l.length c ∧ G < w.heap.size ∧
    w.cell? ⟨G, k * 3, none⟩ = some (.int .i64 (l.getD k default).id) ∧ w.cell? ⟨G, k * 3 + 1, none⟩ = some (.int .i64 (l.getD k default).v) ∧ w.cell? ⟨G, k * 3 + 2, none⟩ = some (.int .i64 (l.getD k default).p) := by
  obtain ⟨G, c, hv, hG, _, _, _, hc⟩ := AV.item h hk
  exact ⟨G, c, hv, hG, hc 0 _ rfl, hc 1 _ rfl, hc 2 _ rfl⟩

set_option maxRecDepth 100000 in
set_option maxHeartbeats 4000000 in
theorem first_any (f : Nat) (bf : Int → Int → Bool) (B : Bef (Value.int .i64) bf f) (b bm : Nat) (v : Value) (l : List (En Int)) (g : Int) (w : World) (h : AI f w b bm v l g) (i k : Nat) (hi : i < l.length) (hk : k < l.length) :
    Calls Try.prog 87 #[.pointer (some ⟨b, 0, none⟩), .int .i64 i, .int .i64 k] w fun e w' => e = .returned (.bool (fst bf (l.getD i default) (l.getD k default))) ∧ Fr No w w' := by
  obtain ⟨c0, c1, c2, c3⟩ := h.cells
  obtain ⟨G, c, rfl, hG, s0, s1, s2⟩ := h.item hi
  obtain ⟨G', c', e1, _, t0, t1, t2⟩ := h.item hk
  obtain ⟨rfl, rfl⟩ : G' = G ∧ c' = c := by
    injection e1 with e1 _ e3
    injection e1 with e1
    injection e1 with e1
    exact ⟨e1.symm, e3.symm⟩
  clear e1
  have hn := h.ok.n
  have hg := h.ok.g
  have hb := h.blk.lt
  have HB := Lib.hid B
  generalize l.getD i default = x at *
  generalize l.getD k default = y at *
  obtain ⟨xi, xv, xp⟩ := x
  obtain ⟨yi, yv, yp⟩ := y
  dsimp only at s0 s1 s2 t0 t1 t2
  generalize l.length = n at *
  have hi2 : (i : Int) < (n : Int) := by omega
  have hk2 : (k : Int) < (n : Int) := by omega
  clear h B
  obtain ⟨WA, hwa⟩ : ∃ W, W = ((w.alloc (Obj.cells #[Value.int IntKind.i64 xi, Value.int IntKind.i64 xv, Value.int IntKind.i64 xp] 95)).alloc (Obj.cells #[Value.int IntKind.i64 yi, Value.int IntKind.i64 yv, Value.int IntKind.i64 yp] 95)).drew := ⟨_, rfl⟩
  obtain ⟨WB, hwb⟩ : ∃ W, W = ((w.alloc (Obj.cells #[Value.int IntKind.i64 yi, Value.int IntKind.i64 yv, Value.int IntKind.i64 yp] 95)).alloc (Obj.cells #[Value.int IntKind.i64 xi, Value.int IntKind.i64 xv, Value.int IntKind.i64 xp] 95)).drew := ⟨_, rfl⟩
  have FA := Lib.hid (show Fr No w WA by rw [hwa]; exact (((Fr.refl No w).alloc _).alloc _).drew)
  have FB := Lib.hid (show Fr No w WB by rw [hwb]; exact (((Fr.refl No w).alloc _).alloc _).drew)
  have BAx := Lib.hid (show Blk WA w.heap.size 95 #[.int .i64 xi, .int .i64 xv, .int .i64 xp] by rw [hwa]; exact ((Blk.new w 95 _).alloc _).drew)
  have BAy := Lib.hid (show Blk WA (w.heap.size + 1) 95 #[.int .i64 yi, .int .i64 yv, .int .i64 yp] by
    rw [hwa]
    have := Blk.new (w.alloc (Obj.cells #[Value.int IntKind.i64 xi, Value.int IntKind.i64 xv, Value.int IntKind.i64 xp] 95)) 95 #[.int .i64 yi, .int .i64 yv, .int .i64 yp]
    rw [World.size_alloc] at this
    exact this.drew)
  have BBy := Lib.hid (show Blk WB w.heap.size 95 #[.int .i64 yi, .int .i64 yv, .int .i64 yp] by rw [hwb]; exact ((Blk.new w 95 _).alloc _).drew)
  have BBx := Lib.hid (show Blk WB (w.heap.size + 1) 95 #[.int .i64 xi, .int .i64 xv, .int .i64 xp] by
    rw [hwb]
    have := Blk.new (w.alloc (Obj.cells #[Value.int IntKind.i64 yi, Value.int IntKind.i64 yv, Value.int IntKind.i64 yp] 95)) 95 #[.int .i64 xi, .int .i64 xv, .int .i64 xp]
    rw [World.size_alloc] at this
    exact this.drew)
  have HWA := Lib.hid hwa
  have HWB := Lib.hid hwb
  have C0 := Lib.hid (fun (X : World) (hX : Fr No w X) => (hX.cell (p := ⟨b, 0, none⟩) hb (fun z => z)).trans c0)
  have hent := HB.out.ent
  have HR := Lib.hid HB.out.run
  have HV := Lib.hid (show fst bf ⟨xi, xv, xp⟩ ⟨yi, yv, yp⟩ = (bf xv yv || (!bf yv xv && decide (xp < yp))) from rfl)
  rw [HV.out]
  clear HV hwa hwb
  go_enter Try.func87, Try.ntmps87
  go_wp2
  go_region
  all_goals
    first
    | (clear c0 c1 c2 c3 s0 s1 s2 t0 t1 t2; rw [← HWA.out]; have FX := FA; have BX := BAx; have BY := BAy; clear HWA HWB FA FB BAx BAy BBx BBy hG; generalize WA = WX at *; generalize w.heap.size + 1 = P8 at *; generalize w.heap.size = P7 at *)
    | (clear c0 c1 c2 c3 s0 s1 s2 t0 t1 t2; rw [← HWB.out]; have FX := FB; have BX := BBx; have BY := BBy; clear HWA HWB FA FB BAx BAy BBx BBy hG; generalize WB = WX at *; generalize w.heap.size + 1 = P7 at *; generalize w.heap.size = P8 at *)
  all_goals
    have SK := Lib.hid (fun (X : World) (hX : Fr No WX X) => (show X.cell? ⟨b, 0, none⟩ = some (.func (.func f) #[] #[]) ∧ X.cell? ⟨P7, 1, none⟩ = some (.int .i64 xv) ∧ X.cell? ⟨P8, 1, none⟩ = some (.int .i64 yv) from ⟨C0.out X (FX.out.then0 hX), (BX.out.fr hX (fun z => z)).cell 1, (BY.out.fr hX (fun z => z)).cell 1⟩))
    have k0 := SK.out WX (Fr.refl _ _)
    obtain ⟨k1, k2, k3⟩ := k0
    go_wp2
    go_region_held3 (fun X => X.cell? ⟨b, 0, none⟩ = some (.func (.func f) #[] #[]) ∧ X.cell? ⟨P7, 1, none⟩ = some (.int .i64 xv) ∧ X.cell? ⟨P8, 1, none⟩ = some (.int .i64 yv))
      (first | exact ⟨k1, k2, k3⟩ | exact SK.out _ ((Fr.refl No WX).drew.then0 F1.out) | go_keep)
      (((with_reducible refine (HR.out xv yv _).mono ?_); rintro e W1 ⟨rfl, hf⟩; have F1 := Lib.hid hf; clear hf))
  all_goals
    have F2 := Lib.hid ((Fr.refl No WX).drew.then0 F1.out)
    clear F1 k1 k2 k3
    cases hb1 : bf xv yv
    · go_wp2
      obtain ⟨k1, k2, k3⟩ := SK.out _ F2.out
      go_region_held3 (fun X => X.cell? ⟨b, 0, none⟩ = some (.func (.func f) #[] #[]) ∧ X.cell? ⟨P7, 1, none⟩ = some (.int .i64 xv) ∧ X.cell? ⟨P8, 1, none⟩ = some (.int .i64 yv))
        (first | exact ⟨k1, k2, k3⟩ | exact SK.out _ ((F2.out.drew).then0 F3.out) | go_keep)
        (((with_reducible refine (HR.out yv xv _).mono ?_); rintro e W3 ⟨rfl, hf⟩; have F3 := Lib.hid hf; clear hf))
      have F4 := Lib.hid ((F2.out.drew).then0 F3.out)
      clear F3 k1 k2 k3
      cases hb2 : bf yv xv
      · have q7 := (BX.out.fr F4.out (fun z => z)).cell 2
        have q8 := (BY.out.fr F4.out (fun z => z)).cell 2
        simp only [List.getElem?_toArray, List.getElem?_cons_zero, List.getElem?_cons_succ] at q7 q8
        go_wp2
        go_ret
        exact ⟨by simp [hb1, hb2], FX.out.then0 F4.out⟩
      · go_wp2
        go_ret
        exact ⟨by simp [hb1, hb2], FX.out.then0 F4.out⟩
    · go_wp2
      go_ret
      exact ⟨by simp [hb1], FX.out.then0 F2.out⟩
end Go.Proofs.Ytbndmelkdamgjaa
