/- Both heaps of items side by side; each call in one form. -/
import Derived.Test.YtbndmelkdamgjaaDe
import Derived.Deep.RegionHeld3
namespace Go.Proofs.Ytbndmelkdamgjaa.It
open Go.RowKit Go.Wk

/-- The heap of items of the law. -/
abbrev JH := IH 13 befI
def pE (s : List (En IV)) (x : Int) : Int := if x ∈ ids s then 6 else 0
def pS (s : List (En IV)) (x : Int) (y : IV) (g : Int) : List (En IV) := if x ∈ ids s then s else ins befI ⟨x, y, g⟩ s
def pG (s : List (En IV)) (x g : Int) : Int := if x ∈ ids s then g else g + 1
def rE (s : List (En IV)) (x : Int) : Int := if x ∈ ids s then 0 else 5
def cS (s : List (En IV)) (x : Int) (y : IV) (g : Int) : List (En IV) := if x ∈ ids s then ins befI ⟨x, y, g⟩ (del x s) else s
def cG (s : List (En IV)) (x g : Int) : Int := if x ∈ ids s then g + 1 else g
/-- Both heaps, apart, of the call's own. -/
structure PairH (w wr : World) (b : Nat) (D : Nat → Prop) (s : List (En IV)) (g : Int) (r : Nat) (v : Value) (L : List (En IV)) : Prop where
  h : JH wr b D s g
  d : DV wr r v L
  rel : Rel s L
  fr : Fr No w wr
  o1 : ∀ k, D k → w.heap.size ≤ k
  o2 : ∀ k, domD r v k → w.heap.size ≤ k
  ap : ∀ k, D k → ¬ domD r v k
section
variable {w wr w1 w2 : World} {b : Nat} {D : Nat → Prop} {s : List (En IV)} {g : Int} {r : Nat} {v : Value} {L : List (En IV)}
theorem PairH.fr0 (P : PairH w wr b D s g r v L) (hf : Fr No wr w1) : PairH w w1 b D s g r v L := ⟨P.h.fr0 hf, P.d.fr0 hf, P.rel, P.fr.then0 hf, P.o1, P.o2, P.ap⟩
theorem TurnI.self (h : JH wr b D s g) (hf : Fr No wr w1) : TurnI 13 befI wr b D s g w1 := ⟨D, h.fr0 hf, hf.mono (fun _ z => z.elim), fun _ hk => .inl hk⟩
theorem TurnD.self (h : DV wr r v L) (hf : Fr No wr w1) : TurnD wr r v L w1 := ⟨v, h.fr0 hf, hf.mono (fun _ z => z.elim), fun _ hk => .inl hk⟩
theorem PairH.okS (P : PairH w wr b D s g r v L) : OkS befI s g := P.h.ok weak_I
theorem PairH.ll (P : PairH w wr b D s g r v L) : (L.length : Int) ≤ g ∧ g ≤ 1000000000 := by have := P.h.n; have := P.rel.ln; omega
/-- Both turn, the heap first. -/
theorem PairH.turn (P : PairH w wr b D s g r v L) {s' L' : List (En IV)} {g' : Int} (h1 : TurnI 13 befI wr b D s' g' w1) (h2 : TurnD w1 r v L' w2) (hr : Rel s' L') : ∃ D' v', PairH w w2 b D' s' g' r v' L' := by
  obtain ⟨D', h1, f1, d1⟩ := h1
  obtain ⟨v', h2, f2, d2⟩ := h2
  have hD : ∀ k, D' k → ¬ domD r v k := fun k hk hc => by
    rcases d1 k hk with h | h
    · exact P.ap k h hc
    · have := P.d.lt hc; omega
  refine ⟨D', v', h1.fr f2 (fun k hk hc => hD k hk hc), h2, hr, (P.fr.ownS f1 P.o1).ownS f2 P.o2, fun k hk => ?_, fun k hk => ?_, fun k hk hc => ?_⟩
  · rcases d1 k hk with h | h
    · exact P.o1 k h
    · exact Nat.le_trans P.fr.size h
  · rcases d2 k hk with h | h
    · exact P.o2 k h
    · have := f1.size; have := P.fr.size; omega
  · rcases d2 k hc with h | h
    · exact hD k hk h
    · have := h1.lt hk; omega
/-- The document's heap, once the heap has turned. -/
theorem PairH.dat (P : PairH w wr b D s g r v L) {s' : List (En IV)} {g' : Int} (h1 : TurnI 13 befI wr b D s' g' w1) : DV w1 r v L := by
  obtain ⟨D', _, f1, _⟩ := h1
  exact P.d.fr f1 (fun k hk hc => P.ap k hc hk)
theorem jPush (P : PairH w wr b D s g r v L) (x : Int) (y : IV) (hx : fits x) (hg : g < 1000000000) : Calls Try.prog 26 #[.pointer (some ⟨b, 0, none⟩), .int .i64 x, .agg #[.int .i64 y.id, .int .i64 y.pr, .int .i64 y.since, .int .i64 y.seq]] wr fun e w' => e = .returned (.int .i64 (pE s x)) ∧ TurnI 13 befI wr b D (pS s x y g) (pG s x g) w' := by
  unfold pE pS pG
  by_cases h : x ∈ ids s
  · simp only [if_pos h]
    refine (iPushOld P.h x y hx h).mono ?_
    rintro e w' ⟨rfl, hf⟩
    exact ⟨rfl, TurnI.self P.h hf⟩
  · simp only [if_neg h]
    exact iPush bef_I P.h x y hx h hg
theorem jRemove (P : PairH w wr b D s g r v L) (x : Int) (hx : fits x) : Calls Try.prog 27 #[.pointer (some ⟨b, 0, none⟩), .int .i64 x] wr fun e w' => e = .returned (.int .i64 (rE s x)) ∧ TurnI 13 befI wr b D (del x s) g w' := by
  unfold rE
  by_cases h : x ∈ ids s
  · simp only [if_pos h]
    exact iRemove bef_I P.h x hx h
  · simp only [if_neg h]
    refine (iRemoveNo P.h x hx h).mono ?_
    rintro e w' ⟨rfl, rfl⟩
    rw [del_none h]
    exact ⟨rfl, TurnI.self P.h (Fr.refl _ _)⟩
theorem jChange (P : PairH w wr b D s g r v L) (x : Int) (y : IV) (hx : fits x) (hg : g < 1000000000) : Calls Try.prog 28 #[.pointer (some ⟨b, 0, none⟩), .int .i64 x, .agg #[.int .i64 y.id, .int .i64 y.pr, .int .i64 y.since, .int .i64 y.seq]] wr fun e w' => e = .returned (.int .i64 (rE s x)) ∧ TurnI 13 befI wr b D (cS s x y g) (cG s x g) w' := by
  unfold rE cS cG
  by_cases h : x ∈ ids s
  · simp only [if_pos h]
    exact iChange bef_I P.h x y hx h hg
  · simp only [if_neg h]
    refine (iChangeNo P.h x y hx h).mono ?_
    rintro e w' ⟨rfl, hf⟩
    exact ⟨rfl, TurnI.self P.h hf⟩
theorem ePush (P : PairH w wr b D s g r v L) (x : Int) (y : IV) (hg : g < 1000000000) (hd : DV w1 r v L) : Calls Try.prog 57 #[.pointer (some ⟨r, 0, none⟩), .int .i64 x, .agg #[.int .i64 y.id, .int .i64 y.pr, .int .i64 y.since, .int .i64 y.seq]] w1 fun e w' => e = .returned (.int .i64 (pE s x)) ∧ ∃ L', TurnD w1 r v L' w' ∧ Rel (pS s x y g) L' := by
  have hl := P.ll
  unfold pE pS
  by_cases h : x ∈ ids s
  · simp only [if_pos h]
    refine (dPushOld r v L x y w1 hd (by omega) ((P.rel.ids x).1 h)).mono ?_
    rintro e w' ⟨rfl, hf⟩
    exact ⟨rfl, L, TurnD.self hd hf, P.rel⟩
  · simp only [if_neg h]
    refine (dPushNew r v L x g y w1 hd (by omega) (fun hc => h ((P.rel.ids x).2 hc))).mono ?_
    rintro e w' ⟨rfl, ht⟩
    exact ⟨rfl, _, ht, P.rel.push (fun a ha => (P.okS.lo a ha).2)⟩
theorem eRemove (P : PairH w wr b D s g r v L) (x : Int) (hd : DV w1 r v L) : Calls Try.prog 59 #[.pointer (some ⟨r, 0, none⟩), .int .i64 x] w1 fun e w' => e = .returned (.int .i64 (rE s x)) ∧ ∃ L', TurnD w1 r v L' w' ∧ Rel (del x s) L' := by
  have hl := P.ll
  unfold rE
  by_cases h : x ∈ ids s
  · simp only [if_pos h]
    exact dRemove r v s L x w1 hd P.rel P.okS.nd (by omega) h
  · simp only [if_neg h]
    refine (dRemoveNo r v L x w1 hd (by omega) (fun hc => h ((P.rel.ids x).2 hc))).mono ?_
    rintro e w' ⟨rfl, rfl⟩
    rw [del_none h]
    exact ⟨rfl, L, TurnD.self hd (Fr.refl _ _), P.rel⟩
theorem eChange (P : PairH w wr b D s g r v L) (x : Int) (y : IV) (hg : g < 1000000000) (hd : DV w1 r v L) : Calls Try.prog 60 #[.pointer (some ⟨r, 0, none⟩), .int .i64 x, .agg #[.int .i64 y.id, .int .i64 y.pr, .int .i64 y.since, .int .i64 y.seq]] w1 fun e w' => e = .returned (.int .i64 (rE s x)) ∧ ∃ L', TurnD w1 r v L' w' ∧ Rel (cS s x y g) L' := by
  have hl := P.ll
  unfold rE cS
  by_cases h : x ∈ ids s
  · simp only [if_pos h]
    exact dChange r v s L x g y w1 hd P.rel P.okS.nd (by omega) (fun a ha => (P.okS.lo a ha).2) h
  · simp only [if_neg h]
    refine (dChangeNo r v L x y w1 hd (by omega) (fun hc => h ((P.rel.ids x).2 hc))).mono ?_
    rintro e w' ⟨rfl, hf⟩
    exact ⟨rfl, L, TurnD.self hd hf, P.rel⟩
theorem pG_le (s : List (En IV)) (x g : Int) : pG s x g ≤ g + 1 := by unfold pG; split <;> omega
theorem cG_le (s : List (En IV)) (x g : Int) : cG s x g ≤ g + 1 := by unfold cG; split <;> omega
end
theorem both_fr {w wr w1 w2 : World} {b : Nat} {D : Nat → Prop} {s : List (En IV)} {g : Int} {r : Nat} {v : Value} {L : List (En IV)} (h0 : Fr No w wr) (h1 : TurnI 13 befI wr b D s g w1) (h2 : TurnD w1 r v L w2) : Fr (fun k => D k ∨ domD r v k) w w2 := by
  obtain ⟨_, _, f1, _⟩ := h1
  obtain ⟨_, _, f2, _⟩ := h2
  exact ((h0.mono (T := fun k => D k ∨ domD r v k) (fun _ z => z.elim)).trans (f1.mono (T := fun k => D k ∨ domD r v k) (fun _ z => .inl z)) (fun _ _ z => z)).trans (f2.mono (T := fun k => D k ∨ domD r v k) (fun _ z => .inr z)) (fun _ _ z => z)
/-- What a step leaves. -/
def DoR (w wr : World) (D0 : Nat → Prop) (g : Int) (r : Nat) (v0 : Value) (e : Ending) (w' : World) : Prop := ∃ b D s g' v L, e = .returned (.pointer (some ⟨b, 0, none⟩)) ∧ PairH w w' b D s g' r v L ∧ g' ≤ g + 1 ∧ Fr (fun k => D0 k ∨ domD r v0 k) wr w'
set_option maxRecDepth 100000 in
set_option maxHeartbeats 8000000 in
theorem do_any {w wr : World} {b : Nat} {D : Nat → Prop} {s : List (En IV)} {g : Int} {r : Nat} {v : Value} {L : List (En IV)} (P : PairH w wr b D s g r v L) (hg : g < 1000000000) (kd x a1 a2 a3 a4 : Int) (hx : fits x) (hk : 0 ≤ kd ∧ kd ≤ 255) :
    Calls Try.prog 15 #[.pointer (some ⟨b, 0, none⟩), .pointer (some ⟨r, 0, none⟩), .agg #[.int .u8 kd, .int .i64 x, .int .i64 a1, .int .i64 a2, .int .i64 a3, .int .i64 a4]] wr fun e w' => DoR w wr D g r v e w' := by
  obtain ⟨wa, hwa⟩ : ∃ wa, wa = wr.alloc (.cells #[.int .u8 kd, .int .i64 x, .int .i64 a1, .int .i64 a2, .int .i64 a3, .int .i64 a4] 32) := ⟨_, rfl⟩
  have FA := Lib.hid (show Fr No wr wa by rw [hwa]; exact (Fr.refl No wr).alloc _)
  have BX := Lib.hid (show Blk wa wr.heap.size 32 #[.int .u8 kd, .int .i64 x, .int .i64 a1, .int .i64 a2, .int .i64 a3, .int .i64 a4] by rw [hwa]; exact Blk.new _ _ _)
  have HWA := Lib.hid hwa
  have HP := Lib.hid (P.fr0 FA.out)
  have HX := Lib.hid hx
  have hDX : ∀ k, D k → k ≠ wr.heap.size := fun k hk e => by have := P.h.lt hk; omega
  have hVX : ∀ k, domD r v k → k ≠ wr.heap.size := fun k hk e => by have := P.d.lt hk; omega
  have HDX := Lib.hid hDX
  have HVX := Lib.hid hVX
  generalize hB : wr.heap.size = B at *
  have q0 := BX.out.cell 0
  simp only [List.getElem?_toArray, List.getElem?_cons_zero] at q0
  have SK := Lib.hid (fun (X : World) (h : Blk X B 32 #[.int .u8 kd, .int .i64 x, .int .i64 a1, .int .i64 a2, .int .i64 a3, .int .i64 a4]) => (show X.cell? ⟨B, 1, none⟩ = some (.int .i64 x) ∧ X.cell? ⟨B, 2, none⟩ = some (.int .i64 a1) ∧ X.cell? ⟨B, 3, none⟩ = some (.int .i64 a2) ∧ X.cell? ⟨B, 4, none⟩ = some (.int .i64 a3) ∧ X.cell? ⟨B, 5, none⟩ = some (.int .i64 a4) from ⟨h.cell 1, h.cell 2, h.cell 3, h.cell 4, h.cell 5⟩))
  obtain ⟨m, hm⟩ : ∃ m, m = kd.tmod 5 := ⟨_, rfl⟩
  have hm5 : kd.tmod 5 = m := hm.symm
  have hmr : m = 0 ∨ m = 1 ∨ m = 2 ∨ m = 3 ∨ m = 4 := by
    have h1 := Int.tmod_lt_of_pos kd (show (0 : Int) < 5 by omega)
    have h2 := Int.tmod_nonneg 5 hk.1
    omega
  have HB := Lib.hid hB
  clear hwa P hx hk hDX hVX hm hB
  rcases hmr with rfl | rfl | rfl | rfl | rfl
  · have PD := Lib.hid (HP.out.fr0 (Fr.refl No wa).drew)
    have BD := Lib.hid (BX.out.fr (Fr.refl No wa).drew (fun z => z))
    have JP := Lib.hid (show Calls Try.prog 26 #[.pointer (some ⟨b, 0, none⟩), .int .i64 x, .agg #[.int .i64 a1, .int .i64 a2, .int .i64 a3, .int .i64 a4]] wa.drew fun e w' => e = .returned (.int .i64 (pE s x)) ∧ TurnI 13 befI wa.drew b D (pS s x ⟨a1, a2, a3, a4⟩ g) (pG s x g) w' from jPush PD.out x ⟨a1, a2, a3, a4⟩ HX.out hg)
    have EP := Lib.hid (fun W1 (hd : DV W1 r v L) => (show Calls Try.prog 57 #[.pointer (some ⟨r, 0, none⟩), .int .i64 x, .agg #[.int .i64 a1, .int .i64 a2, .int .i64 a3, .int .i64 a4]] W1 fun e w' => e = .returned (.int .i64 (pE s x)) ∧ ∃ L', TurnD W1 r v L' w' ∧ Rel (pS s x ⟨a1, a2, a3, a4⟩ g) L' from ePush PD.out x ⟨a1, a2, a3, a4⟩ hg hd))
    have HLE := Lib.hid (pG_le s x g)
    generalize pE s x = pe at *
    generalize pS s x ⟨a1, a2, a3, a4⟩ g = s1 at *
    generalize pG s x g = g1 at *
    have heq : (pe == pe) = true := by simp
    obtain ⟨k1, k2, k3, k4, k5⟩ := SK.out wa BX.out
    go_enter Try.func15, Try.ntmps15
    go_wp2_with fail
    rw [HB.out, ← HWA.out]
    go_region_held3 (fun X => X.cell? ⟨B, 1, none⟩ = some (.int .i64 x) ∧ X.cell? ⟨B, 2, none⟩ = some (.int .i64 a1) ∧ X.cell? ⟨B, 3, none⟩ = some (.int .i64 a2) ∧ X.cell? ⟨B, 4, none⟩ = some (.int .i64 a3) ∧ X.cell? ⟨B, 5, none⟩ = some (.int .i64 a4))
      (first | exact K2 | exact K1 | exact SK.out _ BD.out | go_keep)
      (first
        | (go_at_call 26; ((with_reducible refine JP.out.mono ?_); rintro e W1 ⟨rfl, ht⟩; have HT := Lib.hid ht; have B1 := Lib.hid (show Blk W1 B 32 _ from by obtain ⟨_, _, f, _⟩ := ht; exact BD.out.fr f (fun z => HDX.out _ z rfl)); have K1 := SK.out _ B1.out; clear ht))
        | (go_at_call 57; ((with_reducible refine (EP.out _ (PD.out.dat HT.out)).mono ?_); rintro e W2 ⟨rfl, L', ht, hc⟩; have HT2 := Lib.hid ht; have HC := Lib.hid hc; have B2 := Lib.hid (show Blk W2 B 32 _ from by obtain ⟨_, _, f, _⟩ := ht; exact B1.out.fr f (fun z => HVX.out _ z rfl)); have K2 := SK.out _ B2.out; clear ht hc)))
    all_goals
      obtain ⟨D1, v1, hn⟩ := PD.out.turn HT.out HT2.out HC.out
      have HN := Lib.hid hn
      have HFR := Lib.hid (both_fr (FA.out.then0 (Fr.refl No wa).drew) HT.out HT2.out)
      clear hn K1 K2 k1 k2 k3 k4 k5
      go_wp2
      go_ret
      exact ⟨b, D1, _, _, v1, L', rfl, HN.out, HLE.out, HFR.out⟩
  · have HPOP := Lib.hid (iPop bef_I HP.out.h)
    have DPOP := Lib.hid (fun W1 (hd : DV W1 r v L) => dPop r v s L W1 hd HP.out.rel HP.out.okS.nd (by have := HP.out.ll; omega))
    have HLE := Lib.hid (show g ≤ g + 1 by omega)
    have h1 : (topV s == topV s) = true := by simp
    have h2 : (topB s == topB s) = true := by simp
    generalize topV s = tv at *
    generalize topB s = tb at *
    go_enter Try.func15, Try.ntmps15
    go_wp2_with fail
    rw [HB.out, ← HWA.out]
    refine HPOP.out.mono ?_
    rintro e W1 ⟨rfl, ht⟩
    have HT := Lib.hid ht
    clear ht
    go_wp2_with fail
    refine (DPOP.out _ (HP.out.dat HT.out)).mono ?_
    rintro e W2 ⟨rfl, L', ht, hc⟩
    obtain ⟨D1, v1, hn⟩ := HP.out.turn HT.out ht hc
    have HN := Lib.hid hn
    have HFR := Lib.hid (both_fr FA.out HT.out ht)
    clear ht hc hn
    go_wp2
    go_ret
    exact ⟨b, D1, _, _, v1, L', rfl, HN.out, HLE.out, HFR.out⟩
  · have PD := Lib.hid (HP.out.fr0 (Fr.refl No wa).drew)
    have BD := Lib.hid (BX.out.fr (Fr.refl No wa).drew (fun z => z))
    have JP := Lib.hid (show Calls Try.prog 27 #[.pointer (some ⟨b, 0, none⟩), .int .i64 x] wa.drew fun e w' => e = .returned (.int .i64 (rE s x)) ∧ TurnI 13 befI wa.drew b D (del x s) (g) w' from jRemove PD.out x HX.out)
    have EP := Lib.hid (fun W1 (hd : DV W1 r v L) => (show Calls Try.prog 59 #[.pointer (some ⟨r, 0, none⟩), .int .i64 x] W1 fun e w' => e = .returned (.int .i64 (rE s x)) ∧ ∃ L', TurnD W1 r v L' w' ∧ Rel (del x s) L' from eRemove PD.out x hd))
    have HLE := Lib.hid (show g ≤ g + 1 by omega)
    generalize rE s x = pe at *
    generalize del x s = s1 at *
    skip
    have heq : (pe == pe) = true := by simp
    obtain ⟨k1, k2, k3, k4, k5⟩ := SK.out wa BX.out
    go_enter Try.func15, Try.ntmps15
    go_wp2_with fail
    rw [HB.out, ← HWA.out]
    go_region_held3 (fun X => X.cell? ⟨B, 1, none⟩ = some (.int .i64 x) ∧ X.cell? ⟨B, 2, none⟩ = some (.int .i64 a1) ∧ X.cell? ⟨B, 3, none⟩ = some (.int .i64 a2) ∧ X.cell? ⟨B, 4, none⟩ = some (.int .i64 a3) ∧ X.cell? ⟨B, 5, none⟩ = some (.int .i64 a4))
      (first | exact K2 | exact K1 | exact SK.out _ BD.out | go_keep)
      (first
        | (go_at_call 27; ((with_reducible refine JP.out.mono ?_); rintro e W1 ⟨rfl, ht⟩; have HT := Lib.hid ht; have B1 := Lib.hid (show Blk W1 B 32 _ from by obtain ⟨_, _, f, _⟩ := ht; exact BD.out.fr f (fun z => HDX.out _ z rfl)); have K1 := SK.out _ B1.out; clear ht))
        | (go_at_call 59; ((with_reducible refine (EP.out _ (PD.out.dat HT.out)).mono ?_); rintro e W2 ⟨rfl, L', ht, hc⟩; have HT2 := Lib.hid ht; have HC := Lib.hid hc; have B2 := Lib.hid (show Blk W2 B 32 _ from by obtain ⟨_, _, f, _⟩ := ht; exact B1.out.fr f (fun z => HVX.out _ z rfl)); have K2 := SK.out _ B2.out; clear ht hc)))
    all_goals
      obtain ⟨D1, v1, hn⟩ := PD.out.turn HT.out HT2.out HC.out
      have HN := Lib.hid hn
      have HFR := Lib.hid (both_fr (FA.out.then0 (Fr.refl No wa).drew) HT.out HT2.out)
      clear hn K1 K2 k1 k2 k3 k4 k5
      go_wp2
      go_ret
      exact ⟨b, D1, _, _, v1, L', rfl, HN.out, HLE.out, HFR.out⟩
  · have PD := Lib.hid (HP.out.fr0 (Fr.refl No wa).drew)
    have BD := Lib.hid (BX.out.fr (Fr.refl No wa).drew (fun z => z))
    have JP := Lib.hid (show Calls Try.prog 28 #[.pointer (some ⟨b, 0, none⟩), .int .i64 x, .agg #[.int .i64 a1, .int .i64 a2, .int .i64 a3, .int .i64 a4]] wa.drew fun e w' => e = .returned (.int .i64 (rE s x)) ∧ TurnI 13 befI wa.drew b D (cS s x ⟨a1, a2, a3, a4⟩ g) (cG s x g) w' from jChange PD.out x ⟨a1, a2, a3, a4⟩ HX.out hg)
    have EP := Lib.hid (fun W1 (hd : DV W1 r v L) => (show Calls Try.prog 60 #[.pointer (some ⟨r, 0, none⟩), .int .i64 x, .agg #[.int .i64 a1, .int .i64 a2, .int .i64 a3, .int .i64 a4]] W1 fun e w' => e = .returned (.int .i64 (rE s x)) ∧ ∃ L', TurnD W1 r v L' w' ∧ Rel (cS s x ⟨a1, a2, a3, a4⟩ g) L' from eChange PD.out x ⟨a1, a2, a3, a4⟩ hg hd))
    have HLE := Lib.hid (cG_le s x g)
    generalize rE s x = pe at *
    generalize cS s x ⟨a1, a2, a3, a4⟩ g = s1 at *
    generalize cG s x g = g1 at *
    have heq : (pe == pe) = true := by simp
    obtain ⟨k1, k2, k3, k4, k5⟩ := SK.out wa BX.out
    go_enter Try.func15, Try.ntmps15
    go_wp2_with fail
    rw [HB.out, ← HWA.out]
    go_region_held3 (fun X => X.cell? ⟨B, 1, none⟩ = some (.int .i64 x) ∧ X.cell? ⟨B, 2, none⟩ = some (.int .i64 a1) ∧ X.cell? ⟨B, 3, none⟩ = some (.int .i64 a2) ∧ X.cell? ⟨B, 4, none⟩ = some (.int .i64 a3) ∧ X.cell? ⟨B, 5, none⟩ = some (.int .i64 a4))
      (first | exact K2 | exact K1 | exact SK.out _ BD.out | go_keep)
      (first
        | (go_at_call 28; ((with_reducible refine JP.out.mono ?_); rintro e W1 ⟨rfl, ht⟩; have HT := Lib.hid ht; have B1 := Lib.hid (show Blk W1 B 32 _ from by obtain ⟨_, _, f, _⟩ := ht; exact BD.out.fr f (fun z => HDX.out _ z rfl)); have K1 := SK.out _ B1.out; clear ht))
        | (go_at_call 60; ((with_reducible refine (EP.out _ (PD.out.dat HT.out)).mono ?_); rintro e W2 ⟨rfl, L', ht, hc⟩; have HT2 := Lib.hid ht; have HC := Lib.hid hc; have B2 := Lib.hid (show Blk W2 B 32 _ from by obtain ⟨_, _, f, _⟩ := ht; exact B1.out.fr f (fun z => HVX.out _ z rfl)); have K2 := SK.out _ B2.out; clear ht hc)))
    all_goals
      obtain ⟨D1, v1, hn⟩ := PD.out.turn HT.out HT2.out HC.out
      have HN := Lib.hid hn
      have HFR := Lib.hid (both_fr (FA.out.then0 (Fr.refl No wa).drew) HT.out HT2.out)
      clear hn K1 K2 k1 k2 k3 k4 k5
      go_wp2
      go_ret
      exact ⟨b, D1, _, _, v1, L', rfl, HN.out, HLE.out, HFR.out⟩
  · have HCP := Lib.hid (iCopy HP.out.h)
    have HLE := Lib.hid (show g ≤ g + 1 by omega)
    go_enter Try.func15, Try.ntmps15
    go_wp2_with fail
    rw [HB.out, ← HWA.out]
    refine HCP.out.mono ?_
    rintro e W1 ⟨b2, D2, rfl, h2, hd2, hf2⟩
    have H2 := Lib.hid h2
    have HD2 := Lib.hid hd2
    have P1 := Lib.hid (HP.out.fr0 hf2)
    have P1F := Lib.hid hf2
    have hsz := hf2.size
    have HPOP := Lib.hid (iPop bef_I P1.out.h)
    clear h2 hd2 hf2
    go_wp2_with fail
    refine HPOP.out.mono ?_
    rintro e W2 ⟨rfl, ht⟩
    have HN := Lib.hid (show PairH w W2 b2 D2 s g r v L from by
      have hdv := P1.out.dat ht
      obtain ⟨D', _, f1, _⟩ := ht
      exact ⟨H2.out.fr f1 (fun k hk hc => by have := HP.out.h.lt hc; have := HD2.out k hk; omega), hdv, P1.out.rel, P1.out.fr.ownS f1 P1.out.o1, fun k hk => Nat.le_trans HP.out.fr.size (HD2.out k hk), P1.out.o2, fun k hk hc => by have := HP.out.d.lt hc; have := HD2.out k hk; omega⟩)
    have HFR := Lib.hid (show Fr (fun k => D k ∨ domD r v k) wr W2 from by
      obtain ⟨_, _, f1, _⟩ := ht
      exact ((FA.out.then0 P1F.out).mono (T := fun k => D k ∨ domD r v k) (fun _ z => z.elim)).trans (f1.mono (T := fun k => D k ∨ domD r v k) (fun _ z => .inl z)) (fun _ _ z => z))
    clear ht
    go_wp2
    go_ret
    exact ⟨b2, D2, s, g, v, L, rfl, HN.out, HLE.out, HFR.out⟩
end Go.Proofs.Ytbndmelkdamgjaa.It
