/- HeapPlays: the walk. -/
import Derived.Test.YtbndmelkdamgjaaDf
import Derived.Test.YtbndmelkdamgjaaFp
namespace Go.Proofs.Ytbndmelkdamgjaa.It
open Go.RowKit Go.Wk

abbrev kStep : List IntKind := [.u8, .i64, .i64, .i64, .i64, .i64]
theorem six_at {bytes : Nat} {w : World} {A : Option Addr} {n c : Nat} {es : List (List Int)} (h : RowF kStep bytes w A n c es) {k : Nat} (hk : k < n) :
    ∃ b off d x a1 a2 a3 a4, A = some ⟨b, off, none⟩ ∧ b < w.heap.size ∧ fits x ∧ (0 ≤ d ∧ d ≤ 255) ∧
      w.cell? ⟨b, off + k * 6, none⟩ = some (.int .u8 d) ∧ w.cell? ⟨b, off + k * 6 + 1, none⟩ = some (.int .i64 x) ∧ w.cell? ⟨b, off + k * 6 + 2, none⟩ = some (.int .i64 a1) ∧ w.cell? ⟨b, off + k * 6 + 3, none⟩ = some (.int .i64 a2) ∧ w.cell? ⟨b, off + k * 6 + 4, none⟩ = some (.int .i64 a3) ∧ w.cell? ⟨b, off + k * 6 + 5, none⟩ = some (.int .i64 a4) := by
  obtain ⟨b, off, hA, hb, hl, hw, hc⟩ := h.at_ (by decide) hk
  generalize es.getD k [] = l at *
  match l, hl with
  | [d, x, a1, a2, a3, a4], _ =>
    have h0 := hw 0 .u8 d rfl rfl
    have h1 := hw 1 .i64 x rfl rfl
    simp [Lit.wf] at h0 h1
    exact ⟨b, off, d, x, a1, a2, a3, a4, hA, hb, ⟨h1.1, h1.2⟩, ⟨h0.1, h0.2⟩, hc 0 _ rfl, hc 1 _ rfl, hc 2 _ rfl, hc 3 _ rfl, hc 4 _ rfl, hc 5 _ rfl⟩
theorem iNew (w : World) : Calls Try.prog 12 #[.func (.func 13) #[] #[]] w fun e w' => NewI 13 befI w [] 0 e w' := New_any w
set_option maxRecDepth 100000 in
set_option maxHeartbeats 40000000 in
theorem heapPlays_walk (A : Option Addr) (n c : Nat) (es : List (List Int)) (w : World) (h : RowF kStep 48 w A n c es) (hn : n ≤ 9223372036854775807) :
    Calls Try.prog 3 #[.slice A n c] w fun e w' => e = .returned (.bool true) ∧ Fr No w w' := by
  have HR := Lib.hid h
  clear h
  by_cases b1 : 120 < n
  · have b2 : (120 : Int) < (n : Int) := by omega
    clear b1
    go_enter Try.func3, Try.ntmps3
    go_wp2_with fail
    refine (works_any _).mono ?_
    rintro x w1 ⟨rfl, hf⟩
    go_wp2
    go_ret
    exact ⟨rfl, hf⟩
  have hn120 : n ≤ 120 := by omega
  have b2 : ¬ (120 : Int) < (n : Int) := by omega
  clear b1 hn
  go_enter Try.func3, Try.ntmps3
  go_wp2_with fail
  refine (iNew w).mono ?_
  rintro e w1 ⟨b, D, rfl, h1, hd1, hf1⟩
  have H1 := Lib.hid h1
  have HD1 := Lib.hid hd1
  have F1 := Lib.hid hf1
  clear h1 hd1 hf1
  go_wp2_with fail
  refine (dNew_any w1).mono ?_
  rintro e w2 ⟨rfl, h2, hf2⟩
  have P := Lib.hid (show PairH w w2 b D [] 0 w1.heap.size (.slice none 0 0) [] from
    ⟨H1.out.fr0 hf2, h2, Rel.nil, F1.out.then0 hf2, HD1.out, fun k hk => by
      rcases hk with rfl | hk
      · exact F1.out.size
      · simp [Value.ownBlock] at hk, fun k hk hc => by
      rcases hc with rfl | hc
      · have := H1.out.lt hk; omega
      · simp [Value.ownBlock] at hc⟩)
  generalize w1.heap.size = r at *
  clear h2 hf2 H1 HD1 F1
  go_wp2
  go_loopw [3, 19] (fun hv iv wr => ∃ (k b : Nat) (D : Nat → Prop) (s : List (En IV)) (g : Int) (v : Value) (L : List (En IV)), hv = .pointer (some ⟨b, 0, none⟩) ∧ iv = .int .i64 k ∧ k ≤ n ∧ g ≤ k ∧ Hid (PairH w wr b D s g r v L)) (fun _ iv _ => n - (intOf iv).toNat)
  case atStart => exact ⟨0, b, D, _, _, _, _, rfl, rfl, Nat.zero_le _, Int.le_refl _, P⟩
  case round =>
    clear P
    obtain ⟨k, b, D, s, g, v, L, rfl, rfl, hk, hgk, P⟩ := hrel
    by_cases hlt : k < n
    · obtain ⟨xb, xo, d, x, a1, a2, a3, a4, rfl, hxb, hfx, hdr, h0, h1, h2, h3, h4, h5⟩ := six_at HR.out hlt
      have rd := fun (j : Nat) u (hu : w.cell? ⟨xb, j, none⟩ = some u) => (P.out.fr.cell (p := ⟨xb, j, none⟩) hxb (fun z => z)).trans hu
      have c0 := rd _ _ h0
      have c1 := rd _ _ h1
      have c2 := rd _ _ h2
      have c3 := rd _ _ h3
      have c4 := rd _ _ h4
      have c5 := rd _ _ h5
      have hlt2 : (k : Int) < (n : Int) := by omega
      obtain ⟨wa, hwa⟩ : ∃ wa, wa = wr.alloc (.cells #[.int .u8 d, .int .i64 x, .int .i64 a1, .int .i64 a2, .int .i64 a3, .int .i64 a4] 32) := ⟨_, rfl⟩
      have FA := Lib.hid (show Fr No wr wa by rw [hwa]; exact (Fr.refl No wr).alloc _)
      have BX := Lib.hid (show Blk wa wr.heap.size 32 #[.int .u8 d, .int .i64 x, .int .i64 a1, .int .i64 a2, .int .i64 a3, .int .i64 a4] by rw [hwa]; exact Blk.new _ _ _)
      have HWA := Lib.hid hwa
      have HFX := Lib.hid hfx
      have HDO := Lib.hid (do_any (P.out.fr0 FA.out) (by omega) d x a1 a2 a3 a4 hfx hdr)
      obtain ⟨q0, q1, q2, q3, q4, q5⟩ := (show wa.cell? ⟨wr.heap.size, 0, none⟩ = some (.int .u8 d) ∧ wa.cell? ⟨wr.heap.size, 1, none⟩ = some (.int .i64 x) ∧ wa.cell? ⟨wr.heap.size, 2, none⟩ = some (.int .i64 a1) ∧ wa.cell? ⟨wr.heap.size, 3, none⟩ = some (.int .i64 a2) ∧ wa.cell? ⟨wr.heap.size, 4, none⟩ = some (.int .i64 a3) ∧ wa.cell? ⟨wr.heap.size, 5, none⟩ = some (.int .i64 a4) from ⟨BX.out.cell 0, BX.out.cell 1, BX.out.cell 2, BX.out.cell 3, BX.out.cell 4, BX.out.cell 5⟩)
      clear h0 h1 h2 h3 h4 h5 hwa hfx rd hdr
      go_wp2_with fail
      rw [← HWA.out]
      clear c0 c1 c2 c3 c4 c5
      go_wp2_with fail
      refine HDO.out.mono ?_
      rintro e wq ⟨b2, D2, s2, g2, v2, L2, rfl, hp2, hle, hfr⟩
      have P2 := Lib.hid hp2
      have HLE := Lib.hid hle
      have BX2 := Lib.hid (BX.out.fr hfr (fun z => by
        rcases z with z | z
        · have := P.out.h.lt z; omega
        · have := P.out.d.lt z; omega))
      have HTD := Lib.hid (dTop_any r v2 s2 L2 wq P2.out.d P2.out.rel (by have := P2.out.ll; omega))
      have h1 : (topV s2 != topV s2) = false := by simp
      have h2 : (topB s2 != topB s2) = false := by simp
      have HTI := Lib.hid (iTop weak_I P2.out.h)
      generalize topV s2 = tv at *
      generalize topB s2 = tb at *
      generalize wr.heap.size = B at *
      clear hp2 hle hfr q0 q1 q2 q3 q4 q5
      go_wp2_with fail
      refine HTI.out.mono ?_
      rintro e w3 ⟨rfl, rfl⟩
      go_wp2_with fail
      refine HTD.out.mono ?_
      rintro e wt ⟨rfl, hft⟩
      have P3 := Lib.hid (P2.out.fr0 hft)
      have BX3 := Lib.hid (BX2.out.fr hft (fun z => z))
      have P4 := Lib.hid (P3.out.fr0 (Fr.refl No wt).drew)
      have SK := Lib.hid (fun (X : World) (hX : Fr No wt X) => (show X.cell? ⟨B, 1, none⟩ = some (.int .i64 x) from (BX3.out.fr hX (fun z => z)).cell 1))
      have k0 := SK.out wt (Fr.refl _ _)
      have C18 := Lib.hid (iLen P4.out.h)
      have C19 := Lib.hid (dLen_any r v2 L2 wt.drew P4.out.d)
      rw [← P4.out.rel.ln] at C19
      have C20 := Lib.hid (iHas P4.out.h x HFX.out)
      have C21 := Lib.hid (dHas_any r v2 L2 x wt.drew P4.out.d (by have := P4.out.ll; omega))
      have hxe : decide (x ∈ ids L2) = decide (x ∈ ids s2) := by rw [decide_eq_decide]; exact (P4.out.rel.ids x).symm
      rw [hxe] at C21
      have C23 := Lib.hid (iIds bef_I P4.out.h)
      have C24 := Lib.hid (fun (X : World) (hX : Fr No wt.drew X) => dIds r v2 s2 L2 X (P4.out.d.fr0 hX) P4.out.rel (by have := P4.out.ll; omega))
      have HSL := Lib.hid (show (ids s2).length ≤ 9223372036854775807 by have := P4.out.h.n; simp [ids]; omega)
      generalize decide (x ∈ ids s2) = t at *
      generalize s2.length = ln at *
      have h3 : ((ln : Int) != (ln : Int)) = false := by simp
      have h4 : (t != t) = false := by simp
      clear hft hxe
      go_wp2
      go_region_held3 (fun X => X.cell? ⟨B, 1, none⟩ = some (.int .i64 x))
        (first | exact K3 | exact K2 | exact K1 | exact k0 | exact SK.out _ (Fr.refl No wt).drew | go_keep)
        (first
          | (go_at_call 18; ((with_reducible refine C18.out.mono ?_); rintro e w5 ⟨rfl, rfl⟩))
          | (go_at_call 19; ((with_reducible refine C19.out.mono ?_); rintro e w5 ⟨rfl, rfl⟩))
          | (go_at_call 20; ((with_reducible refine C20.out.mono ?_); rintro e w5 ⟨rfl, rfl⟩))
          | (go_at_call 21; ((with_reducible refine C21.out.mono ?_); rintro e w5 ⟨rfl, rfl⟩))
          | (go_at_call 23; ((with_reducible refine C23.out.mono ?_); rintro e W1 ⟨A1, n1, c1, rfl, hn1, ho1, hf1⟩; subst hn1; have O1 := Lib.hid ho1; have F1 := Lib.hid hf1; have K1 := SK.out _ ((Fr.refl No wt).drew.then0 hf1); clear ho1 hf1))
          | (go_at_call 24; ((with_reducible refine (C24.out _ F1.out).mono ?_); rintro e W2 ⟨A2, n2, c2, rfl, hn2, ho2, hf2⟩; subst hn2; have O2 := Lib.hid ho2; have F2 := Lib.hid hf2; have K2 := SK.out _ (((Fr.refl No wt).drew.then0 F1.out).then0 hf2); clear ho2 hf2))
          | (go_at_call 22; ((with_reducible refine (equal_ids O1.out F2.out A2 c2 W2.heap.size HSL.out (Reads.of_own O2.out)).mono ?_); rintro e W3 ⟨rfl, hf3⟩; have F3 := Lib.hid hf3; have K3 := SK.out _ ((((Fr.refl No wt).drew.then0 F1.out).then0 F2.out).then0 hf3); clear hf3)))
      all_goals
        have PN := Lib.hid (((P4.out.fr0 F1.out).fr0 F2.out).fr0 F3.out)
        have hlg := HLE.out
        clear K1 K2 K3 k0
        go_wp2
        go_roundw
        case rel => exact ⟨k + 1, b2, D2, s2, g2, v2, L2, rfl, by go_num, by omega, by omega, PN⟩
        case measure => simp [intOf]; omega
    · obtain rfl : k = n := by omega
      go_wp2_with fail
      refine (works_any _).mono ?_
      rintro e wf ⟨rfl, hf⟩
      go_wp2
      go_ret
      exact ⟨rfl, P.out.fr.then0 hf⟩
end Go.Proofs.Ytbndmelkdamgjaa.It
