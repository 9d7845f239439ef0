/- AgingSorts: the walk (printed by tools/aging_sggen.py). -/
import Derived.Test.YtabajcofddhelaaSn
import Derived.Test.YtabajcofddhelaaWk
namespace Go.Proofs.Ytabajcofddhelaa
open Go.RowKit Go.Wk

theorem own_reads {w w' : World} {base n c : Nat} {A : Option Addr} {l : List IV} (h : w.ownsRow base 23 4 (.slice A n c) n (icells l)) (hf : Fr No w w') : Reads w' w'.heap.size 4 A n (icells l) := (Reads.of_own h).fr0 hf
theorem own_zeroA {w : World} {base n c g off : Nat} {e : TypeId} {size : Nat} {xs : List Value} (h : w.ownsRow base e size (.slice (some ⟨g, off, none⟩) n c) n xs) : off = 0 := by
  rcases h.2 with ⟨h1, _⟩ | ⟨g', cap, cur, h1, _⟩
  · cases h1
  · injection h1 with h1; cases h1; rfl
set_option maxRecDepth 100000 in
set_option maxHeartbeats 16000000 in
theorem agingSorts_walk (A : Option Addr) (n c : Nat) (l : List IV) (y : Int) (w : World) (h : Reads w w.heap.size 4 A n (icells l)) (hn : n ≤ 9223372036854775807) :
    Calls Try.prog 8 #[.slice A n c, .int .i64 y] w fun e w' => e = .returned (.bool true) ∧ Fr No w w' := by
  have HR := Lib.hid h
  have HL := Lib.hid (reads_ilen h)
  clear h
  by_cases b1 : 50 < n
  · go_enter Try.func8, Try.ntmps8
    go_wp2_with fail
    refine (works_any _).mono ?_
    rintro x w1 ⟨rfl, hf⟩
    go_wp2
    go_ret
    exact ⟨rfl, hf⟩
  have hn50 : n ≤ 50 := by omega
  clear b1
  have HS1 := Lib.hid (Sort_any A n c l y w HR.out hn)
  go_enter Try.func8, Try.ntmps8
  go_wp2_with fail
  refine HS1.out.mono ?_
  rintro x w1 ⟨hf1, ⟨he, rfl⟩ | ⟨he, As, cs, s, rfl, hso, hcs, ho⟩⟩
  · have hb : (listE y l [] != 0) = true := by simpa using he
    generalize listE y l [] = e at *
    clear he HS1
    go_wp2_with fail
    refine (works_any _).mono ?_
    rintro x w2 ⟨rfl, hf⟩
    go_wp2
    go_ret
    exact ⟨rfl, hf1.then0 hf⟩
  · obtain ⟨hy, hl0, hokl, _⟩ := listE_ok he
    have HSL := Lib.hid (show s.length = n by rw [hso.len, HL.out])
    have HOKS := Lib.hid (show ∀ z ∈ s, Ok z from fun z hz => hokl z (hso.perm.mem_iff.1 hz))
    have HOKL := Lib.hid hokl
    have HE2 := Lib.hid (show listE y s [] = 0 from listE_zero hy (by rw [HSL.out]; omega) HOKS.out (fun z hz => by cases hz))
    have HY := Lib.hid hy
    have R1 := Lib.hid (own_reads ho (Fr.refl No w1))
    have HO1 := Lib.hid ho
    have HSO := Lib.hid hso
    have F1 := Lib.hid hf1
    clear he hokl hso ho hf1 hy HS1
    have HS2 := Lib.hid (Sort_any As n cs s y w1 R1.out hn)
    go_wp2_with fail
    refine HS2.out.mono ?_
    rintro x w2 ⟨hf2, ⟨he, rfl⟩ | ⟨he, Ag, cg, s', rfl, hso', hcg, ho'⟩⟩
    · exact absurd HE2.out he
    obtain rfl := HSO.out.fix hso'
    have HO2 := Lib.hid ho'
    have R2 := Lib.hid (own_reads ho' (Fr.refl No w2))
    have F2 := Lib.hid (F1.out.then0 hf2)
    have R1' := Lib.hid (R1.out.fr0 hf2)
    clear he hso' ho' hf2 HS2 R1
    go_wp2
    go_loopw [9] (fun i wr => ∃ k : Nat, i = .int .i64 k ∧ k ≤ n ∧ Hid (Fr No w2 wr)) (fun i _ => n - (intOf i).toNat)
    case atStart => exact ⟨0, rfl, Nat.zero_le _, Lib.hid (Fr.refl _ _)⟩
    case round =>
      obtain ⟨k, rfl, hk, HF⟩ := hrel
      by_cases hlt : k < n
      · have hlt2 : (k : Int) < (n : Int) := by omega
        have HIN := Lib.hid HSO.out.inOrder
        have hks : k < s'.length := by rw [HSL.out]; exact hlt
        obtain ⟨x, hx⟩ : ∃ x, x = s'.getD k IV.zero := ⟨_, rfl⟩
        have HXM := Lib.hid (show x ∈ s' by rw [hx]; exact getD_mem' hks)
        have HOKX := Lib.hid (HOKS.out x HXM.out)
        have HM := Lib.hid (show aheadN y l x = aheadN y s' x from HSO.out.ahead x)
        obtain ⟨m, hm⟩ : ∃ m, m = aheadN y s' x := ⟨_, rfl⟩
        have hmk : m ≤ k := by rw [hm, hx]; exact (ahead_at HIN.out hks).1
        have HTI := Lib.hid (show ∀ j, m ≤ j → j ≤ k → (s'.getD j IV.zero).seq = x.seq ∧ (s'.getD j IV.zero).id = x.id by rw [hm, hx]; exact ahead_tied HIN.out hks)
        have HEX := Lib.hid (show listE y l [x] = 0 from listE_zero HY.out hl0 HOKL.out (fun z hz => by rw [List.mem_singleton.1 hz]; exact HOKX.out))
        have HAV := Lib.hid (show aheadV y l x = m by unfold aheadV; rw [if_pos HEX.out, HM.out, hm])
        have CS := Lib.hid (fun X (hX : Fr No w2 X) => count_any As n cs s' x X (R1'.out.fr0 hX) (by omega))
        have CL := Lib.hid (fun X (hX : Fr No w2 X) => count_any A n c l x X (HR.out.fr0 (F2.out.then0 hX)) (by omega))
        have HCT := Lib.hid (HSO.out.count x)
        rw [HCT.out] at CS
        generalize l.count x = ct at *
        have hct : (((ct : Nat) : Int) != ((ct : Nat) : Int)) = false := by simp
        have AH := Lib.hid (fun X (hX : Fr No w2 X) => Ahead_any A n c l x y X (HR.out.fr0 (F2.out.then0 hX)) hn)
        rw [HAV.out, HEX.out] at AH
        have HBF := Lib.hid (fun q (hq : k = q + 1) => show befB y x (s'.getD q IV.zero) = false ∧ chkE y [x, s'.getD q IV.zero] = 0 from by
          have h1 : q < s'.length := by rw [HSL.out]; omega
          have h2 := HIN.out q k (by omega) hks
          refine ⟨?_, chkE_good HY.out.1 HY.out.2 (fun z hz => ?_)⟩
          · unfold befB
            rw [decide_eq_false]
            rintro ⟨-, h3⟩
            exact h2 (by rw [← hx]; exact h3)
          · rcases List.mem_cons.1 hz with rfl | hz
            · exact HOKX.out
            · rw [List.mem_singleton.1 hz]; exact HOKS.out _ (getD_mem' h1))
        obtain ⟨q1, o1, e1, hq1, _, a0, a1, a2, a3⟩ := reads_item' R1'.out hlt HF.out
        obtain ⟨q2, o2, e2, hq2, _, b0, b1, b2, b3⟩ := reads_item' R2.out hlt HF.out
        subst e1 e2
        obtain rfl := own_zeroA HO1.out
        obtain rfl := own_zeroA HO2.out
        rw [← hx] at a0 a1 a2 a3 b0 b1 b2 b3
        have SK := Lib.hid (show ∀ X, Fr No w2 X → X.cell? ⟨q1, k * 4, none⟩ = some (.int .i64 x.id) ∧ X.cell? ⟨q1, k * 4 + 1, none⟩ = some (.int .i64 x.pr) ∧ X.cell? ⟨q1, k * 4 + 2, none⟩ = some (.int .i64 x.since) ∧ X.cell? ⟨q1, k * 4 + 3, none⟩ = some (.int .i64 x.seq) ∧ X.cell? ⟨q2, k * 4, none⟩ = some (.int .i64 x.id) ∧ X.cell? ⟨q2, k * 4 + 1, none⟩ = some (.int .i64 x.pr) ∧ X.cell? ⟨q2, k * 4 + 2, none⟩ = some (.int .i64 x.since) ∧ X.cell? ⟨q2, k * 4 + 3, none⟩ = some (.int .i64 x.seq) from fun X hX => by
          obtain ⟨_, _, e1, _, _, u0, u1, u2, u3⟩ := reads_item' R1'.out hlt hX
          obtain ⟨_, _, e2, _, _, v0, v1, v2, v3⟩ := reads_item' R2.out hlt hX
          cases e1; cases e2
          rw [← hx] at u0 u1 u2 u3 v0 v1 v2 v3
          simp only [Nat.zero_add] at u0 u1 u2 u3 v0 v1 v2 v3
          exact ⟨u0, u1, u2, u3, v0, v1, v2, v3⟩)
        have HX := Lib.hid hx
        have HMM := Lib.hid hm
        clear hx hm HM HEX HAV HCT hks
        obtain ⟨xi, xp, xs, xq⟩ := x
        dsimp only at a0 a1 a2 a3 b0 b1 b2 b3 CS CL AH SK
        simp only [Nat.zero_add] at a0 a1 a2 a3 b0 b1 b2 b3
        have F4 : Fr No w2 wr.drew := HF.out.drew
        have K0 : wr.drew.cell? ⟨q1, k * 4, none⟩ = some (.int .i64 xi) ∧ wr.drew.cell? ⟨q1, k * 4 + 1, none⟩ = some (.int .i64 xp) ∧ wr.drew.cell? ⟨q1, k * 4 + 2, none⟩ = some (.int .i64 xs) ∧ wr.drew.cell? ⟨q1, k * 4 + 3, none⟩ = some (.int .i64 xq) ∧ wr.drew.cell? ⟨q2, k * 4, none⟩ = some (.int .i64 xi) ∧ wr.drew.cell? ⟨q2, k * 4 + 1, none⟩ = some (.int .i64 xp) ∧ wr.drew.cell? ⟨q2, k * 4 + 2, none⟩ = some (.int .i64 xs) ∧ wr.drew.cell? ⟨q2, k * 4 + 3, none⟩ = some (.int .i64 xq) := SK.out _ F4
        go_wp2
        go_region_held3 (fun w' => w'.cell? ⟨q1, k * 4, none⟩ = some (.int .i64 xi) ∧ w'.cell? ⟨q1, k * 4 + 1, none⟩ = some (.int .i64 xp) ∧ w'.cell? ⟨q1, k * 4 + 2, none⟩ = some (.int .i64 xs) ∧ w'.cell? ⟨q1, k * 4 + 3, none⟩ = some (.int .i64 xq) ∧ w'.cell? ⟨q2, k * 4, none⟩ = some (.int .i64 xi) ∧ w'.cell? ⟨q2, k * 4 + 1, none⟩ = some (.int .i64 xp) ∧ w'.cell? ⟨q2, k * 4 + 2, none⟩ = some (.int .i64 xs) ∧ w'.cell? ⟨q2, k * 4 + 3, none⟩ = some (.int .i64 xq)) (first | exact K2 | exact K1 | exact K0 | go_keep)
          (first
            | (go_at_call 24; refine (CL.out w5 F5).mono ?_; rintro e w6 ⟨rfl, hf⟩; have F6 : Fr No w2 w6 := F5.then0 hf; have K2 : w6.cell? ⟨q1, k * 4, none⟩ = some (.int .i64 xi) ∧ w6.cell? ⟨q1, k * 4 + 1, none⟩ = some (.int .i64 xp) ∧ w6.cell? ⟨q1, k * 4 + 2, none⟩ = some (.int .i64 xs) ∧ w6.cell? ⟨q1, k * 4 + 3, none⟩ = some (.int .i64 xq) ∧ w6.cell? ⟨q2, k * 4, none⟩ = some (.int .i64 xi) ∧ w6.cell? ⟨q2, k * 4 + 1, none⟩ = some (.int .i64 xp) ∧ w6.cell? ⟨q2, k * 4 + 2, none⟩ = some (.int .i64 xs) ∧ w6.cell? ⟨q2, k * 4 + 3, none⟩ = some (.int .i64 xq) := SK.out w6 F6)
            | (go_at_call 24; refine (CS.out wr.drew F4).mono ?_; rintro e w5 ⟨rfl, hf⟩; have F5 : Fr No w2 w5 := F4.then0 hf; have K1 : w5.cell? ⟨q1, k * 4, none⟩ = some (.int .i64 xi) ∧ w5.cell? ⟨q1, k * 4 + 1, none⟩ = some (.int .i64 xp) ∧ w5.cell? ⟨q1, k * 4 + 2, none⟩ = some (.int .i64 xs) ∧ w5.cell? ⟨q1, k * 4 + 3, none⟩ = some (.int .i64 xq) ∧ w5.cell? ⟨q2, k * 4, none⟩ = some (.int .i64 xi) ∧ w5.cell? ⟨q2, k * 4 + 1, none⟩ = some (.int .i64 xp) ∧ w5.cell? ⟨q2, k * 4 + 2, none⟩ = some (.int .i64 xs) ∧ w5.cell? ⟨q2, k * 4 + 3, none⟩ = some (.int .i64 xq) := SK.out w5 F5))
        clear a0 a1 a2 a3 b0 b1 b2 b3 K0 K1
        obtain ⟨a0, a1, a2, a3, -⟩ := K2
        go_wp2_with fail
        refine (AH.out w6 F6).mono ?_
        rintro e w7 ⟨rfl, hf7⟩
        have F7 : Fr No w2 w7 := F6.then0 hf7
        have F8 := Lib.hid F7
        clear a0 a1 a2 a3 F4 F5 hf7 CS CL AH
        obtain ⟨a0, a1, a2, a3, b0, b1, b2, b3⟩ := SK.out w7 F7
        clear F6 F7
        have hmk1 : ¬ ((k : Int) < (m : Int)) := by omega
        rcases k with _ | q
        · obtain rfl : m = 0 := by omega
          clear hmk1
          go_wp2
          go_quiet (fail)
          go_wp2
          go_roundw
          case rel => exact ⟨1, by go_num, by omega, Lib.hid (F8.out.drewN _)⟩
          case measure => simp [intOf]; omega
        · have hq9 : q < n := by omega
          have hmk3 : ¬ ((q : Int) + 1 < (m : Int)) := by omega
          have hmk4 : decide ((q : Int) + 1 < (m : Int)) = false := decide_eq_false hmk3
          have hq3 : (q : Int) + 1 < (n : Int) := by omega
          have hq4 : (q : Int) < (n : Int) := by omega
          have hq5 : (0 : Int) < (q : Int) + 1 := by omega
          have hq6 : (0 : Int) ≤ (q : Int) := by omega
          have hq7 : (0 : Int) ≤ (q : Int) + 1 := by omega
          have hqt : ((q : Int) + 1).toNat = q + 1 := by omega
          have hw1 : IntKind.i64.wrap ((q : Int) + 1 - 1) = (q : Int) := by simp only [IntKind.wrap_i64]; omega
          have hw3 : IntKind.i64.wrap (q : Int) = (q : Int) := by simp only [IntKind.wrap_i64]; omega
          have hbf := HBF.out q rfl
          obtain ⟨z, hz⟩ : ∃ z, z = s'.getD q IV.zero := ⟨_, rfl⟩
          rw [← hz] at hbf
          have SZ := Lib.hid (show ∀ X, Fr No w2 X → X.cell? ⟨q1, (q + 1) * 4, none⟩ = some (.int .i64 xi) ∧ X.cell? ⟨q1, (q + 1) * 4 + 1, none⟩ = some (.int .i64 xp) ∧ X.cell? ⟨q1, (q + 1) * 4 + 2, none⟩ = some (.int .i64 xs) ∧ X.cell? ⟨q1, (q + 1) * 4 + 3, none⟩ = some (.int .i64 xq) ∧ X.cell? ⟨q1, q * 4, none⟩ = some (.int .i64 z.id) ∧ X.cell? ⟨q1, q * 4 + 1, none⟩ = some (.int .i64 z.pr) ∧ X.cell? ⟨q1, q * 4 + 2, none⟩ = some (.int .i64 z.since) ∧ X.cell? ⟨q1, q * 4 + 3, none⟩ = some (.int .i64 z.seq) from fun X hX => by
            obtain ⟨_, _, e1, _, _, u0, u1, u2, u3⟩ := reads_item' R1'.out hq9 hX
            obtain ⟨_, _, e2, _, _, v0, v1, v2, v3⟩ := reads_item' R1'.out hlt hX
            cases e1; cases e2
            rw [← HX.out] at v0 v1 v2 v3
            rw [← hz] at u0 u1 u2 u3
            simp only [Nat.zero_add] at u0 u1 u2 u3 v0 v1 v2 v3
            exact ⟨v0, v1, v2, v3, u0, u1, u2, u3⟩)
          have BF := Lib.hid (fun X => Before_any ⟨xi, xp, xs, xq⟩ z y X)
          rw [hbf.1, hbf.2] at BF
          clear hbf hz HBF
          obtain ⟨zi, zp, zs, zq⟩ := z
          dsimp only at SZ BF
          by_cases hmq : m = q + 1
          · subst hmq
            have hm9 : ¬ ((q : Int) + 1 < (q : Int) + 1) := by omega
            go_wp2
            go_quiet (fail)
            rename Nat => nn
            have F9 := Lib.hid (F8.out.drewN nn)
            clear a0 a1 a2 a3
            obtain ⟨a0, a1, a2, a3, z0, z1, z2, z3⟩ := SZ.out (w7.drewN nn) F9.out
            have F4 : Fr No w2 (w7.drewN nn).drew := F9.out.drew
            have K0 : (w7.drewN nn).drew.cell? ⟨q1, (q + 1) * 4, none⟩ = some (.int .i64 xi) ∧ (w7.drewN nn).drew.cell? ⟨q1, (q + 1) * 4 + 1, none⟩ = some (.int .i64 xp) ∧ (w7.drewN nn).drew.cell? ⟨q1, (q + 1) * 4 + 2, none⟩ = some (.int .i64 xs) ∧ (w7.drewN nn).drew.cell? ⟨q1, (q + 1) * 4 + 3, none⟩ = some (.int .i64 xq) ∧ (w7.drewN nn).drew.cell? ⟨q1, q * 4, none⟩ = some (.int .i64 zi) ∧ (w7.drewN nn).drew.cell? ⟨q1, q * 4 + 1, none⟩ = some (.int .i64 zp) ∧ (w7.drewN nn).drew.cell? ⟨q1, q * 4 + 2, none⟩ = some (.int .i64 zs) ∧ (w7.drewN nn).drew.cell? ⟨q1, q * 4 + 3, none⟩ = some (.int .i64 zq) := SZ.out _ F4
            go_wp2
            go_region_held3 (fun w' => w'.cell? ⟨q1, (q + 1) * 4, none⟩ = some (.int .i64 xi) ∧ w'.cell? ⟨q1, (q + 1) * 4 + 1, none⟩ = some (.int .i64 xp) ∧ w'.cell? ⟨q1, (q + 1) * 4 + 2, none⟩ = some (.int .i64 xs) ∧ w'.cell? ⟨q1, (q + 1) * 4 + 3, none⟩ = some (.int .i64 xq) ∧ w'.cell? ⟨q1, q * 4, none⟩ = some (.int .i64 zi) ∧ w'.cell? ⟨q1, q * 4 + 1, none⟩ = some (.int .i64 zp) ∧ w'.cell? ⟨q1, q * 4 + 2, none⟩ = some (.int .i64 zs) ∧ w'.cell? ⟨q1, q * 4 + 3, none⟩ = some (.int .i64 zq)) (first | exact K1 | exact K0 | go_keep)
              (first
                | (go_at_call 19; refine (BF.out _).mono ?_; rintro e w10 ⟨rfl, hf⟩; have F5 : Fr No w2 w10 := F4.then0 hf; have K1 : w10.cell? ⟨q1, (q + 1) * 4, none⟩ = some (.int .i64 xi) ∧ w10.cell? ⟨q1, (q + 1) * 4 + 1, none⟩ = some (.int .i64 xp) ∧ w10.cell? ⟨q1, (q + 1) * 4 + 2, none⟩ = some (.int .i64 xs) ∧ w10.cell? ⟨q1, (q + 1) * 4 + 3, none⟩ = some (.int .i64 xq) ∧ w10.cell? ⟨q1, q * 4, none⟩ = some (.int .i64 zi) ∧ w10.cell? ⟨q1, q * 4 + 1, none⟩ = some (.int .i64 zp) ∧ w10.cell? ⟨q1, q * 4 + 2, none⟩ = some (.int .i64 zs) ∧ w10.cell? ⟨q1, q * 4 + 3, none⟩ = some (.int .i64 zq) := SZ.out w10 F5))
            have F10 := Lib.hid F5
            clear F4 F5 K0 K1 a0 a1 a2 a3 z0 z1 z2 z3
            go_wp2
            go_roundw
            case rel => exact ⟨q + 1 + 1, by go_num, by omega, F10⟩
            case measure => simp [intOf]; omega
          · have hm8 : (m : Int) < (q : Int) + 1 := by omega
            have hm7 : m < n := by omega
            have hm6 : (m : Int) < (n : Int) := by omega
            have hm5 : (m : Int) ≤ (q : Int) + 1 := by omega
            obtain ⟨t, ht⟩ : ∃ t, t = s'.getD m IV.zero := ⟨_, rfl⟩
            have ST := Lib.hid (show ∀ X, Fr No w2 X → X.cell? ⟨q1, (q + 1) * 4, none⟩ = some (.int .i64 xi) ∧ X.cell? ⟨q1, (q + 1) * 4 + 1, none⟩ = some (.int .i64 xp) ∧ X.cell? ⟨q1, (q + 1) * 4 + 2, none⟩ = some (.int .i64 xs) ∧ X.cell? ⟨q1, (q + 1) * 4 + 3, none⟩ = some (.int .i64 xq) ∧ X.cell? ⟨q1, m * 4, none⟩ = some (.int .i64 t.id) ∧ X.cell? ⟨q1, m * 4 + 1, none⟩ = some (.int .i64 t.pr) ∧ X.cell? ⟨q1, m * 4 + 2, none⟩ = some (.int .i64 t.since) ∧ X.cell? ⟨q1, m * 4 + 3, none⟩ = some (.int .i64 t.seq) from fun X hX => by
              obtain ⟨_, _, e1, _, _, u0, u1, u2, u3⟩ := reads_item' R1'.out hm7 hX
              obtain ⟨_, _, e2, _, _, v0, v1, v2, v3⟩ := reads_item' R1'.out hlt hX
              cases e1; cases e2
              rw [← HX.out] at v0 v1 v2 v3
              rw [← ht] at u0 u1 u2 u3
              simp only [Nat.zero_add] at u0 u1 u2 u3 v0 v1 v2 v3
              exact ⟨v0, v1, v2, v3, u0, u1, u2, u3⟩)
            clear ht
            by_cases hte : t = ⟨xi, xp, xs, xq⟩
            · subst hte
              dsimp only at ST
              obtain ⟨-, -, -, -, t0, t1, t2, t3⟩ := ST.out w7 F8.out
              go_wp2
              go_quiet (fail)
              rename Nat => nn
              have F9 := Lib.hid (F8.out.drewN nn)
              clear a0 a1 a2 a3 t0 t1 t2 t3
              obtain ⟨a0, a1, a2, a3, z0, z1, z2, z3⟩ := SZ.out (w7.drewN nn) F9.out
              have F4 : Fr No w2 (w7.drewN nn).drew := F9.out.drew
              have K0 : (w7.drewN nn).drew.cell? ⟨q1, (q + 1) * 4, none⟩ = some (.int .i64 xi) ∧ (w7.drewN nn).drew.cell? ⟨q1, (q + 1) * 4 + 1, none⟩ = some (.int .i64 xp) ∧ (w7.drewN nn).drew.cell? ⟨q1, (q + 1) * 4 + 2, none⟩ = some (.int .i64 xs) ∧ (w7.drewN nn).drew.cell? ⟨q1, (q + 1) * 4 + 3, none⟩ = some (.int .i64 xq) ∧ (w7.drewN nn).drew.cell? ⟨q1, q * 4, none⟩ = some (.int .i64 zi) ∧ (w7.drewN nn).drew.cell? ⟨q1, q * 4 + 1, none⟩ = some (.int .i64 zp) ∧ (w7.drewN nn).drew.cell? ⟨q1, q * 4 + 2, none⟩ = some (.int .i64 zs) ∧ (w7.drewN nn).drew.cell? ⟨q1, q * 4 + 3, none⟩ = some (.int .i64 zq) := SZ.out _ F4
              go_wp2
              go_region_held3 (fun w' => w'.cell? ⟨q1, (q + 1) * 4, none⟩ = some (.int .i64 xi) ∧ w'.cell? ⟨q1, (q + 1) * 4 + 1, none⟩ = some (.int .i64 xp) ∧ w'.cell? ⟨q1, (q + 1) * 4 + 2, none⟩ = some (.int .i64 xs) ∧ w'.cell? ⟨q1, (q + 1) * 4 + 3, none⟩ = some (.int .i64 xq) ∧ w'.cell? ⟨q1, q * 4, none⟩ = some (.int .i64 zi) ∧ w'.cell? ⟨q1, q * 4 + 1, none⟩ = some (.int .i64 zp) ∧ w'.cell? ⟨q1, q * 4 + 2, none⟩ = some (.int .i64 zs) ∧ w'.cell? ⟨q1, q * 4 + 3, none⟩ = some (.int .i64 zq)) (first | exact K1 | exact K0 | go_keep)
                (first
                  | (go_at_call 19; refine (BF.out _).mono ?_; rintro e w10 ⟨rfl, hf⟩; have F5 : Fr No w2 w10 := F4.then0 hf; have K1 : w10.cell? ⟨q1, (q + 1) * 4, none⟩ = some (.int .i64 xi) ∧ w10.cell? ⟨q1, (q + 1) * 4 + 1, none⟩ = some (.int .i64 xp) ∧ w10.cell? ⟨q1, (q + 1) * 4 + 2, none⟩ = some (.int .i64 xs) ∧ w10.cell? ⟨q1, (q + 1) * 4 + 3, none⟩ = some (.int .i64 xq) ∧ w10.cell? ⟨q1, q * 4, none⟩ = some (.int .i64 zi) ∧ w10.cell? ⟨q1, q * 4 + 1, none⟩ = some (.int .i64 zp) ∧ w10.cell? ⟨q1, q * 4 + 2, none⟩ = some (.int .i64 zs) ∧ w10.cell? ⟨q1, q * 4 + 3, none⟩ = some (.int .i64 zq) := SZ.out w10 F5))
              have F10 := Lib.hid F5
              clear F4 F5 K0 K1 a0 a1 a2 a3 z0 z1 z2 z3
              go_wp2
              go_roundw
              case rel => exact ⟨q + 1 + 1, by go_num, by omega, F10⟩
              case measure => simp [intOf]; omega
            · have hne := fun W => (item_ne hte W).2
              obtain ⟨ti, tp, ts, tq⟩ := t
              dsimp only at ST hne
              have hmk2 : m ≤ q + 1 := by omega
              have hcm : cs = m ↔ False := ⟨fun h => by omega, False.elim⟩
              have hm4 : (m : Int) ≤ (q : Int) + 1 + 1 := by omega
              have hm3 : (q : Int) + 1 + 1 ≤ (cs : Int) := by omega
              have hm2 : (0 : Int) ≤ (m : Int) := by omega
              have hw2 : IntKind.i64.wrap ((q : Int) + 1 + 1) = (q : Int) + 1 + 1 := by simp only [IntKind.wrap_i64]; omega
              have hwt : ((q : Int) + 1 + 1).toNat = q + 1 + 1 := by omega
              have TD := Lib.hid (fun X (hX : Fr No w2 X) c' => tied_any (some ⟨q1, m * 4, none⟩) (q + 1 + 1 - m) c' ((s'.drop m).take (q + 1 + 1 - m)) xq xi X (by have := reads_part (R1'.out.fr0 hX) hmk2 hlt hcs; rw [Nat.zero_add] at this; exact this) (by omega) (fun j hj => by rw [part_at s' hj]; exact HTI.out (m + j) (by omega) (by omega)))
              have F4 : Fr No w2 w7.drew := F8.out.drew
              have K0 : w7.drew.cell? ⟨q1, (q + 1) * 4, none⟩ = some (.int .i64 xi) ∧ w7.drew.cell? ⟨q1, (q + 1) * 4 + 1, none⟩ = some (.int .i64 xp) ∧ w7.drew.cell? ⟨q1, (q + 1) * 4 + 2, none⟩ = some (.int .i64 xs) ∧ w7.drew.cell? ⟨q1, (q + 1) * 4 + 3, none⟩ = some (.int .i64 xq) ∧ w7.drew.cell? ⟨q1, m * 4, none⟩ = some (.int .i64 ti) ∧ w7.drew.cell? ⟨q1, m * 4 + 1, none⟩ = some (.int .i64 tp) ∧ w7.drew.cell? ⟨q1, m * 4 + 2, none⟩ = some (.int .i64 ts) ∧ w7.drew.cell? ⟨q1, m * 4 + 3, none⟩ = some (.int .i64 tq) := ST.out _ F4
              obtain ⟨a0, a1, a2, a3, t0, t1, t2, t3⟩ := ST.out _ F8.out
              go_wp2
              go_region_held3 (fun w' => w'.cell? ⟨q1, (q + 1) * 4, none⟩ = some (.int .i64 xi) ∧ w'.cell? ⟨q1, (q + 1) * 4 + 1, none⟩ = some (.int .i64 xp) ∧ w'.cell? ⟨q1, (q + 1) * 4 + 2, none⟩ = some (.int .i64 xs) ∧ w'.cell? ⟨q1, (q + 1) * 4 + 3, none⟩ = some (.int .i64 xq) ∧ w'.cell? ⟨q1, m * 4, none⟩ = some (.int .i64 ti) ∧ w'.cell? ⟨q1, m * 4 + 1, none⟩ = some (.int .i64 tp) ∧ w'.cell? ⟨q1, m * 4 + 2, none⟩ = some (.int .i64 ts) ∧ w'.cell? ⟨q1, m * 4 + 3, none⟩ = some (.int .i64 tq)) (first | exact K1 | exact K0 | go_keep)
                (first
                  | (go_at_call 26; refine (TD.out _ F4 _).mono ?_; rintro e w8 ⟨rfl, hf⟩; have F5 : Fr No w2 w8 := F4.then0 hf; have K1 : w8.cell? ⟨q1, (q + 1) * 4, none⟩ = some (.int .i64 xi) ∧ w8.cell? ⟨q1, (q + 1) * 4 + 1, none⟩ = some (.int .i64 xp) ∧ w8.cell? ⟨q1, (q + 1) * 4 + 2, none⟩ = some (.int .i64 xs) ∧ w8.cell? ⟨q1, (q + 1) * 4 + 3, none⟩ = some (.int .i64 xq) ∧ w8.cell? ⟨q1, m * 4, none⟩ = some (.int .i64 ti) ∧ w8.cell? ⟨q1, m * 4 + 1, none⟩ = some (.int .i64 tp) ∧ w8.cell? ⟨q1, m * 4 + 2, none⟩ = some (.int .i64 ts) ∧ w8.cell? ⟨q1, m * 4 + 3, none⟩ = some (.int .i64 tq) := ST.out w8 F5))
              have F9 := Lib.hid F5
              clear F4 F5 K0 K1 TD hne hwt hw2
              clear a0 a1 a2 a3 t0 t1 t2 t3
              obtain ⟨a0, a1, a2, a3, z0, z1, z2, z3⟩ := SZ.out (w8) F9.out
              have F4 : Fr No w2 (w8).drew := F9.out.drew
              have K0 : (w8).drew.cell? ⟨q1, (q + 1) * 4, none⟩ = some (.int .i64 xi) ∧ (w8).drew.cell? ⟨q1, (q + 1) * 4 + 1, none⟩ = some (.int .i64 xp) ∧ (w8).drew.cell? ⟨q1, (q + 1) * 4 + 2, none⟩ = some (.int .i64 xs) ∧ (w8).drew.cell? ⟨q1, (q + 1) * 4 + 3, none⟩ = some (.int .i64 xq) ∧ (w8).drew.cell? ⟨q1, q * 4, none⟩ = some (.int .i64 zi) ∧ (w8).drew.cell? ⟨q1, q * 4 + 1, none⟩ = some (.int .i64 zp) ∧ (w8).drew.cell? ⟨q1, q * 4 + 2, none⟩ = some (.int .i64 zs) ∧ (w8).drew.cell? ⟨q1, q * 4 + 3, none⟩ = some (.int .i64 zq) := SZ.out _ F4
              go_wp2
              go_region_held3 (fun w' => w'.cell? ⟨q1, (q + 1) * 4, none⟩ = some (.int .i64 xi) ∧ w'.cell? ⟨q1, (q + 1) * 4 + 1, none⟩ = some (.int .i64 xp) ∧ w'.cell? ⟨q1, (q + 1) * 4 + 2, none⟩ = some (.int .i64 xs) ∧ w'.cell? ⟨q1, (q + 1) * 4 + 3, none⟩ = some (.int .i64 xq) ∧ w'.cell? ⟨q1, q * 4, none⟩ = some (.int .i64 zi) ∧ w'.cell? ⟨q1, q * 4 + 1, none⟩ = some (.int .i64 zp) ∧ w'.cell? ⟨q1, q * 4 + 2, none⟩ = some (.int .i64 zs) ∧ w'.cell? ⟨q1, q * 4 + 3, none⟩ = some (.int .i64 zq)) (first | exact K1 | exact K0 | go_keep)
                (first
                  | (go_at_call 19; refine (BF.out _).mono ?_; rintro e w10 ⟨rfl, hf⟩; have F5 : Fr No w2 w10 := F4.then0 hf; have K1 : w10.cell? ⟨q1, (q + 1) * 4, none⟩ = some (.int .i64 xi) ∧ w10.cell? ⟨q1, (q + 1) * 4 + 1, none⟩ = some (.int .i64 xp) ∧ w10.cell? ⟨q1, (q + 1) * 4 + 2, none⟩ = some (.int .i64 xs) ∧ w10.cell? ⟨q1, (q + 1) * 4 + 3, none⟩ = some (.int .i64 xq) ∧ w10.cell? ⟨q1, q * 4, none⟩ = some (.int .i64 zi) ∧ w10.cell? ⟨q1, q * 4 + 1, none⟩ = some (.int .i64 zp) ∧ w10.cell? ⟨q1, q * 4 + 2, none⟩ = some (.int .i64 zs) ∧ w10.cell? ⟨q1, q * 4 + 3, none⟩ = some (.int .i64 zq) := SZ.out w10 F5))
              have F10 := Lib.hid F5
              clear F4 F5 K0 K1 a0 a1 a2 a3 z0 z1 z2 z3
              go_wp2
              go_roundw
              case rel => exact ⟨q + 1 + 1, by go_num, by omega, F10⟩
              case measure => simp [intOf]; omega
      · go_wp2_with fail
        refine (works_any _).mono ?_
        rintro x w8 ⟨rfl, hf⟩
        go_wp2
        go_ret
        exact ⟨rfl, (F2.out.then0 HF.out).then0 hf⟩
end Go.Proofs.Ytabajcofddhelaa
