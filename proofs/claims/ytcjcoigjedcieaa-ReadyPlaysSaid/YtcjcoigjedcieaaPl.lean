/- ReadyPlays: the walk (printed by tools/ready_plgen.py). -/
import Derived.Test.YtcjcoigjedcieaaPb
import Derived.Test.YtcjcoigjedcieaaBad
namespace Go.Proofs.Ytcjcoigjedcieaa
open Go.RowKit Go.Wk

abbrev kSt : List IntKind := [.i64, .i64, .i64, .i64]
theorem four_at {bytes : Nat} {w : World} {A : Option Addr} {n c : Nat} {es : List (List Int)} (h : RowF kSt bytes w A n c es) {k : Nat} (hk : k < n) :
    ∃ b off d a p u, A = some ⟨b, off, none⟩ ∧ b < w.heap.size ∧ fits a ∧
      w.cell? ⟨b, off + k * 4, none⟩ = some (.int .i64 d) ∧ w.cell? ⟨b, off + k * 4 + 1, none⟩ = some (.int .i64 a) ∧ w.cell? ⟨b, off + k * 4 + 2, none⟩ = some (.int .i64 p) ∧ w.cell? ⟨b, off + k * 4 + 3, none⟩ = some (.int .i64 u) := by
  obtain ⟨b, off, hA, hb, hl, hw, hc⟩ := h.at_ (by decide) hk
  generalize es.getD k [] = l at *
  match l, hl with
  | [d, a, p, u], _ =>
    have h1 := hw 1 .i64 a rfl rfl
    simp [Lit.wf] at h1
    exact ⟨b, off, d, a, p, u, hA, hb, ⟨h1.1, h1.2⟩, hc 0 _ rfl, hc 1 _ rfl, hc 2 _ rfl, hc 3 _ rfl⟩
theorem PairV.after {w w1 w2 : World} {b r : Nat} {D E : Nat → Prop} {s s' t : QS} (h : PairV w w1 b D s r E t) (hq : TurnedAt w1 b D s' w2) : RAt w2 r E t := by
  obtain ⟨_, _, hf, _⟩ := hq
  exact h.r.fr hf (fun k hk hd => h.ap k hd hk)
theorem PairV.new {w w1 w2 : World} {b : Nat} {D : Nat → Prop} {z g : Int} (hq : NewAt w b D (QS.new z g) w1) (hb : Blk w2 w1.heap.size 83 #[.bool true, .slice none 0 0, .int .i64 z, .int .i64 g, .int .i64 0]) (hf : Fr No w1 w2) (h1 : 0 ≤ z ∧ z ≤ 1024) (h2 : 1 ≤ g ∧ g ≤ 68719476736) :
    PairV w w2 b D (QS.new z g) w1.heap.size (domR w1.heap.size (.slice none 0 0)) (QS.new z g) := by
  refine ⟨hq.1.fr0 hf, ⟨.slice none 0 0, ⟨hb, own_nil _ _ _ _, Nat.zero_le _, h1, (by decide : (0 : Int) ≤ 0 ∧ (0 : Int) ≤ 1000000)⟩, rfl⟩, hq.2.2.then0 hf, hq.2.1, fun k hk => ?_, fun k h1 h2 => ?_, Rel.new h1 h2⟩
  · rcases hk with rfl | hk
    · exact hq.2.2.size
    · simp [Value.ownBlock] at hk
  · have := hq.1.lt h1
    rcases h2 with h2 | h2
    · omega
    · simp [Value.ownBlock] at h2
/-- The pair that was copied: none, or one apart. -/
def OldP (w wr : World) (o1 o2 : Value) (D E : Nat → Prop) : Prop := (o1 = .pointer none ∧ o2 = .pointer none) ∨ ∃ b2 D2 s2 r2 E2 t2, o1 = .pointer (some ⟨b2, 0, none⟩) ∧ o2 = .pointer (some ⟨r2, 0, none⟩) ∧ PairV w wr b2 D2 s2 r2 E2 t2 ∧ ∀ k, D2 k ∨ E2 k → ¬ (D k ∨ E k)

set_option maxRecDepth 100000 in
set_option maxHeartbeats 40000000 in
theorem readyPlays_walk (a0 a1 : Int) (A : Option Addr) (n c : Nat) (es : List (List Int)) (id : Int) (w : World) (ha0 : 0 ≤ a0 ∧ a0 ≤ 255) (ha1 : 0 ≤ a1 ∧ a1 ≤ 4294967295) (h : RowF kSt 32 w A n c es) (hn : n ≤ 9223372036854775807) (hid : fits id) :
    Calls Try.prog 10 #[.int .u8 a0, .int .u32 a1, .slice A n c, .int .i64 id] w fun e w' => e = .returned (.bool true) ∧ Fr No w w' := by
  have HR := Lib.hid h
  clear h
  by_cases b1 : 100 < n
  · go_enter Try.func10, Try.ntmps10
    go_wp2_with fail
    refine (works_any _).mono ?_
    rintro x w1 ⟨rfl, hf⟩
    go_wp2
    go_ret
    exact ⟨rfl, hf⟩
  have hn100 : n ≤ 100 := by omega
  obtain ⟨z, hz⟩ : ∃ z, a0 % 33 = z := ⟨_, rfl⟩
  obtain ⟨g, hg⟩ : ∃ g, a1 + 1 = g := ⟨_, rfl⟩
  have HZ := Lib.hid (show 0 ≤ z ∧ z ≤ 1024 by omega)
  have HG := Lib.hid (show 1 ≤ g ∧ g ≤ 68719476736 by omega)
  have N0 := Lib.hid (New_any z g HZ.out HG.out w)
  have R0 := Lib.hid (fun X => rNew_any z g HZ.out HG.out X)
  have ha00 := ha0.1
  have ha01 := ha0.2
  have ha10 := ha1.1
  have ha11 := ha1.2
  have HID := Lib.hid hid
  clear ha0 ha1 hid b1
  go_enter Try.func10, Try.ntmps10
  go_wp2_with fail
  refine N0.out.mono ?_
  rintro e w1 ⟨b, D, rfl, hq⟩
  have HQ := Lib.hid hq
  clear hq
  go_wp2_with fail
  refine (R0.out _).mono ?_
  rintro e w2 ⟨rfl, hb, _, hf⟩
  have P := Lib.hid (PairV.new HQ.out hb hf HZ.out HG.out)
  have OL := Lib.hid (show OldP w w2 (.pointer none) (.pointer none) D (domR w1.heap.size (.slice none 0 0)) from .inl ⟨rfl, rfl⟩)
  clear hb hf HQ N0 R0
  go_wp2
  clear hz hg
  go_loopw [9, 11, 13, 14, 59] (fun qv rv ov wv iv wr => ∃ (k b : Nat) (D : Nat → Prop) (s : QS) (r : Nat) (E : Nat → Prop) (t : QS), qv = .pointer (some ⟨b, 0, none⟩) ∧ rv = .pointer (some ⟨r, 0, none⟩) ∧ iv = .int .i64 k ∧ k ≤ n ∧ s.added ≤ k ∧ Hid (PairV w wr b D s r E t) ∧ Hid (OldP w wr ov wv D E)) (fun _ _ _ _ iv _ => n - (intOf iv).toNat)
  case atStart => exact ⟨0, b, D, _, _, _, _, rfl, rfl, rfl, Nat.zero_le _, Int.le_refl _, P, OL⟩
  case round =>
    clear P OL
    obtain ⟨k, b, D, s, r, E, t, rfl, rfl, rfl, hk, hadd, P, OL⟩ := hrel
    by_cases hlt : k < n
    · obtain ⟨xb, xo, d, a, B, u, rfl, hxb, hfa, h0, h1, h2, h3⟩ := four_at HR.out hlt
      have c0 := (P.out.fr.cell (p := ⟨xb, xo + k * 4, none⟩) hxb (fun x => x)).trans h0
      have c1 := (P.out.fr.cell (p := ⟨xb, xo + k * 4 + 1, none⟩) hxb (fun x => x)).trans h1
      have c2 := (P.out.fr.cell (p := ⟨xb, xo + k * 4 + 2, none⟩) hxb (fun x => x)).trans h2
      have c3 := (P.out.fr.cell (p := ⟨xb, xo + k * 4 + 3, none⟩) hxb (fun x => x)).trans h3
      have hlt2 : (k : Int) < (n : Int) := by omega
      have HFA := Lib.hid hfa
      obtain ⟨wa, hwa⟩ : ∃ wa, wa = wr.alloc (.cells #[.int .i64 d, .int .i64 a, .int .i64 B, .int .i64 u] 70) := ⟨_, rfl⟩
      have FA := Lib.hid (show Fr No wr wa by rw [hwa]; exact (Fr.refl No wr).alloc _)
      have BX := Lib.hid (show Blk wa wr.heap.size 70 #[.int .i64 d, .int .i64 a, .int .i64 B, .int .i64 u] by rw [hwa]; exact Blk.new _ _ _)
      have HWA := Lib.hid hwa
      have HWS := Lib.hid (show wa.heap.size = wr.heap.size + 1 by rw [hwa]; simp)
      have HLT := Lib.hid (fun q (hq : D q ∨ E q) => P.out.lt hq)
      have hws := P.out.fr.size
      replace P := Lib.hid (P.out.fr0 FA.out)
      clear h0 h1 h2 h3 hwa hfa
      rcases OL.out with ⟨rfl, rfl⟩ | ⟨b2, D2, s2, r2, E2, t2, rfl, rfl, p2, hdis⟩
      · clear OL
        by_cases hd0 : d = 0
        · have hd := hd0.symm
          clear hd0
          subst hd
          have PD := Lib.hid (P.out.fr0 (Fr.refl No wa).drew)
          have BD := Lib.hid (BX.out.fr (Fr.refl No wa).drew (fun z => z))
          have hsD : ¬ D wr.heap.size := fun h => by have := HLT.out _ (.inl h); omega
          have hsE : ¬ E wr.heap.size := fun h => by have := HLT.out _ (.inr h); omega
          have SKC := Lib.hid (fun (X : World) (h : Blk X wr.heap.size 70 #[.int .i64 0, .int .i64 a, .int .i64 B, .int .i64 u]) => (show X.cell? ⟨wr.heap.size, 1, none⟩ = some (.int .i64 a) ∧ X.cell? ⟨wr.heap.size, 2, none⟩ = some (.int .i64 B) ∧ X.cell? ⟨wr.heap.size, 3, none⟩ = some (.int .i64 u) from ⟨h.cell 1, h.cell 2, h.cell 3⟩))
          have hp := P.out.rel.push HFA.out (p := B) (u := u) (by omega)
          have HP := Lib.hid hp
          have PQ := Lib.hid (Push_at b D s wa.drew PD.out.q a B u HFA.out (by omega))
          have PR := Lib.hid (fun Y (hY : TurnedAt wa.drew b D (pushS s a B u) Y) => rPush_at (PD.out.after hY) a B u (by rw [P.out.rel.added]; omega) (by rw [P.out.rel.len, P.out.rel.size]; exact P.out.rel.ok.lsz))
          rw [hp.1] at PR
          have hle := pushS_added s a B u
          generalize pushE s a B u = pe at *
          generalize pushS s a B u = s1 at *
          generalize rpushS t a B u = t1 at *
          have HRL := Lib.hid hp.2
          have hne : (pe != pe) = false := by simp
          clear hp HP
          obtain ⟨q1, q2, q3⟩ := SKC.out wa BX.out
          have q0 := BX.out.cell 0
          simp only [List.getElem?_toArray, List.getElem?_cons_zero] at q0
          go_wp2_with fail
          rw [← HWA.out]
          clear c0 c1 c2 c3
          go_region_held3 (fun X => X.cell? ⟨wr.heap.size, 1, none⟩ = some (.int .i64 a) ∧ X.cell? ⟨wr.heap.size, 2, none⟩ = some (.int .i64 B) ∧ X.cell? ⟨wr.heap.size, 3, none⟩ = some (.int .i64 u))
            (first | exact k2 | exact k1 | exact SKC.out _ BD.out | go_keep)
            (first
              | (go_at_call 19; ((with_reducible refine PQ.out.mono ?_); rintro e wq ⟨rfl, ht⟩; have HT := Lib.hid ht; have BQ := Lib.hid (show Blk wq wr.heap.size 70 _ from by obtain ⟨_, _, hf, _⟩ := ht; exact BD.out.fr hf hsD); have k1 := SKC.out _ BQ.out; clear ht))
              | (go_at_call 36; ((with_reducible refine (PR.out _ HT.out).mono ?_); rintro e wp ⟨rfl, ht⟩; have HT2 := Lib.hid ht; have BP := Lib.hid (show Blk wp wr.heap.size 70 _ from by obtain ⟨_, _, hf, _⟩ := ht; exact BQ.out.fr hf hsE); have k2 := SKC.out _ BP.out; clear ht)))
          all_goals
            obtain ⟨Dn, En, pn, hdn, hfn⟩ := PD.out.turn HT.out HT2.out HRL.out
            have hps : wa.heap.size ≤ wa.drew.heap.size := Nat.le_refl _
            replace P := Lib.hid pn
            have e1 := k2.1
            clear pn hdn hfn k1 k2 q0 q1 q2 q3
            go_wp2_with fail
            refine (shows_pair P.out id HID.out).mono ?_
            rintro e v1 ⟨rfl, hf⟩
            replace P := Lib.hid (P.out.fr0 hf)
            replace e1 := (hf.cell (p := ⟨wr.heap.size, 1, none⟩) (World.block_lt_of_cell? _ _ e1) (fun z => z)).trans e1
            clear hf
            go_wp2_with fail
            refine (shows_pair P.out a HFA.out).mono ?_
            rintro e v2 ⟨rfl, hf⟩
            replace P := Lib.hid (P.out.fr0 hf)
            clear hf e1
            go_wp2
            go_roundw
            case rel => exact ⟨k + 1, _, _, _, _, _, _, rfl, rfl, by go_num, by omega, by omega, P, Lib.hid (.inl ⟨rfl, rfl⟩)⟩
            case measure => simp [intOf]; omega
        by_cases hd1 : d = 1
        · have hd := hd1.symm
          clear hd0 hd1
          subst hd
          have PD := Lib.hid (P.out.fr0 (Fr.refl No wa).drew)
          have BD := Lib.hid (BX.out.fr (Fr.refl No wa).drew (fun z => z))
          have hsD : ¬ D wr.heap.size := fun h => by have := HLT.out _ (.inl h); omega
          have hsE : ¬ E wr.heap.size := fun h => by have := HLT.out _ (.inr h); omega
          have SKC := Lib.hid (fun (X : World) (h : Blk X wr.heap.size 70 #[.int .i64 1, .int .i64 a, .int .i64 B, .int .i64 u]) => (show X.cell? ⟨wr.heap.size, 1, none⟩ = some (.int .i64 a) ∧ X.cell? ⟨wr.heap.size, 2, none⟩ = some (.int .i64 B) ∧ X.cell? ⟨wr.heap.size, 3, none⟩ = some (.int .i64 u) from ⟨h.cell 1, h.cell 2, h.cell 3⟩))
          have he : remE t a = remE s a := by unfold remE; rw [P.out.rel.has]
          have HRL := Lib.hid (P.out.rel.rem a)
          have PQ := Lib.hid (Remove_at b D s wa.drew PD.out.q a HFA.out)
          have PR := Lib.hid (fun Y (hY : TurnedAt wa.drew b D (remS s a) Y) => rRemove_at (PD.out.after hY) a P.out.rel.nodup)
          rw [he] at PR
          have hle : (remS s a).added ≤ s.added + 1 := by show s.added ≤ s.added + 1; omega
          generalize remE s a = pe at *
          generalize remS s a = s1 at *
          generalize remS t a = t1 at *
          have hne : (pe != pe) = false := by simp
          clear he
          obtain ⟨q1, q2, q3⟩ := SKC.out wa BX.out
          have q0 := BX.out.cell 0
          simp only [List.getElem?_toArray, List.getElem?_cons_zero] at q0
          go_wp2_with fail
          rw [← HWA.out]
          clear c0 c1 c2 c3
          go_region_held3 (fun X => X.cell? ⟨wr.heap.size, 1, none⟩ = some (.int .i64 a) ∧ X.cell? ⟨wr.heap.size, 2, none⟩ = some (.int .i64 B) ∧ X.cell? ⟨wr.heap.size, 3, none⟩ = some (.int .i64 u))
            (first | exact k2 | exact k1 | exact SKC.out _ BD.out | go_keep)
            (first
              | (go_at_call 21; ((with_reducible refine PQ.out.mono ?_); rintro e wq ⟨rfl, ht⟩; have HT := Lib.hid ht; have BQ := Lib.hid (show Blk wq wr.heap.size 70 _ from by obtain ⟨_, _, hf, _⟩ := ht; exact BD.out.fr hf hsD); have k1 := SKC.out _ BQ.out; clear ht))
              | (go_at_call 37; ((with_reducible refine (PR.out _ HT.out).mono ?_); rintro e wp ⟨rfl, ht⟩; have HT2 := Lib.hid ht; have BP := Lib.hid (show Blk wp wr.heap.size 70 _ from by obtain ⟨_, _, hf, _⟩ := ht; exact BQ.out.fr hf hsE); have k2 := SKC.out _ BP.out; clear ht)))
          all_goals
            obtain ⟨Dn, En, pn, hdn, hfn⟩ := PD.out.turn HT.out HT2.out HRL.out
            have hps : wa.heap.size ≤ wa.drew.heap.size := Nat.le_refl _
            replace P := Lib.hid pn
            have e1 := k2.1
            clear pn hdn hfn k1 k2 q0 q1 q2 q3
            go_wp2_with fail
            refine (shows_pair P.out id HID.out).mono ?_
            rintro e v1 ⟨rfl, hf⟩
            replace P := Lib.hid (P.out.fr0 hf)
            replace e1 := (hf.cell (p := ⟨wr.heap.size, 1, none⟩) (World.block_lt_of_cell? _ _ e1) (fun z => z)).trans e1
            clear hf
            go_wp2_with fail
            refine (shows_pair P.out a HFA.out).mono ?_
            rintro e v2 ⟨rfl, hf⟩
            replace P := Lib.hid (P.out.fr0 hf)
            clear hf e1
            go_wp2
            go_roundw
            case rel => exact ⟨k + 1, _, _, _, _, _, _, rfl, rfl, by go_num, by omega, by omega, P, Lib.hid (.inl ⟨rfl, rfl⟩)⟩
            case measure => simp [intOf]; omega
        by_cases hd2 : d = 2
        · have hd := hd2.symm
          clear hd0 hd1 hd2
          obtain ⟨wo, hwo⟩ : ∃ wo, wo = wr := ⟨_, rfl⟩
          subst hwo
          subst hd
          obtain ⟨wc, hwc⟩ : ∃ wc, wc = (wa.alloc (.cells #[.func (.func 38) #[] #[.pointer (some ⟨wo.heap.size, 0, none⟩)]] 34)).alloc (.cells #[.slice none 0 0] 49) := ⟨_, rfl⟩
          have FC := Lib.hid (show Fr No wa wc by rw [hwc]; exact ((Fr.refl No wa).alloc _).alloc _)
          have IC := Lib.hid (show IsC wc (wo.heap.size + 1) wo.heap.size (2, a, B, u) from ⟨by
            rw [hwc, ← HWS.out]; exact (Blk.new _ _ _).alloc _, BX.out.fr FC.out (fun z => z)⟩)
          have BA := Lib.hid (show Blk wc (wo.heap.size + 1 + 1) 49 #[.slice none 0 0] by
            rw [hwc]
            have := Blk.new (wa.alloc (.cells #[.func (.func 38) #[] #[.pointer (some ⟨wo.heap.size, 0, none⟩)]] 34)) 49 #[.slice none 0 0]
            rwa [World.size_alloc, HWS.out] at this)
          have HWC := Lib.hid (show wc = ((wo.alloc (.cells #[.int .i64 2, .int .i64 a, .int .i64 B, .int .i64 u] 70)).alloc (.cells #[.func (.func 38) #[] #[.pointer (some ⟨wo.heap.size, 0, none⟩)]] 34)).alloc (.cells #[.slice none 0 0] 49) by rw [hwc, HWA.out])
          have HWCS := Lib.hid (show wc.heap.size = wo.heap.size + 3 by rw [hwc]; simp [HWS.out])
          replace P := Lib.hid (P.out.fr0 FC.out)

          have hsl := P.out.rel.ok.n
          obtain ⟨p, hp⟩ : ∃ p : Int → Bool, p = ablP B := ⟨_, rfl⟩
          have HPP := Lib.hid hp
          obtain ⟨m, hm⟩ : ∃ m, m = s.l.length := ⟨_, rfl⟩
          have HM := Lib.hid hm
          have HOKS := Lib.hid P.out.rel.ok
          have IT := Lib.hid (rItems_at P.out.rel P.out.r)
          rw [← hm] at IT hsl
          have HFIT := Lib.hid (fun (e : IV) (he : e ∈ s.l) => (P.out.rel.ok.fit e he).id)
          clear hwc hp hm
          go_wp2_with fail
          rw [← HWC.out]
          clear c0 c1 c2 c3
          refine IT.out.mono ?_
          rintro e w2 ⟨GI, gi, rfl, ho, hgi, hf⟩
          have OI := Lib.hid ho
          have F2 := Lib.hid hf
          have IC2 := Lib.hid (IC.out.fr hf (fun z => z) (fun z => z))
          clear ho hf IT
          go_wp2
          go_loopw [19, 101] (fun lv jv wx => ∃ (j : Nat) (GL : Option Addr) (cl : Nat) (la : List Int), lv = .slice GL la.length cl ∧ jv = .int .i64 j ∧ j ≤ m ∧ la.length ≤ j ∧ Hid (la = ((ids s.l).take j).filter p) ∧ Hid (Fr No w2 wx) ∧ Hid (wx.ownsRow w2.heap.size 3 1 (.slice GL la.length cl) la.length (cells .i64 la))) (fun _ jv _ => m - (intOf jv).toNat)
          case atStart => exact ⟨0, none, 0, [], rfl, rfl, Nat.zero_le _, Nat.zero_le _, Lib.hid rfl, Lib.hid (Fr.refl _ _), Lib.hid (own_nil _ _ _ _)⟩
          case round =>
            obtain ⟨j, GL, cl, la, rfl, rfl, hjm, hlaj, HLA, HFX, HOL⟩ := hrel
            by_cases hlj : j < m
            · have hjl : j < s.l.length := by rw [← HM.out]; exact hlj
              have hlj2 : (j : Int) < (m : Int) := by omega
              obtain ⟨gy, off, rfl, hgy, _, d0, d1, d2, d3⟩ := reads_item ((Reads.of_own OI.out).fr0 HFX.out) hlj
              have HTK := Lib.hid (ids_take_succ s.l hjl)
              have hfy := HFIT.out _ (getD_mem' hjl)
              generalize s.l.getD j IV.zero = y at *
              obtain ⟨y1, y2, y3, y4⟩ := y
              dsimp only at d0 d1 d2 d3 HTK hfy
              obtain ⟨wy, hwy⟩ : ∃ wy, wy = wr.alloc (.cells #[.int .i64 y1, .int .i64 y2, .int .i64 y3, .int .i64 y4] 31) := ⟨_, rfl⟩
              have FY := Lib.hid (show Fr No wr wy by rw [hwy]; exact (Fr.refl No wr).alloc _)
              have BY := Lib.hid (show Blk wy wr.heap.size 31 #[.int .i64 y1, .int .i64 y2, .int .i64 y3, .int .i64 y4] by rw [hwy]; exact Blk.new _ _ _)
              have ICy := Lib.hid ((IC2.out.fr HFX.out (fun z => z) (fun z => z)).fr FY.out (fun z => z) (fun z => z))
              have AB := Lib.hid (abl_any y1 (2, a, B, u) wo.heap.size wy hfy ICy.out.b0)
              dsimp only at AB
              rw [← HPP.out] at AB
              have f0 := ICy.out.bi.cell 0
              have g0 := BY.out.cell 0
              simp only [List.getElem?_toArray, List.getElem?_cons_zero] at f0 g0
              have HWY := Lib.hid hwy
              rw [hwy] at f0 g0
              have OLY := Lib.hid (own_fr HOL.out FY.out (fun _ _ z => z))
              clear hwy hfy hjl
              cases hpy : p y1
              · have HLA2 := Lib.hid (show la = ((ids s.l).take (j + 1)).filter p by rw [HTK.out, List.filter_append, List.filter_cons_of_neg (by simp [hpy]), List.filter_nil, List.append_nil]; exact HLA.out)
                rw [hpy] at AB
                clear hpy
                go_wp2_with fail
                rw [← HWY.out]
                refine AB.out.mono ?_
                rintro e wz ⟨rfl, rfl⟩
                clear d0 d1 d2 d3 f0 g0
                go_wp2
                go_roundw
                case rel => exact ⟨j + 1, GL, cl, la, rfl, by go_num, by omega, by omega, HLA2, Lib.hid (HFX.out.then0 FY.out), OLY⟩
                case measure => simp [intOf]; omega
              · obtain ⟨lb, hlb⟩ : ∃ lb, lb = la ++ [y1] := ⟨_, rfl⟩
                have HLA2 := Lib.hid (show lb = ((ids s.l).take (j + 1)).filter p by rw [HTK.out, List.filter_append, List.filter_cons_of_pos (by simp [hpy]), List.filter_nil, hlb]; exact congrArg (· ++ [y1]) HLA.out)
                have hll : la.length + 1 = lb.length := by rw [hlb]; simp
                have HLB := Lib.hid (show cells .i64 la ++ [.int .i64 y1] = cells .i64 lb by rw [hlb, cells_snoc])
                obtain ⟨i0, hi, hz0, hz1, hz2⟩ : ∃ i, Try.prog.info? 3 = some i ∧ i.zero = some (.int .i64 0) ∧ i.size = 1 ∧ i.bytes = 8 := ⟨_, rfl, rfl, rfl, rfl⟩
                have HLL := Lib.hid hll
                rw [hpy] at AB
                clear hpy hlb hll
                go_wp2_with fail
                rw [← HWY.out]
                refine AB.out.mono ?_
                rintro e wz ⟨rfl, rfl⟩
                clear d0 d1 d2 d3 f0 g0
                have g0 := BY.out.cell 0
                simp only [List.getElem?_toArray, List.getElem?_cons_zero] at g0
                go_wp2_with (at_builtin; refine wpList_push1 (wr := wy) rfl (.tmp 109) (.tmp 112) 49 rfl w2.heap.size 3 i0 (.int .i64 0) 8 Try.underlying49 hi hz0 hz1 hz2 rfl (by omega) (.int .i64 y1) 3 rfl (.slice GL la.length cl) la.length (cells .i64 la) rfl rfl OLY.out (by omega) (HFX.out.then0 FY.out).size ?_)
                intro v' wv hown2 hf2
                rw [HLL.out, HLB.out] at hown2
                obtain ⟨GL2, cl2, rfl⟩ := own_form' hown2
                have FV := Lib.hid ((HFX.out.then0 FY.out).ownS hf2 (fun q hq => (OLY.out.lt q hq).1))
                have OV := Lib.hid hown2
                have hll2 := HLL.out
                clear hown2 hf2 g0
                go_wp2
                go_roundw
                case rel => exact ⟨j + 1, GL2, cl2, lb, rfl, by go_num, by omega, by omega, HLA2, FV, OV⟩
                case measure => simp [intOf]; omega
            · have hjm2 : ¬ (j : Int) < (m : Int) := by omega
              have HJ := Lib.hid (show j = m by omega)
              have hla1 : la = (ids s.l).filter p := by rw [HLA.out, HJ.out, List.take_of_length_le (by rw [ids_len, ← HM.out]; exact Nat.le_refl _)]
              have HLAM := Lib.hid (show ∀ e ∈ s.l, p e.id = true ↔ e.id ∈ la from fun e he => by
                rw [hla1, List.mem_filter]
                exact ⟨fun h => ⟨List.mem_map.2 ⟨e, he, rfl⟩, h⟩, fun h => h.2⟩)
              have F4 := Lib.hid (F2.out.then0 HFX.out)
              replace P := Lib.hid (P.out.fr0 F4.out)
              have BA4 := Lib.hid (BA.out.fr F4.out (fun z => z))
              have IC4 := Lib.hid (IC.out.fr F4.out (fun z => z) (fun z => z))
              have hwcs := HWCS.out
              have hw2s := F2.out.size
              have PK := Lib.hid (pickC_at (2, a, B, u) (wo.heap.size + 1 + 1) (wo.heap.size + 1) wo.heap.size b D s wr P.out.q IC4.out BA4.out ⟨by omega, by omega⟩ (fun q hq => by have := HLT.out q (.inl hq); omega))
              dsimp only at PK
              rw [← HPP.out] at PK
              have HPA := Lib.hid (pickS_added p s)
              have HRL := Lib.hid (P.out.rel.pick p)
              have hmm0 : min (pickN p s.l + 1) s.l.length ≤ s.l.length := Nat.min_le_right _ _
              have HLEN := Lib.hid (show ((ids s.l).take (min (pickN p s.l + 1) s.l.length)).length = min (pickN p s.l + 1) s.l.length from by rw [List.length_take, ids_len]; omega)
              have RP0 := Lib.hid (fun (Y : World) (hY : RAt Y r E t) (hR : Reads Y Y.heap.size 1 GL la.length (la.map (Value.int .i64))) => rPick_at P.out.rel p la HLAM.out GL la.length cl hY hR (by omega))
              have hmm1 : min (pickN p s.l + 1) s.l.length ≤ m := by have := HM.out; omega
              generalize min (pickN p s.l + 1) s.l.length = mm at *
              generalize pickV p s = pv at *
              generalize pickB p s = pb at *
              generalize pickS p s = s1 at *
              generalize rpickS p s t = t1 at *
              have hn1 : (pv != pv) = false := by simp
              have hn2 : (pb != pb) = false := by simp
              clear hla1 hmm0
              go_wp2_with fail
              refine PK.out.mono ?_
              rintro e w5 ⟨rfl, X, ⟨hI, hA, hfx⟩, ht⟩
              have HT := Lib.hid ht
              have hbaD : ∀ q, D q → q ≠ wo.heap.size + 1 + 1 := fun q hq => by have := HLT.out q (.inl hq); omega
              have hbaE : ∀ q, E q → q ≠ wo.heap.size + 1 + 1 := fun q hq => by have := HLT.out q (.inr hq); omega
              have PD := Lib.hid (P.out.beside hfx (fun q hq => by rw [hq]; omega) hbaD hbaE)
              have RX := Lib.hid (PD.out.after ht)
              obtain ⟨D5, hq5, hf5, hd5⟩ := ht
              have hXs := hfx.size
              have OL5 := Lib.hid (own_fr (own_fr HOL.out hfx (fun q hq e => by have := (HOL.out.lt q hq).1; omega)) hf5 (fun q hq hd => by have := (HOL.out.lt q hq).1; have := HLT.out q (.inl hd); omega))
              have RP := Lib.hid (RP0.out w5 RX.out (Reads.of_own OL5.out))
              have AS5 := Lib.hid (hA.fr hf5 (fun hd => by have := HLT.out _ (.inl hd); omega) (fun q h1 h2 hd => by have := HLT.out q (.inl hd); have := HFX.out.size; omega))
              have BX5 := Lib.hid (hI.b0.fr hf5 (fun hd => by have := HLT.out _ (.inl hd); omega))
              have hwx := HFX.out.size
              have h5s := hf5.size
              clear hI hA hfx hq5 hf5 hd5 PK
              go_wp2_with fail
              refine RP.out.mono ?_
              rintro e w6 ⟨GA, ca, rfl, how, hrt⟩
              obtain ⟨Dn, En, pn, hdn, hfn⟩ := PD.out.turn HT.out hrt HRL.out
              obtain ⟨E6, hr6, hf6, he6⟩ := hrt
              have AS6 := Lib.hid (AS5.out.fr hf6 (fun hd => by have := HLT.out _ (.inr hd); omega) (fun q h1 h2 hd => by have := HLT.out q (.inr hd); omega))
              have BX6 := Lib.hid (BX5.out.fr hf6 (fun hd => by have := HLT.out _ (.inr hd); omega))
              obtain ⟨GB, cb, hgb, hob⟩ := AS6.out
              rw [HLEN.out] at hgb hob
              have EQ := Lib.hid (equalI_eq GB GA mm cb mm ca ((ids s.l).take mm) w6 (Reads.of_own hob) (Reads.of_own how) (by omega))
              have g0 := hgb.cell 0
              simp only [List.getElem?_toArray, List.getElem?_cons_zero] at g0
              replace P := Lib.hid pn
              have e1 := BX6.out.cell 1
              simp only [List.getElem?_toArray, List.getElem?_cons_zero, List.getElem?_cons_succ] at e1
              have hpa := HPA.out
              clear pn hdn hfn hr6 hf6 he6 hgb hob how
              go_wp2_with fail
              refine EQ.out.mono ?_
              rintro e w7 ⟨rfl, qx, rfl⟩
              replace P := Lib.hid (P.out.fr0 ((Fr.refl No w6).drewN qx))
              replace e1 : (w6.drewN qx).cell? ⟨wo.heap.size, 1, none⟩ = some (.int .i64 a) := e1
              clear g0 hpa
              have hpa := HPA.out
              generalize w6.drewN qx = w7 at *
              go_wp2_with fail
              refine (shows_pair P.out id HID.out).mono ?_
              rintro e v1 ⟨rfl, hf⟩
              replace P := Lib.hid (P.out.fr0 hf)
              replace e1 := (hf.cell (p := ⟨wo.heap.size, 1, none⟩) (World.block_lt_of_cell? _ _ e1) (fun z => z)).trans e1
              clear hf
              go_wp2_with fail
              refine (shows_pair P.out a HFA.out).mono ?_
              rintro e v2 ⟨rfl, hf⟩
              replace P := Lib.hid (P.out.fr0 hf)
              clear hf e1
              go_wp2
              go_roundw
              case rel => exact ⟨k + 1, _, _, _, _, _, _, rfl, rfl, by go_num, by omega, by omega, P, Lib.hid (.inl ⟨rfl, rfl⟩)⟩
              case measure => simp [intOf]; omega
        by_cases hd3 : d = 3
        · have hd := hd3.symm
          clear hd0 hd1 hd2 hd3
          subst hd
          have e1 := BX.out.cell 1
          have q0 := BX.out.cell 0
          simp only [List.getElem?_toArray, List.getElem?_cons_zero, List.getElem?_cons_succ] at e1 q0
          go_wp2_with fail
          rw [← HWA.out]
          clear c0 c1 c2 c3
          refine (Copy_at b D s _ P.out.q).mono ?_
          rintro e wq ⟨b3, D3, rfl, hnq⟩
          have HNQ := Lib.hid hnq
          replace e1 := (hnq.2.2.cell (p := ⟨wr.heap.size, 1, none⟩) (World.block_lt_of_cell? _ _ e1) (fun z => z)).trans e1
          clear hnq q0
          go_wp2_with fail
          refine (rCopy_at (P.out.r.fr0 HNQ.out.2.2)).mono ?_
          rintro e wp ⟨r3, E3, rfl, hr3, hE3, hf⟩
          obtain ⟨pn, po, hdis3⟩ := P.out.copy HNQ.out hr3 hE3 hf
          replace e1 := (hf.cell (p := ⟨wr.heap.size, 1, none⟩) (World.block_lt_of_cell? _ _ e1) (fun z => z)).trans e1
          have P2 := Lib.hid po
          have HDIS := Lib.hid hdis3
          replace P := Lib.hid pn
          clear pn po hdis3 hr3 hE3 hf HNQ
          go_wp2_with fail
          refine (shows_pair P.out id HID.out).mono ?_
          rintro e v1 ⟨rfl, hf⟩
          replace P := Lib.hid (P.out.fr0 hf)
          replace e1 := (hf.cell (p := ⟨wr.heap.size, 1, none⟩) (World.block_lt_of_cell? _ _ e1) (fun z => z)).trans e1
          replace P2 := Lib.hid (P2.out.fr0 hf)
          clear hf
          go_wp2_with fail
          refine (shows_pair P.out a HFA.out).mono ?_
          rintro e v2 ⟨rfl, hf⟩
          replace P := Lib.hid (P.out.fr0 hf)
          replace P2 := Lib.hid (P2.out.fr0 hf)
          clear hf e1
          go_wp2_with fail
          refine (shows_pair P2.out id HID.out).mono ?_
          rintro e v3 ⟨rfl, hf⟩
          replace P := Lib.hid (P.out.fr0 hf)
          replace P2 := Lib.hid (P2.out.fr0 hf)
          clear hf
          go_wp2
          go_roundw
          case rel => exact ⟨k + 1, _, _, _, _, _, _, rfl, rfl, by go_num, by omega, by omega, P, Lib.hid (.inr ⟨_, _, _, _, _, _, rfl, rfl, P2.out, HDIS.out⟩)⟩
          case measure => simp [intOf]; omega
        · have e1 := BX.out.cell 1
          have q0 := BX.out.cell 0
          simp only [List.getElem?_toArray, List.getElem?_cons_zero, List.getElem?_cons_succ] at e1 q0
          have n0 : (d == 0) = false := by simpa using hd0
          have n1 : (d == 1) = false := by simpa using hd1
          have n2 : (d == 2) = false := by simpa using hd2
          have n3 : (d == 3) = false := by simpa using hd3
          clear hd0 hd1 hd2 hd3
          go_wp2_with fail
          rw [← HWA.out]
          clear c0 c1 c2 c3
          refine (shows_pair P.out id HID.out).mono ?_
          rintro e v1 ⟨rfl, hf⟩
          replace P := Lib.hid (P.out.fr0 hf)
          replace e1 := (hf.cell (p := ⟨wr.heap.size, 1, none⟩) (World.block_lt_of_cell? _ _ e1) (fun z => z)).trans e1
          clear hf
          go_wp2_with fail
          refine (shows_pair P.out a HFA.out).mono ?_
          rintro e v2 ⟨rfl, hf⟩
          replace P := Lib.hid (P.out.fr0 hf)
          clear hf e1
          go_wp2
          go_roundw
          case rel => exact ⟨k + 1, _, _, _, _, _, _, rfl, rfl, by go_num, by omega, by omega, P, Lib.hid (.inl ⟨rfl, rfl⟩)⟩
          case measure => simp [intOf]; omega
      · have HL2 := Lib.hid (fun q (hq : D2 q ∨ E2 q) => p2.lt hq)
        have P2 := Lib.hid (p2.fr0 FA.out)
        clear OL p2
        by_cases hd0 : d = 0
        · have hd := hd0.symm
          clear hd0
          subst hd
          have PD := Lib.hid (P.out.fr0 (Fr.refl No wa).drew)
          have BD := Lib.hid (BX.out.fr (Fr.refl No wa).drew (fun z => z))
          have hsD : ¬ D wr.heap.size := fun h => by have := HLT.out _ (.inl h); omega
          have hsE : ¬ E wr.heap.size := fun h => by have := HLT.out _ (.inr h); omega
          have SKC := Lib.hid (fun (X : World) (h : Blk X wr.heap.size 70 #[.int .i64 0, .int .i64 a, .int .i64 B, .int .i64 u]) => (show X.cell? ⟨wr.heap.size, 1, none⟩ = some (.int .i64 a) ∧ X.cell? ⟨wr.heap.size, 2, none⟩ = some (.int .i64 B) ∧ X.cell? ⟨wr.heap.size, 3, none⟩ = some (.int .i64 u) from ⟨h.cell 1, h.cell 2, h.cell 3⟩))
          have hp := P.out.rel.push HFA.out (p := B) (u := u) (by omega)
          have HP := Lib.hid hp
          have PQ := Lib.hid (Push_at b D s wa.drew PD.out.q a B u HFA.out (by omega))
          have PR := Lib.hid (fun Y (hY : TurnedAt wa.drew b D (pushS s a B u) Y) => rPush_at (PD.out.after hY) a B u (by rw [P.out.rel.added]; omega) (by rw [P.out.rel.len, P.out.rel.size]; exact P.out.rel.ok.lsz))
          rw [hp.1] at PR
          have hle := pushS_added s a B u
          generalize pushE s a B u = pe at *
          generalize pushS s a B u = s1 at *
          generalize rpushS t a B u = t1 at *
          have HRL := Lib.hid hp.2
          have hne : (pe != pe) = false := by simp
          clear hp HP
          obtain ⟨q1, q2, q3⟩ := SKC.out wa BX.out
          have q0 := BX.out.cell 0
          simp only [List.getElem?_toArray, List.getElem?_cons_zero] at q0
          go_wp2_with fail
          rw [← HWA.out]
          clear c0 c1 c2 c3
          go_region_held3 (fun X => X.cell? ⟨wr.heap.size, 1, none⟩ = some (.int .i64 a) ∧ X.cell? ⟨wr.heap.size, 2, none⟩ = some (.int .i64 B) ∧ X.cell? ⟨wr.heap.size, 3, none⟩ = some (.int .i64 u))
            (first | exact k2 | exact k1 | exact SKC.out _ BD.out | go_keep)
            (first
              | (go_at_call 19; ((with_reducible refine PQ.out.mono ?_); rintro e wq ⟨rfl, ht⟩; have HT := Lib.hid ht; have BQ := Lib.hid (show Blk wq wr.heap.size 70 _ from by obtain ⟨_, _, hf, _⟩ := ht; exact BD.out.fr hf hsD); have k1 := SKC.out _ BQ.out; clear ht))
              | (go_at_call 36; ((with_reducible refine (PR.out _ HT.out).mono ?_); rintro e wp ⟨rfl, ht⟩; have HT2 := Lib.hid ht; have BP := Lib.hid (show Blk wp wr.heap.size 70 _ from by obtain ⟨_, _, hf, _⟩ := ht; exact BQ.out.fr hf hsE); have k2 := SKC.out _ BP.out; clear ht)))
          all_goals
            obtain ⟨Dn, En, pn, hdn, hfn⟩ := PD.out.turn HT.out HT2.out HRL.out
            have hps : wa.heap.size ≤ wa.drew.heap.size := Nat.le_refl _
            have PO := Lib.hid (P2.out.fr0 (Fr.refl No wa).drew)
            have HDIS := Lib.hid (show ∀ q, D2 q ∨ E2 q → ¬ (Dn q ∨ En q) from fun q h1 h2 => (hdn q h2).elim (hdis q h1) (fun h3 => by have := PO.out.lt h1; omega))
            replace P2 := Lib.hid (PO.out.beside hfn (fun q hq => hq.elim (PD.out.hD q) (PD.out.hE q)) (fun q h1 h2 => hdis q (.inl h1) h2) (fun q h1 h2 => hdis q (.inr h1) h2))
            replace P := Lib.hid pn
            have e1 := k2.1
            clear pn hdn hfn k1 k2 q0 q1 q2 q3
            go_wp2_with fail
            refine (shows_pair P.out id HID.out).mono ?_
            rintro e v1 ⟨rfl, hf⟩
            replace P := Lib.hid (P.out.fr0 hf)
            replace e1 := (hf.cell (p := ⟨wr.heap.size, 1, none⟩) (World.block_lt_of_cell? _ _ e1) (fun z => z)).trans e1
            replace P2 := Lib.hid (P2.out.fr0 hf)
            clear hf
            go_wp2_with fail
            refine (shows_pair P.out a HFA.out).mono ?_
            rintro e v2 ⟨rfl, hf⟩
            replace P := Lib.hid (P.out.fr0 hf)
            replace P2 := Lib.hid (P2.out.fr0 hf)
            clear hf e1
            go_wp2_with fail
            refine (shows_pair P2.out id HID.out).mono ?_
            rintro e v3 ⟨rfl, hf⟩
            replace P := Lib.hid (P.out.fr0 hf)
            replace P2 := Lib.hid (P2.out.fr0 hf)
            clear hf
            go_wp2
            go_roundw
            case rel => exact ⟨k + 1, _, _, _, _, _, _, rfl, rfl, by go_num, by omega, by omega, P, Lib.hid (.inr ⟨_, _, _, _, _, _, rfl, rfl, P2.out, HDIS.out⟩)⟩
            case measure => simp [intOf]; omega
        by_cases hd1 : d = 1
        · have hd := hd1.symm
          clear hd0 hd1
          subst hd
          have PD := Lib.hid (P.out.fr0 (Fr.refl No wa).drew)
          have BD := Lib.hid (BX.out.fr (Fr.refl No wa).drew (fun z => z))
          have hsD : ¬ D wr.heap.size := fun h => by have := HLT.out _ (.inl h); omega
          have hsE : ¬ E wr.heap.size := fun h => by have := HLT.out _ (.inr h); omega
          have SKC := Lib.hid (fun (X : World) (h : Blk X wr.heap.size 70 #[.int .i64 1, .int .i64 a, .int .i64 B, .int .i64 u]) => (show X.cell? ⟨wr.heap.size, 1, none⟩ = some (.int .i64 a) ∧ X.cell? ⟨wr.heap.size, 2, none⟩ = some (.int .i64 B) ∧ X.cell? ⟨wr.heap.size, 3, none⟩ = some (.int .i64 u) from ⟨h.cell 1, h.cell 2, h.cell 3⟩))
          have he : remE t a = remE s a := by unfold remE; rw [P.out.rel.has]
          have HRL := Lib.hid (P.out.rel.rem a)
          have PQ := Lib.hid (Remove_at b D s wa.drew PD.out.q a HFA.out)
          have PR := Lib.hid (fun Y (hY : TurnedAt wa.drew b D (remS s a) Y) => rRemove_at (PD.out.after hY) a P.out.rel.nodup)
          rw [he] at PR
          have hle : (remS s a).added ≤ s.added + 1 := by show s.added ≤ s.added + 1; omega
          generalize remE s a = pe at *
          generalize remS s a = s1 at *
          generalize remS t a = t1 at *
          have hne : (pe != pe) = false := by simp
          clear he
          obtain ⟨q1, q2, q3⟩ := SKC.out wa BX.out
          have q0 := BX.out.cell 0
          simp only [List.getElem?_toArray, List.getElem?_cons_zero] at q0
          go_wp2_with fail
          rw [← HWA.out]
          clear c0 c1 c2 c3
          go_region_held3 (fun X => X.cell? ⟨wr.heap.size, 1, none⟩ = some (.int .i64 a) ∧ X.cell? ⟨wr.heap.size, 2, none⟩ = some (.int .i64 B) ∧ X.cell? ⟨wr.heap.size, 3, none⟩ = some (.int .i64 u))
            (first | exact k2 | exact k1 | exact SKC.out _ BD.out | go_keep)
            (first
              | (go_at_call 21; ((with_reducible refine PQ.out.mono ?_); rintro e wq ⟨rfl, ht⟩; have HT := Lib.hid ht; have BQ := Lib.hid (show Blk wq wr.heap.size 70 _ from by obtain ⟨_, _, hf, _⟩ := ht; exact BD.out.fr hf hsD); have k1 := SKC.out _ BQ.out; clear ht))
              | (go_at_call 37; ((with_reducible refine (PR.out _ HT.out).mono ?_); rintro e wp ⟨rfl, ht⟩; have HT2 := Lib.hid ht; have BP := Lib.hid (show Blk wp wr.heap.size 70 _ from by obtain ⟨_, _, hf, _⟩ := ht; exact BQ.out.fr hf hsE); have k2 := SKC.out _ BP.out; clear ht)))
          all_goals
            obtain ⟨Dn, En, pn, hdn, hfn⟩ := PD.out.turn HT.out HT2.out HRL.out
            have hps : wa.heap.size ≤ wa.drew.heap.size := Nat.le_refl _
            have PO := Lib.hid (P2.out.fr0 (Fr.refl No wa).drew)
            have HDIS := Lib.hid (show ∀ q, D2 q ∨ E2 q → ¬ (Dn q ∨ En q) from fun q h1 h2 => (hdn q h2).elim (hdis q h1) (fun h3 => by have := PO.out.lt h1; omega))
            replace P2 := Lib.hid (PO.out.beside hfn (fun q hq => hq.elim (PD.out.hD q) (PD.out.hE q)) (fun q h1 h2 => hdis q (.inl h1) h2) (fun q h1 h2 => hdis q (.inr h1) h2))
            replace P := Lib.hid pn
            have e1 := k2.1
            clear pn hdn hfn k1 k2 q0 q1 q2 q3
            go_wp2_with fail
            refine (shows_pair P.out id HID.out).mono ?_
            rintro e v1 ⟨rfl, hf⟩
            replace P := Lib.hid (P.out.fr0 hf)
            replace e1 := (hf.cell (p := ⟨wr.heap.size, 1, none⟩) (World.block_lt_of_cell? _ _ e1) (fun z => z)).trans e1
            replace P2 := Lib.hid (P2.out.fr0 hf)
            clear hf
            go_wp2_with fail
            refine (shows_pair P.out a HFA.out).mono ?_
            rintro e v2 ⟨rfl, hf⟩
            replace P := Lib.hid (P.out.fr0 hf)
            replace P2 := Lib.hid (P2.out.fr0 hf)
            clear hf e1
            go_wp2_with fail
            refine (shows_pair P2.out id HID.out).mono ?_
            rintro e v3 ⟨rfl, hf⟩
            replace P := Lib.hid (P.out.fr0 hf)
            replace P2 := Lib.hid (P2.out.fr0 hf)
            clear hf
            go_wp2
            go_roundw
            case rel => exact ⟨k + 1, _, _, _, _, _, _, rfl, rfl, by go_num, by omega, by omega, P, Lib.hid (.inr ⟨_, _, _, _, _, _, rfl, rfl, P2.out, HDIS.out⟩)⟩
            case measure => simp [intOf]; omega
        by_cases hd2 : d = 2
        · have hd := hd2.symm
          clear hd0 hd1 hd2
          obtain ⟨wo, hwo⟩ : ∃ wo, wo = wr := ⟨_, rfl⟩
          subst hwo
          subst hd
          obtain ⟨wc, hwc⟩ : ∃ wc, wc = (wa.alloc (.cells #[.func (.func 38) #[] #[.pointer (some ⟨wo.heap.size, 0, none⟩)]] 34)).alloc (.cells #[.slice none 0 0] 49) := ⟨_, rfl⟩
          have FC := Lib.hid (show Fr No wa wc by rw [hwc]; exact ((Fr.refl No wa).alloc _).alloc _)
          have IC := Lib.hid (show IsC wc (wo.heap.size + 1) wo.heap.size (2, a, B, u) from ⟨by
            rw [hwc, ← HWS.out]; exact (Blk.new _ _ _).alloc _, BX.out.fr FC.out (fun z => z)⟩)
          have BA := Lib.hid (show Blk wc (wo.heap.size + 1 + 1) 49 #[.slice none 0 0] by
            rw [hwc]
            have := Blk.new (wa.alloc (.cells #[.func (.func 38) #[] #[.pointer (some ⟨wo.heap.size, 0, none⟩)]] 34)) 49 #[.slice none 0 0]
            rwa [World.size_alloc, HWS.out] at this)
          have HWC := Lib.hid (show wc = ((wo.alloc (.cells #[.int .i64 2, .int .i64 a, .int .i64 B, .int .i64 u] 70)).alloc (.cells #[.func (.func 38) #[] #[.pointer (some ⟨wo.heap.size, 0, none⟩)]] 34)).alloc (.cells #[.slice none 0 0] 49) by rw [hwc, HWA.out])
          have HWCS := Lib.hid (show wc.heap.size = wo.heap.size + 3 by rw [hwc]; simp [HWS.out])
          replace P := Lib.hid (P.out.fr0 FC.out)
          replace P2 := Lib.hid (P2.out.fr0 FC.out)
          have hsl := P.out.rel.ok.n
          obtain ⟨p, hp⟩ : ∃ p : Int → Bool, p = ablP B := ⟨_, rfl⟩
          have HPP := Lib.hid hp
          obtain ⟨m, hm⟩ : ∃ m, m = s.l.length := ⟨_, rfl⟩
          have HM := Lib.hid hm
          have HOKS := Lib.hid P.out.rel.ok
          have IT := Lib.hid (rItems_at P.out.rel P.out.r)
          rw [← hm] at IT hsl
          have HFIT := Lib.hid (fun (e : IV) (he : e ∈ s.l) => (P.out.rel.ok.fit e he).id)
          clear hwc hp hm
          go_wp2_with fail
          rw [← HWC.out]
          clear c0 c1 c2 c3
          refine IT.out.mono ?_
          rintro e w2 ⟨GI, gi, rfl, ho, hgi, hf⟩
          have OI := Lib.hid ho
          have F2 := Lib.hid hf
          have IC2 := Lib.hid (IC.out.fr hf (fun z => z) (fun z => z))
          clear ho hf IT
          go_wp2
          go_loopw [19, 101] (fun lv jv wx => ∃ (j : Nat) (GL : Option Addr) (cl : Nat) (la : List Int), lv = .slice GL la.length cl ∧ jv = .int .i64 j ∧ j ≤ m ∧ la.length ≤ j ∧ Hid (la = ((ids s.l).take j).filter p) ∧ Hid (Fr No w2 wx) ∧ Hid (wx.ownsRow w2.heap.size 3 1 (.slice GL la.length cl) la.length (cells .i64 la))) (fun _ jv _ => m - (intOf jv).toNat)
          case atStart => exact ⟨0, none, 0, [], rfl, rfl, Nat.zero_le _, Nat.zero_le _, Lib.hid rfl, Lib.hid (Fr.refl _ _), Lib.hid (own_nil _ _ _ _)⟩
          case round =>
            obtain ⟨j, GL, cl, la, rfl, rfl, hjm, hlaj, HLA, HFX, HOL⟩ := hrel
            by_cases hlj : j < m
            · have hjl : j < s.l.length := by rw [← HM.out]; exact hlj
              have hlj2 : (j : Int) < (m : Int) := by omega
              obtain ⟨gy, off, rfl, hgy, _, d0, d1, d2, d3⟩ := reads_item ((Reads.of_own OI.out).fr0 HFX.out) hlj
              have HTK := Lib.hid (ids_take_succ s.l hjl)
              have hfy := HFIT.out _ (getD_mem' hjl)
              generalize s.l.getD j IV.zero = y at *
              obtain ⟨y1, y2, y3, y4⟩ := y
              dsimp only at d0 d1 d2 d3 HTK hfy
              obtain ⟨wy, hwy⟩ : ∃ wy, wy = wr.alloc (.cells #[.int .i64 y1, .int .i64 y2, .int .i64 y3, .int .i64 y4] 31) := ⟨_, rfl⟩
              have FY := Lib.hid (show Fr No wr wy by rw [hwy]; exact (Fr.refl No wr).alloc _)
              have BY := Lib.hid (show Blk wy wr.heap.size 31 #[.int .i64 y1, .int .i64 y2, .int .i64 y3, .int .i64 y4] by rw [hwy]; exact Blk.new _ _ _)
              have ICy := Lib.hid ((IC2.out.fr HFX.out (fun z => z) (fun z => z)).fr FY.out (fun z => z) (fun z => z))
              have AB := Lib.hid (abl_any y1 (2, a, B, u) wo.heap.size wy hfy ICy.out.b0)
              dsimp only at AB
              rw [← HPP.out] at AB
              have f0 := ICy.out.bi.cell 0
              have g0 := BY.out.cell 0
              simp only [List.getElem?_toArray, List.getElem?_cons_zero] at f0 g0
              have HWY := Lib.hid hwy
              rw [hwy] at f0 g0
              have OLY := Lib.hid (own_fr HOL.out FY.out (fun _ _ z => z))
              clear hwy hfy hjl
              cases hpy : p y1
              · have HLA2 := Lib.hid (show la = ((ids s.l).take (j + 1)).filter p by rw [HTK.out, List.filter_append, List.filter_cons_of_neg (by simp [hpy]), List.filter_nil, List.append_nil]; exact HLA.out)
                rw [hpy] at AB
                clear hpy
                go_wp2_with fail
                rw [← HWY.out]
                refine AB.out.mono ?_
                rintro e wz ⟨rfl, rfl⟩
                clear d0 d1 d2 d3 f0 g0
                go_wp2
                go_roundw
                case rel => exact ⟨j + 1, GL, cl, la, rfl, by go_num, by omega, by omega, HLA2, Lib.hid (HFX.out.then0 FY.out), OLY⟩
                case measure => simp [intOf]; omega
              · obtain ⟨lb, hlb⟩ : ∃ lb, lb = la ++ [y1] := ⟨_, rfl⟩
                have HLA2 := Lib.hid (show lb = ((ids s.l).take (j + 1)).filter p by rw [HTK.out, List.filter_append, List.filter_cons_of_pos (by simp [hpy]), List.filter_nil, hlb]; exact congrArg (· ++ [y1]) HLA.out)
                have hll : la.length + 1 = lb.length := by rw [hlb]; simp
                have HLB := Lib.hid (show cells .i64 la ++ [.int .i64 y1] = cells .i64 lb by rw [hlb, cells_snoc])
                obtain ⟨i0, hi, hz0, hz1, hz2⟩ : ∃ i, Try.prog.info? 3 = some i ∧ i.zero = some (.int .i64 0) ∧ i.size = 1 ∧ i.bytes = 8 := ⟨_, rfl, rfl, rfl, rfl⟩
                have HLL := Lib.hid hll
                rw [hpy] at AB
                clear hpy hlb hll
                go_wp2_with fail
                rw [← HWY.out]
                refine AB.out.mono ?_
                rintro e wz ⟨rfl, rfl⟩
                clear d0 d1 d2 d3 f0 g0
                have g0 := BY.out.cell 0
                simp only [List.getElem?_toArray, List.getElem?_cons_zero] at g0
                go_wp2_with (at_builtin; refine wpList_push1 (wr := wy) rfl (.tmp 109) (.tmp 112) 49 rfl w2.heap.size 3 i0 (.int .i64 0) 8 Try.underlying49 hi hz0 hz1 hz2 rfl (by omega) (.int .i64 y1) 3 rfl (.slice GL la.length cl) la.length (cells .i64 la) rfl rfl OLY.out (by omega) (HFX.out.then0 FY.out).size ?_)
                intro v' wv hown2 hf2
                rw [HLL.out, HLB.out] at hown2
                obtain ⟨GL2, cl2, rfl⟩ := own_form' hown2
                have FV := Lib.hid ((HFX.out.then0 FY.out).ownS hf2 (fun q hq => (OLY.out.lt q hq).1))
                have OV := Lib.hid hown2
                have hll2 := HLL.out
                clear hown2 hf2 g0
                go_wp2
                go_roundw
                case rel => exact ⟨j + 1, GL2, cl2, lb, rfl, by go_num, by omega, by omega, HLA2, FV, OV⟩
                case measure => simp [intOf]; omega
            · have hjm2 : ¬ (j : Int) < (m : Int) := by omega
              have HJ := Lib.hid (show j = m by omega)
              have hla1 : la = (ids s.l).filter p := by rw [HLA.out, HJ.out, List.take_of_length_le (by rw [ids_len, ← HM.out]; exact Nat.le_refl _)]
              have HLAM := Lib.hid (show ∀ e ∈ s.l, p e.id = true ↔ e.id ∈ la from fun e he => by
                rw [hla1, List.mem_filter]
                exact ⟨fun h => ⟨List.mem_map.2 ⟨e, he, rfl⟩, h⟩, fun h => h.2⟩)
              have F4 := Lib.hid (F2.out.then0 HFX.out)
              replace P := Lib.hid (P.out.fr0 F4.out)
              replace P2 := Lib.hid (P2.out.fr0 F4.out)
              have BA4 := Lib.hid (BA.out.fr F4.out (fun z => z))
              have IC4 := Lib.hid (IC.out.fr F4.out (fun z => z) (fun z => z))
              have hwcs := HWCS.out
              have hw2s := F2.out.size
              have PK := Lib.hid (pickC_at (2, a, B, u) (wo.heap.size + 1 + 1) (wo.heap.size + 1) wo.heap.size b D s wr P.out.q IC4.out BA4.out ⟨by omega, by omega⟩ (fun q hq => by have := HLT.out q (.inl hq); omega))
              dsimp only at PK
              rw [← HPP.out] at PK
              have HPA := Lib.hid (pickS_added p s)
              have HRL := Lib.hid (P.out.rel.pick p)
              have hmm0 : min (pickN p s.l + 1) s.l.length ≤ s.l.length := Nat.min_le_right _ _
              have HLEN := Lib.hid (show ((ids s.l).take (min (pickN p s.l + 1) s.l.length)).length = min (pickN p s.l + 1) s.l.length from by rw [List.length_take, ids_len]; omega)
              have RP0 := Lib.hid (fun (Y : World) (hY : RAt Y r E t) (hR : Reads Y Y.heap.size 1 GL la.length (la.map (Value.int .i64))) => rPick_at P.out.rel p la HLAM.out GL la.length cl hY hR (by omega))
              have hmm1 : min (pickN p s.l + 1) s.l.length ≤ m := by have := HM.out; omega
              generalize min (pickN p s.l + 1) s.l.length = mm at *
              generalize pickV p s = pv at *
              generalize pickB p s = pb at *
              generalize pickS p s = s1 at *
              generalize rpickS p s t = t1 at *
              have hn1 : (pv != pv) = false := by simp
              have hn2 : (pb != pb) = false := by simp
              clear hla1 hmm0
              go_wp2_with fail
              refine PK.out.mono ?_
              rintro e w5 ⟨rfl, X, ⟨hI, hA, hfx⟩, ht⟩
              have HT := Lib.hid ht
              have hbaD : ∀ q, D q → q ≠ wo.heap.size + 1 + 1 := fun q hq => by have := HLT.out q (.inl hq); omega
              have hbaE : ∀ q, E q → q ≠ wo.heap.size + 1 + 1 := fun q hq => by have := HLT.out q (.inr hq); omega
              have PD := Lib.hid (P.out.beside hfx (fun q hq => by rw [hq]; omega) hbaD hbaE)
              have PO := Lib.hid (P2.out.beside hfx (fun q hq => by rw [hq]; omega) (fun q hq e => by have := HL2.out q (.inl hq); omega) (fun q hq e => by have := HL2.out q (.inr hq); omega))
              have RX := Lib.hid (PD.out.after ht)
              obtain ⟨D5, hq5, hf5, hd5⟩ := ht
              have hXs := hfx.size
              have OL5 := Lib.hid (own_fr (own_fr HOL.out hfx (fun q hq e => by have := (HOL.out.lt q hq).1; omega)) hf5 (fun q hq hd => by have := (HOL.out.lt q hq).1; have := HLT.out q (.inl hd); omega))
              have RP := Lib.hid (RP0.out w5 RX.out (Reads.of_own OL5.out))
              have AS5 := Lib.hid (hA.fr hf5 (fun hd => by have := HLT.out _ (.inl hd); omega) (fun q h1 h2 hd => by have := HLT.out q (.inl hd); have := HFX.out.size; omega))
              have BX5 := Lib.hid (hI.b0.fr hf5 (fun hd => by have := HLT.out _ (.inl hd); omega))
              have hwx := HFX.out.size
              have h5s := hf5.size
              clear hI hA hfx hq5 hf5 hd5 PK
              go_wp2_with fail
              refine RP.out.mono ?_
              rintro e w6 ⟨GA, ca, rfl, how, hrt⟩
              obtain ⟨Dn, En, pn, hdn, hfn⟩ := PD.out.turn HT.out hrt HRL.out
              obtain ⟨E6, hr6, hf6, he6⟩ := hrt
              have AS6 := Lib.hid (AS5.out.fr hf6 (fun hd => by have := HLT.out _ (.inr hd); omega) (fun q h1 h2 hd => by have := HLT.out q (.inr hd); omega))
              have BX6 := Lib.hid (BX5.out.fr hf6 (fun hd => by have := HLT.out _ (.inr hd); omega))
              obtain ⟨GB, cb, hgb, hob⟩ := AS6.out
              rw [HLEN.out] at hgb hob
              have EQ := Lib.hid (equalI_eq GB GA mm cb mm ca ((ids s.l).take mm) w6 (Reads.of_own hob) (Reads.of_own how) (by omega))
              have g0 := hgb.cell 0
              simp only [List.getElem?_toArray, List.getElem?_cons_zero] at g0
              have HDIS := Lib.hid (show ∀ q, D2 q ∨ E2 q → ¬ (Dn q ∨ En q) from fun q h1 h2 => (hdn q h2).elim (hdis q h1) (fun h3 => by have := PO.out.lt h1; omega))
              replace P2 := Lib.hid (PO.out.beside hfn (fun q hq => hq.elim (PD.out.hD q) (PD.out.hE q)) (fun q h1 h2 => hdis q (.inl h1) h2) (fun q h1 h2 => hdis q (.inr h1) h2))
              replace P := Lib.hid pn
              have e1 := BX6.out.cell 1
              simp only [List.getElem?_toArray, List.getElem?_cons_zero, List.getElem?_cons_succ] at e1
              have hpa := HPA.out
              clear pn hdn hfn hr6 hf6 he6 hgb hob how
              go_wp2_with fail
              refine EQ.out.mono ?_
              rintro e w7 ⟨rfl, qx, rfl⟩
              replace P := Lib.hid (P.out.fr0 ((Fr.refl No w6).drewN qx))
              replace P2 := Lib.hid (P2.out.fr0 ((Fr.refl No w6).drewN qx))
              replace e1 : (w6.drewN qx).cell? ⟨wo.heap.size, 1, none⟩ = some (.int .i64 a) := e1
              clear g0 hpa
              have hpa := HPA.out
              generalize w6.drewN qx = w7 at *
              go_wp2_with fail
              refine (shows_pair P.out id HID.out).mono ?_
              rintro e v1 ⟨rfl, hf⟩
              replace P := Lib.hid (P.out.fr0 hf)
              replace e1 := (hf.cell (p := ⟨wo.heap.size, 1, none⟩) (World.block_lt_of_cell? _ _ e1) (fun z => z)).trans e1
              replace P2 := Lib.hid (P2.out.fr0 hf)
              clear hf
              go_wp2_with fail
              refine (shows_pair P.out a HFA.out).mono ?_
              rintro e v2 ⟨rfl, hf⟩
              replace P := Lib.hid (P.out.fr0 hf)
              replace P2 := Lib.hid (P2.out.fr0 hf)
              clear hf e1
              go_wp2_with fail
              refine (shows_pair P2.out id HID.out).mono ?_
              rintro e v3 ⟨rfl, hf⟩
              replace P := Lib.hid (P.out.fr0 hf)
              replace P2 := Lib.hid (P2.out.fr0 hf)
              clear hf
              go_wp2
              go_roundw
              case rel => exact ⟨k + 1, _, _, _, _, _, _, rfl, rfl, by go_num, by omega, by omega, P, Lib.hid (.inr ⟨_, _, _, _, _, _, rfl, rfl, P2.out, HDIS.out⟩)⟩
              case measure => simp [intOf]; omega
        by_cases hd3 : d = 3
        · have hd := hd3.symm
          clear hd0 hd1 hd2 hd3
          subst hd
          have e1 := BX.out.cell 1
          have q0 := BX.out.cell 0
          simp only [List.getElem?_toArray, List.getElem?_cons_zero, List.getElem?_cons_succ] at e1 q0
          go_wp2_with fail
          rw [← HWA.out]
          clear c0 c1 c2 c3
          refine (Copy_at b D s _ P.out.q).mono ?_
          rintro e wq ⟨b3, D3, rfl, hnq⟩
          have HNQ := Lib.hid hnq
          replace e1 := (hnq.2.2.cell (p := ⟨wr.heap.size, 1, none⟩) (World.block_lt_of_cell? _ _ e1) (fun z => z)).trans e1
          clear hnq q0
          go_wp2_with fail
          refine (rCopy_at (P.out.r.fr0 HNQ.out.2.2)).mono ?_
          rintro e wp ⟨r3, E3, rfl, hr3, hE3, hf⟩
          obtain ⟨pn, po, hdis3⟩ := P.out.copy HNQ.out hr3 hE3 hf
          replace e1 := (hf.cell (p := ⟨wr.heap.size, 1, none⟩) (World.block_lt_of_cell? _ _ e1) (fun z => z)).trans e1
          have P2 := Lib.hid po
          have HDIS := Lib.hid hdis3
          replace P := Lib.hid pn
          clear pn po hdis3 hr3 hE3 hf HNQ
          go_wp2_with fail
          refine (shows_pair P.out id HID.out).mono ?_
          rintro e v1 ⟨rfl, hf⟩
          replace P := Lib.hid (P.out.fr0 hf)
          replace e1 := (hf.cell (p := ⟨wr.heap.size, 1, none⟩) (World.block_lt_of_cell? _ _ e1) (fun z => z)).trans e1
          replace P2 := Lib.hid (P2.out.fr0 hf)
          clear hf
          go_wp2_with fail
          refine (shows_pair P.out a HFA.out).mono ?_
          rintro e v2 ⟨rfl, hf⟩
          replace P := Lib.hid (P.out.fr0 hf)
          replace P2 := Lib.hid (P2.out.fr0 hf)
          clear hf e1
          go_wp2_with fail
          refine (shows_pair P2.out id HID.out).mono ?_
          rintro e v3 ⟨rfl, hf⟩
          replace P := Lib.hid (P.out.fr0 hf)
          replace P2 := Lib.hid (P2.out.fr0 hf)
          clear hf
          go_wp2
          go_roundw
          case rel => exact ⟨k + 1, _, _, _, _, _, _, rfl, rfl, by go_num, by omega, by omega, P, Lib.hid (.inr ⟨_, _, _, _, _, _, rfl, rfl, P2.out, HDIS.out⟩)⟩
          case measure => simp [intOf]; omega
        · have e1 := BX.out.cell 1
          have q0 := BX.out.cell 0
          simp only [List.getElem?_toArray, List.getElem?_cons_zero, List.getElem?_cons_succ] at e1 q0
          have n0 : (d == 0) = false := by simpa using hd0
          have n1 : (d == 1) = false := by simpa using hd1
          have n2 : (d == 2) = false := by simpa using hd2
          have n3 : (d == 3) = false := by simpa using hd3
          clear hd0 hd1 hd2 hd3
          have HDIS := Lib.hid hdis
          go_wp2_with fail
          rw [← HWA.out]
          clear c0 c1 c2 c3
          refine (shows_pair P.out id HID.out).mono ?_
          rintro e v1 ⟨rfl, hf⟩
          replace P := Lib.hid (P.out.fr0 hf)
          replace e1 := (hf.cell (p := ⟨wr.heap.size, 1, none⟩) (World.block_lt_of_cell? _ _ e1) (fun z => z)).trans e1
          replace P2 := Lib.hid (P2.out.fr0 hf)
          clear hf
          go_wp2_with fail
          refine (shows_pair P.out a HFA.out).mono ?_
          rintro e v2 ⟨rfl, hf⟩
          replace P := Lib.hid (P.out.fr0 hf)
          replace P2 := Lib.hid (P2.out.fr0 hf)
          clear hf e1
          go_wp2_with fail
          refine (shows_pair P2.out id HID.out).mono ?_
          rintro e v3 ⟨rfl, hf⟩
          replace P := Lib.hid (P.out.fr0 hf)
          replace P2 := Lib.hid (P2.out.fr0 hf)
          clear hf
          go_wp2
          go_roundw
          case rel => exact ⟨k + 1, _, _, _, _, _, _, rfl, rfl, by go_num, by omega, by omega, P, Lib.hid (.inr ⟨_, _, _, _, _, _, rfl, rfl, P2.out, HDIS.out⟩)⟩
          case measure => simp [intOf]; omega
    · have hlt2 : ¬ (k : Int) < (n : Int) := by omega
      go_wp2_with fail
      refine (works_any _).mono ?_
      rintro e w9 ⟨rfl, hf⟩
      have F9 := Lib.hid (P.out.fr.then0 hf)
      clear hf
      go_wp2
      go_ret
      exact ⟨rfl, F9.out⟩
end Go.Proofs.Ytcjcoigjedcieaa
