/- RunsCopies: the walk. -/
import Derived.Test.YtopcjakgfaobcaaSn
namespace Go.Proofs.Ytopcjakgfaobcaa
open Go.RowKit Go.Wk

/-- A table and two others, apart. -/
structure Tri (w wr : World) (bt : Nat) (Dt : Nat → Prop) (s0 : TS) (bx : Nat) (Dx : Nat → Prop) (sx : TS) (bz : Nat) (Dz : Nat → Prop) (sz : TS) : Prop where
  t : Own w wr bt Dt s0
  x : Own w wr bx Dx sx
  z : Own w wr bz Dz sz
  tx : ∀ k, Dt k → ¬ Dx k
  tz : ∀ k, Dt k → ¬ Dz k
  xz : ∀ k, Dx k → ¬ Dz k
section
variable {w w1 w2 : World} {bt bx bz : Nat} {Dt Dx Dx' Dz Dz' : Nat → Prop} {s0 sx sx' sz sz' : TS}
theorem Tri.fr0 (h : Tri w w1 bt Dt s0 bx Dx sx bz Dz sz) (hf : Fr No w1 w2) : Tri w w2 bt Dt s0 bx Dx sx bz Dz sz := ⟨h.t.fr0 hf, h.x.fr0 hf, h.z.fr0 hf, h.tx, h.tz, h.xz⟩
theorem Tri.nx (h : Tri w w1 bt Dt s0 bx Dx sx bz Dz sz) (ht : TabAt w2 bx Dx' sx') (hf : Fr Dx w1 w2) (hd : ∀ k, Dx' k → Dx k ∨ w1.heap.size ≤ k) : Tri w w2 bt Dt s0 bx Dx' sx' bz Dz sz :=
  ⟨h.t.beside hf h.x.hD h.tx, h.x.next ht hf hd, h.z.beside hf h.x.hD (fun k a b => h.xz k b a), apart_next h.t.tab h.tx hd, h.tz, fun k a b => apart_next h.z.tab (fun k a b => h.xz k b a) hd k b a⟩
theorem Tri.nz (h : Tri w w1 bt Dt s0 bx Dx sx bz Dz sz) (ht : TabAt w2 bz Dz' sz') (hf : Fr Dz w1 w2) (hd : ∀ k, Dz' k → Dz k ∨ w1.heap.size ≤ k) : Tri w w2 bt Dt s0 bx Dx sx bz Dz' sz' :=
  ⟨h.t.beside hf h.z.hD h.tz, h.x.beside hf h.z.hD h.xz, h.z.next ht hf hd, h.tx, apart_next h.t.tab h.tz hd, apart_next h.x.tab h.xz hd⟩
end

def runS (s : TS) (xs : List Stp) : TS := xs.foldl TS.step s
theorem runS_succ (s : TS) (es : List (List Int)) {k : Nat} (hk : k < es.length) : runS s ((stps es).take (k + 1)) = (runS s ((stps es).take k)).step (stp (es.getD k [])) := by
  have hl : k < (stps es).length := by simpa [stps] using hk
  rw [List.take_succ_eq_append_getElem hl, runS, List.foldl_append]
  simp [runS, stps, hk]

set_option maxRecDepth 100000 in
set_option maxHeartbeats 4000000 in
theorem runsCopies_walk (A : Option Addr) (n c : Nat) (es : List (List Int)) (B : Option Addr) (m q : Nat) (fs : List (List Int)) (w : World) (h : RowF kStp 48 w A n c es) (h2 : RowF kStp 48 w B m q fs) (hn : n ≤ 9223372036854775807) (hm : m ≤ 9223372036854775807) :
    Calls Try.prog 8 #[.slice A n c, .slice B m q] w fun e w' => e = .returned (.bool true) ∧ Fr No w w' := by
  have HR := Lib.hid h
  have HQ := Lib.hid h2
  have HFL := Lib.hid h2.2.2.2.1
  clear h h2
  by_cases b1 : 50 < n
  · go_enter Try.func8, Try.ntmps8
    go_wp2_with fail
    refine (works_any _).mono ?_
    rintro x w1 ⟨rfl, hf⟩
    go_wp2
    go_ret
    exact ⟨rfl, hf⟩
  by_cases b2 : 50 < m
  · go_enter Try.func8, Try.ntmps8
    go_wp2_with fail
    refine (works_any _).mono ?_
    rintro x w1 ⟨rfl, hf⟩
    go_wp2
    go_ret
    exact ⟨rfl, hf⟩
  have hl50 := fillS_last (stps es)
  have hl51 : ((stps es).length : Int) = n := by have := HR.out.2.2.2.1; simp [stps]; omega
  go_enter Try.func8, Try.ntmps8
  go_wp2_with fail
  refine (filled_any A n c es _ HR.out (by omega)).mono ?_
  rintro x w1 ⟨bt, Dt, rfl, OW⟩
  obtain ⟨s0, hs0⟩ : ∃ s0, s0 = fillS (stps es) := ⟨_, rfl⟩
  rw [← hs0] at OW hl50
  have HS0 := Lib.hid hs0
  clear hs0
  have HT := Lib.hid OW
  clear OW
  have hs1 := HT.out.tab.ok.len
  have hs2 := HT.out.tab.ok.s1
  have hlz := HT.out.tab.ok.l0
  go_wp2_with fail
  refine (copy_any bt Dt s0 _ HT.out.tab).mono ?_
  rintro x w2 ⟨bx, Dx, rfl, hc, hf, hd⟩
  have HTX := Lib.hid (show ∀ k, Dt k → ¬ Dx k from fun k a b => by have := HT.out.tab.lt a; have := hd k b; omega)
  have HX := Lib.hid (show Own w w2 bx Dx s0 from ⟨hc, HT.out.fr.then0 hf, fun k hk => Nat.le_trans HT.out.fr.size (hd k hk)⟩)
  replace HT := Lib.hid (HT.out.fr0 hf)
  clear hc hf hd
  go_wp2_with fail
  refine (copy_any bt Dt s0 _ HT.out.tab).mono ?_
  rintro x w3 ⟨bz, Dz, rfl, hc, hf, hd⟩
  have HTR := Lib.hid (show Tri w w3 bt Dt s0 bx Dx s0 bz Dz s0 from ⟨HT.out.fr0 hf, HX.out.fr0 hf, ⟨hc, HT.out.fr.then0 hf, fun k hk => Nat.le_trans HT.out.fr.size (hd k hk)⟩, HTX.out,
    fun k a b => by have := HT.out.tab.lt a; have := hd k b; omega, fun k a b => by have := HX.out.tab.lt a; have := hd k b; omega⟩)
  clear hc hf hd HT HX HTX
  go_wp2_with fail
  refine (live_any bx Dx s0 _ HTR.out.x.tab).mono ?_
  rintro x w4 ⟨A4, c4, rfl, ho, hf⟩
  have HV := Lib.hid (Reads.of_own ho)
  replace HTR := Lib.hid (HTR.out.fr0 hf)
  clear ho hf
  go_wp2_with fail
  refine (live_any bt Dt s0 _ HTR.out.t.tab).mono ?_
  rintro x w5 ⟨A5, c5, rfl, ho, hf⟩
  replace HV := Lib.hid (HV.out.fr hf (Nat.le_refl _) (fun _ _ x => x))
  replace HTR := Lib.hid (HTR.out.fr0 hf)
  have HV2 := Lib.hid (Reads.of_own ho)
  clear ho hf
  go_wp2_with fail
  refine (same_yes _ _ _ _ _ _ _ s0.live _ (by omega) HV.out HV2.out).mono ?_
  rintro x w6 ⟨rfl, hf⟩
  replace HTR := Lib.hid (HTR.out.fr0 hf)
  clear hf HV HV2
  go_wp2_with fail
  refine (last_any bx Dx s0 _ HTR.out.x.tab).mono ?_
  rintro x _ ⟨rfl, rfl⟩
  go_wp2_with fail
  refine (last_any bt Dt s0 _ HTR.out.t.tab).mono ?_
  rintro x _ ⟨rfl, rfl⟩
  have hll : (s0.last != s0.last) = false := by simp
  go_wp2
  go_loopw [8] (fun i wr => ∃ (k : Nat) (Dx Dz : Nat → Prop), i = .int .i64 k ∧ k ≤ m ∧ Tri w wr bt Dt s0 bx Dx (runS s0 ((stps fs).take k)) bz Dz (runS s0 ((stps fs).take k))) (fun i _ => m - (intOf i).toNat)
  case atStart => exact ⟨0, Dx, Dz, rfl, Nat.zero_le _, HTR.out⟩
  case round =>
    clear HTR
    obtain ⟨k, Dx, Dz, rfl, hk, TR⟩ := hrel
    have HTR := Lib.hid TR
    clear TR
    by_cases hlt : k < m
    · obtain ⟨xb, xo, x, hx, rfl, hxb, _, h0, h1, h2, h3, h4, h5⟩ := six HQ.out hlt
      have HS := Lib.hid (runS_succ s0 fs (by rw [HFL.out]; exact hlt))
      rw [← hx] at HS
      have hlast : (runS s0 ((stps fs).take k)).last < 1000000 := by
        have := foldl_last ((stps fs).take k) s0
        have := List.length_take_le k (stps fs)
        unfold runS
        omega
      generalize runS s0 ((stps fs).take k) = s at *
      have c0 := (HTR.out.t.fr.cell (p := ⟨xb, xo + k * 6, none⟩) hxb (fun x => x)).trans h0
      have c1 := (HTR.out.t.fr.cell (p := ⟨xb, xo + k * 6 + 1, none⟩) hxb (fun x => x)).trans h1
      have c2 := (HTR.out.t.fr.cell (p := ⟨xb, xo + k * 6 + 2, none⟩) hxb (fun x => x)).trans h2
      have c3 := (HTR.out.t.fr.cell (p := ⟨xb, xo + k * 6 + 3, none⟩) hxb (fun x => x)).trans h3
      have c4 := (HTR.out.t.fr.cell (p := ⟨xb, xo + k * 6 + 4, none⟩) hxb (fun x => x)).trans h4
      have c5 := (HTR.out.t.fr.cell (p := ⟨xb, xo + k * 6 + 5, none⟩) hxb (fun x => x)).trans h5
      clear h0 h1 h2 h3 h4 h5 hx
      have HNX := Lib.hid (show ¬ Dx wr.heap.size from fun a => by have := HTR.out.x.tab.lt a; omega)
      have HNZ := Lib.hid (show ¬ Dz wr.heap.size from fun a => by have := HTR.out.z.tab.lt a; omega)
      obtain ⟨dd, hdd⟩ : ∃ dd, dd = x.d := ⟨_, rfl⟩
      rw [← hdd] at c0
      have HE0 := Lib.hid (show s.step x = if dd = 1 then s.finS x.run else s.startS x.job x.due x.att x.now by rw [hdd]; rfl)
      clear hdd
      have HB := Lib.hid (Blk.new wr 42 #[.int .i64 dd, .int .i64 x.job, .int .i64 x.due, .int .i64 x.att, .int .i64 x.now, .int .i64 x.run])
      replace HTR := Lib.hid (HTR.out.fr0 ((Fr.refl No wr).alloc (.cells #[.int .i64 dd, .int .i64 x.job, .int .i64 x.due, .int .i64 x.att, .int .i64 x.now, .int .i64 x.run] 42)))
      by_cases hd : dd = 1
      · subst hd
        have HE := Lib.hid (show s.step x = s.finS x.run by rw [HE0.out, if_pos rfl])
        obtain ⟨x0, x1, x2, x3, x4, x5⟩ := cells6 HB.out
        go_wp2_with fail
        refine (finish_any bx Dx s _ x.run HTR.out.x.tab).mono ?_
        rintro e w7 ⟨rfl, ht, hf⟩
        replace HTR := Lib.hid (HTR.out.nx ht hf (fun k hk => .inl hk))
        replace HB := Lib.hid (HB.out.fr hf HNX.out)
        clear ht hf x0 x1 x2 x3 x4 x5 c0 c1 c2 c3 c4 c5
        unfold RV.agg
        obtain ⟨gv, hgv⟩ : ∃ gv, gv = s.getV x.run := ⟨_, rfl⟩
        rw [← hgv]
        have HGV := Lib.hid hgv.symm
        clear hgv
        have HB1 := Lib.hid (Blk.new w7 31 #[.int .i64 gv.id, .int .i64 gv.job, .int .i64 gv.due, .int .i64 gv.att, .int .i64 gv.start])
        have F1 := (Fr.refl No w7).alloc (.cells #[.int .i64 gv.id, .int .i64 gv.job, .int .i64 gv.due, .int .i64 gv.att, .int .i64 gv.start] 31)
        have HNZ1 := Lib.hid (show ¬ Dz w7.heap.size from fun a => by have := HTR.out.z.tab.lt a; omega)
        replace HTR := Lib.hid (HTR.out.fr0 F1)
        replace HB := Lib.hid (HB.out.fr0' F1)
        clear F1
        obtain ⟨x0, x1, x2, x3, x4, x5⟩ := cells6 HB.out
        go_wp2_with fail
        refine (finish_any bz Dz s _ x.run HTR.out.z.tab).mono ?_
        rintro e w8 ⟨rfl, ht, hf⟩
        have hgg : s.getV x.run = gv := HGV.out
        rw [hgg]
        replace HTR := Lib.hid (HTR.out.nz ht hf (fun k hk => .inl hk))
        replace HB1 := Lib.hid (HB1.out.fr hf HNZ1.out)
        clear ht hf x0 x1 x2 x3 x4 x5 HB HNX HNZ HNZ1 hgg
        unfold RV.agg
        have F1 := (Fr.refl No w8).alloc (.cells #[.int .i64 gv.id, .int .i64 gv.job, .int .i64 gv.due, .int .i64 gv.att, .int .i64 gv.start] 31)
        obtain ⟨y0, y1, y2, y3, y4⟩ := cells5 (Blk.new w8 31 #[.int .i64 gv.id, .int .i64 gv.job, .int .i64 gv.due, .int .i64 gv.att, .int .i64 gv.start])
        replace HTR := Lib.hid (HTR.out.fr0 F1)
        replace HB1 := Lib.hid (HB1.out.fr0' F1)
        obtain ⟨x0, x1, x2, x3, x4⟩ := cells5 HB1.out
        clear F1
        rw [← HE.out, ← HS.out] at HTR
        have hee : (s.finE x.run != s.finE x.run) = false := by simp
        go_wp2
        go_roundw
        case rel => exact ⟨k + 1, Dx, Dz, by go_num, by omega, HTR.out⟩
        case measure => simp [intOf]; omega
      · have HE := Lib.hid (show s.step x = s.startS x.job x.due x.att x.now by rw [HE0.out, if_neg hd])
        obtain ⟨x0, x1, x2, x3, x4, x5⟩ := cells6 HB.out
        go_wp2_with fail
        refine (start_any bx Dx s _ x.job x.due x.att x.now HTR.out.x.tab hlast).mono ?_
        rintro e w7 ⟨rfl, Dx', ht, hf, hdd⟩
        replace HTR := Lib.hid (HTR.out.nx ht hf hdd)
        replace HB := Lib.hid (HB.out.fr hf HNX.out)
        clear ht hf hdd x0 x1 x2 x3 x4 x5 c0 c1 c2 c3 c4 c5
        obtain ⟨x0, x1, x2, x3, x4, x5⟩ := cells6 HB.out
        go_wp2_with fail
        refine (start_any bz Dz s _ x.job x.due x.att x.now HTR.out.z.tab hlast).mono ?_
        rintro e w8 ⟨rfl, Dz', ht, hf, hdd⟩
        replace HTR := Lib.hid (HTR.out.nz ht hf hdd)
        clear ht hf hdd x0 x1 x2 x3 x4 x5 HB HNX HNZ
        rw [← HE.out, ← HS.out] at HTR
        have hee : (s.startE x.job x.due x.att x.now != s.startE x.job x.due x.att x.now) = false := by simp
        have hvv : (s.startV x.job x.due x.att x.now != s.startV x.job x.due x.att x.now) = false := by simp
        generalize s.startE x.job x.due x.att x.now = ee at *
        generalize s.startV x.job x.due x.att x.now = vv at *
        go_wp2
        go_roundw
        case rel => exact ⟨k + 1, Dx', Dz', by go_num, by omega, HTR.out⟩
        case measure => simp [intOf]; omega
    · clear hlz
      generalize runS s0 ((stps fs).take k) = s at *
      have HFR := Lib.hid HTR.out.t.fr
      go_wp2_with fail
      refine (filled_any A n c es _ (HR.out.fr0 HFR.out) (by omega)).mono ?_
      rintro x w7 ⟨bu, Du, rfl, OU⟩
      rw [← HS0.out] at OU
      have HU := Lib.hid (OU.back HFR.out)
      replace HTR := Lib.hid (HTR.out.fr0 OU.fr)
      clear OU HFR
      have hq1 := HTR.out.x.tab.ok.len
      have hq2 := HTR.out.x.tab.ok.s1
      go_wp2_with fail
      refine (live_any bx Dx s _ HTR.out.x.tab).mono ?_
      rintro x w8 ⟨A6, c6, rfl, ho, hf⟩
      have HV := Lib.hid (Reads.of_own ho)
      replace HTR := Lib.hid (HTR.out.fr0 hf)
      replace HU := Lib.hid (HU.out.fr0 hf)
      clear ho hf
      go_wp2_with fail
      refine (live_any bz Dz s _ HTR.out.z.tab).mono ?_
      rintro x w9 ⟨A7, c7, rfl, ho, hf⟩
      replace HV := Lib.hid (HV.out.fr hf (Nat.le_refl _) (fun _ _ x => x))
      replace HTR := Lib.hid (HTR.out.fr0 hf)
      replace HU := Lib.hid (HU.out.fr0 hf)
      have HV2 := Lib.hid (Reads.of_own ho)
      clear ho hf
      go_wp2_with fail
      refine (same_yes _ _ _ _ _ _ _ s.live _ (by omega) HV.out HV2.out).mono ?_
      rintro x w10 ⟨rfl, hf⟩
      replace HTR := Lib.hid (HTR.out.fr0 hf)
      replace HU := Lib.hid (HU.out.fr0 hf)
      clear hf HV HV2
      go_wp2_with fail
      refine (live_any bt Dt s0 _ HTR.out.t.tab).mono ?_
      rintro x w11 ⟨A8, c8, rfl, ho, hf⟩
      have HV := Lib.hid (Reads.of_own ho)
      replace HTR := Lib.hid (HTR.out.fr0 hf)
      replace HU := Lib.hid (HU.out.fr0 hf)
      clear ho hf
      go_wp2_with fail
      refine (live_any bu Du s0 _ HU.out.tab).mono ?_
      rintro x w12 ⟨A9, c9, rfl, ho, hf⟩
      replace HV := Lib.hid (HV.out.fr hf (Nat.le_refl _) (fun _ _ x => x))
      replace HTR := Lib.hid (HTR.out.fr0 hf)
      replace HU := Lib.hid (HU.out.fr0 hf)
      have HV2 := Lib.hid (Reads.of_own ho)
      clear ho hf
      go_wp2_with fail
      refine (same_yes _ _ _ _ _ _ _ s0.live _ (by omega) HV.out HV2.out).mono ?_
      rintro x w13 ⟨rfl, hf⟩
      replace HTR := Lib.hid (HTR.out.fr0 hf)
      replace HU := Lib.hid (HU.out.fr0 hf)
      clear hf HV HV2
      go_wp2_with fail
      refine (last_any bt Dt s0 _ HTR.out.t.tab).mono ?_
      rintro x _ ⟨rfl, rfl⟩
      go_wp2_with fail
      refine (last_any bu Du s0 _ HU.out.tab).mono ?_
      rintro x _ ⟨rfl, rfl⟩
      go_wp2_with fail
      refine (works_any _).mono ?_
      rintro x w14 ⟨rfl, hf⟩
      go_wp2
      go_ret
      exact ⟨rfl, HTR.out.t.fr.then0 hf⟩
end Go.Proofs.Ytopcjakgfaobcaa
