/- RunsPlays: the walk. -/
import Derived.Test.YtopcjakgfaobcaaU
import Derived.Deep.CutBlock
namespace Go.Proofs.Ytopcjakgfaobcaa
open Go.RowKit Go.Wk

def NewU (w : World) (size : Int) (e : Ending) (w' : World) : Prop := ∃ p D er, e = .returned (.tuple #[.pointer p, .int .i64 er]) ∧ TU w' p D (if size < 0 ∨ 1000 < size then none else some (.new size)) ∧ er = (if size < 0 ∨ 1000 < size then 2 else 0) ∧ Fr No w w' ∧ ∀ k, D k → w.heap.size ≤ k
def RNewU (w : World) (size : Int) (e : Ending) (w' : World) : Prop := ∃ p D er, e = .returned (.tuple #[.pointer p, .int .i64 er]) ∧ RU w' p D (if size < 0 ∨ 1000 < size then none else some (.new size)) ∧ er = (if size < 0 ∨ 1000 < size then 2 else 0) ∧ Fr No w w' ∧ ∀ k, D k → w.heap.size ≤ k
theorem new_u (size : Int) (w : World) : Calls Try.prog 11 #[.int .i64 size] w fun e w' => NewU w size e w' := by
  unfold NewU
  by_cases hb : size < 0 ∨ 1000 < size
  · simp only [if_pos hb]
    exact (new_bad size w hb).mono fun e w' ⟨he, hw⟩ => ⟨none, No, 2, he, ⟨rfl, rfl⟩, rfl, hw ▸ Fr.refl _ _, fun k hk => hk.elim⟩
  · simp only [if_neg hb]
    exact (new_good size w (fun h => hb (.inl h)) (fun h => hb (.inr h))).mono fun e w' ⟨he, h1, h2⟩ => ⟨_, _, 0, he, ⟨_, rfl, h1⟩, rfl, h2, fun k hk => Nat.le_of_eq hk.symm⟩
theorem rnew_u (size : Int) (w : World) : Calls Try.prog 25 #[.int .i64 size] w fun e w' => RNewU w size e w' := by
  unfold RNewU
  by_cases hb : size < 0 ∨ 1000 < size
  · simp only [if_pos hb]
    exact (rnew_bad size w hb).mono fun e w' ⟨he, hw⟩ => ⟨none, No, 2, he, ⟨rfl, rfl⟩, rfl, hw ▸ Fr.refl _ _, fun k hk => hk.elim⟩
  · simp only [if_neg hb]
    exact (rnew_good size w (fun h => hb (.inl h)) (fun h => hb (.inr h))).mono fun e w' ⟨he, h1, h2⟩ => ⟨_, _, 0, he, ⟨_, rfl, h1⟩, rfl, h2, fun k hk => Nat.le_of_eq hk.symm⟩
theorem TU.some_ {w : World} {p : Option Addr} {D : Nat → Prop} {s : TS} (h : TU w p D (some s)) : ∃ b, p = some ⟨b, 0, none⟩ := by obtain ⟨b, hp, _⟩ := h; exact ⟨b, hp⟩
theorem RU.some_ {w : World} {p : Option Addr} {D : Nat → Prop} {s : TS} (h : RU w p D (some s)) : ∃ b, p = some ⟨b, 0, none⟩ := by obtain ⟨b, hp, _⟩ := h; exact ⟨b, hp⟩
theorem uLast_new (size : Int) : uLast (if size < 0 ∨ 1000 < size then none else some (.new size)) ≤ 0 := by
  split
  · exact Int.le_refl _
  · exact Int.le_refl _

set_option maxRecDepth 100000 in
set_option maxHeartbeats 8000000 in
theorem runsPlays_walk (size : Int) (A : Option Addr) (n c : Nat) (es : List (List Int)) (a0 a1 now : Int) (w : World) (h : RowF kStp 48 w A n c es) (hn : n ≤ 9223372036854775807) (hnow : now ≤ 9223372036854775807) :
    Calls Try.prog 9 #[.int .i64 size, .slice A n c, .agg #[.int .i64 a0, .int .i64 a1], .int .i64 now] w fun e w' => e = .returned (.bool true) ∧ Fr No w w' := by
  have HB6 := Lib.hid (Blk.new w 54 #[.int .i64 a0, .int .i64 a1])
  have HFB := Lib.hid ((Fr.refl No w).alloc (.cells #[.int .i64 a0, .int .i64 a1] 54))
  have HR := Lib.hid (h.fr0 HFB.out)
  obtain ⟨wb, hwb⟩ : ∃ wb, wb = w.alloc (.cells #[.int .i64 a0, .int .i64 a1] 54) := ⟨_, rfl⟩
  have HWB := Lib.hid hwb
  rw [← hwb] at HB6 HFB HR
  clear h hwb
  by_cases b1 : 60 < n
  · go_enter Try.func9, Try.ntmps9
    go_wp2_with fail
    rw [← HWB.out]
    refine (works_any _).mono ?_
    rintro x w1 ⟨rfl, hf⟩
    go_wp2
    go_ret
    exact ⟨rfl, HFB.out.then0 hf⟩
  go_enter Try.func9, Try.ntmps9
  go_wp2_with fail
  rw [← HWB.out]
  refine (new_u size _).mono ?_
  rintro x w1 ⟨p, D, er, rfl, hT, her, hf, hD⟩
  have HT := Lib.hid hT
  have HE1 := Lib.hid her
  have HF1 := Lib.hid hf
  have HD := Lib.hid hD
  clear hT her hf hD
  go_wp2_with fail
  refine (rnew_u size _).mono ?_
  rintro x w2 ⟨p', D', er', rfl, hT, her, hf, hD⟩
  have hee : (er != er') = false := by rw [HE1.out, her]; simp
  have DU := Lib.hid (show Duo wb w2 p D _ p' D' _ from ⟨HT.out.fr hf (fun _ _ x => x), hT, fun k a b => by have := HT.out.lt a; have := hD k b; omega, HD.out, fun k hk => Nat.le_trans HF1.out.size (hD k hk), HF1.out.then0 hf⟩)
  have HUL := Lib.hid (uLast_new size)
  clear her hf hD hT HT HE1 HF1 HD
  obtain ⟨o, ho⟩ : ∃ o, o = (if size < 0 ∨ 1000 < size then none else some (TS.new size)) := ⟨_, rfl⟩
  rw [← ho] at DU HUL
  clear ho
  go_upto_region 5 with fail
  go_cut [62] from 53 to 61 (fun v wx => v = .bool false ∧ wx = w2)
  case first =>
    cases o with
    | none =>
      obtain ⟨rfl, _⟩ := DU.out.t
      obtain ⟨rfl, _⟩ := DU.out.r
      go_wp2
      go_meet
      exact ⟨rfl, rfl⟩
    | some s =>
      obtain ⟨b, rfl⟩ := DU.out.t.some_
      obtain ⟨b', rfl⟩ := DU.out.r.some_
      go_wp2
      go_meet
      exact ⟨rfl, rfl⟩
  case rest =>
    obtain ⟨rfl, rfl⟩ := hcut
    clear hee
    go_wp2
    go_loopw [9, 11, 13] (fun t r i wr => ∃ (k : Nat) (o : Option TS) (p p' : Option Addr) (D D' : Nat → Prop), t = .pointer p ∧ r = .pointer p' ∧ i = .int .i64 k ∧ k ≤ n ∧ uLast o ≤ k ∧ Duo wb wr p D o p' D' o) (fun _ _ i _ => n - (intOf i).toNat)
    case atStart => exact ⟨0, o, p, p', D, D', rfl, rfl, rfl, Nat.zero_le _, HUL.out, DU.out⟩
    case round =>
      clear DU HUL
      obtain ⟨k, o, p, p', D, D', rfl, rfl, rfl, hk, hul, DU0⟩ := hrel
      have DU := Lib.hid DU0
      clear DU0
      by_cases hlt : k < n
      · obtain ⟨xb, xo, x, hx, rfl, hxb, hxn, h0, h1, h2, h3, h4, h5⟩ := six HR.out hlt
        have c0 := (DU.out.fr.cell (p := ⟨xb, xo + k * 6, none⟩) hxb (fun x => x)).trans h0
        have c1 := (DU.out.fr.cell (p := ⟨xb, xo + k * 6 + 1, none⟩) hxb (fun x => x)).trans h1
        have c2 := (DU.out.fr.cell (p := ⟨xb, xo + k * 6 + 2, none⟩) hxb (fun x => x)).trans h2
        have c3 := (DU.out.fr.cell (p := ⟨xb, xo + k * 6 + 3, none⟩) hxb (fun x => x)).trans h3
        have c4 := (DU.out.fr.cell (p := ⟨xb, xo + k * 6 + 4, none⟩) hxb (fun x => x)).trans h4
        have c5 := (DU.out.fr.cell (p := ⟨xb, xo + k * 6 + 5, none⟩) hxb (fun x => x)).trans h5
        clear h0 h1 h2 h3 h4 h5 hx
        have HNT := Lib.hid (show ¬ D wr.heap.size from fun a => by have := DU.out.t.lt a; omega)
        have HNR := Lib.hid (show ¬ D' wr.heap.size from fun a => by have := DU.out.r.lt a; omega)
        generalize x.d = dd at *
        have HB := Lib.hid (Blk.new wr 42 #[.int .i64 dd, .int .i64 x.job, .int .i64 x.due, .int .i64 x.att, .int .i64 x.now, .int .i64 x.run])
        replace DU := Lib.hid (DU.out.fr0 ((Fr.refl No wr).alloc (.cells #[.int .i64 dd, .int .i64 x.job, .int .i64 x.due, .int .i64 x.att, .int .i64 x.now, .int .i64 x.run] 42)))
        go_upto_block 2 with fail
        clear c0 c1 c2 c3 c4 c5
        obtain ⟨x0, x1, x2, x3, x4, x5⟩ := cells6 HB.out
        obtain ⟨X, hX⟩ : ∃ X, X = wr.heap.size := ⟨_, rfl⟩
        generalize wr.alloc (.cells #[.int .i64 dd, .int .i64 x.job, .int .i64 x.due, .int .i64 x.att, .int .i64 x.now, .int .i64 x.run] 42) = wv at *
        simp only [← hX] at HNT HNR HB x0 x1 x2 x3 x4 x5 ⊢
        clear hX
        go_cut [9, 11, 15, 16, 17, 18, 19, 20, 21, 22] from 63 to 202 (fun t r _ _ _ _ _ _ _ _ wx => ∃ (o1 : Option TS) (p1 p2 : Option Addr) (D1 D2 : Nat → Prop), t = .pointer p1 ∧ r = .pointer p2 ∧ uLast o1 ≤ (k : Int) + 1 ∧ Duo wb wx p1 D1 o1 p2 D2 o1 ∧ Blk wx X 42 #[.int .i64 dd, .int .i64 x.job, .int .i64 x.due, .int .i64 x.att, .int .i64 x.now, .int .i64 x.run])
        case first =>
          have hul6 : uLast o < 1000000 := by omega
          rcases (show dd = 0 ∨ dd = 1 ∨ dd = 2 ∨ (¬ dd = 0 ∧ ¬ dd = 1 ∧ ¬ dd = 2) by omega) with rfl | rfl | rfl | ⟨n0, n1, n2⟩
          · go_wp2_with fail
            refine (start_u p D o _ x.job x.due x.att x.now DU.out.t hul6).mono ?_
            rintro e w3 ⟨rfl, D1, ht, hf, hd⟩
            replace DU := Lib.hid (DU.out.nt ht hf hd)
            replace HB := Lib.hid (HB.out.fr hf HNT.out)
            clear ht hf hd x0 x1 x2 x3 x4 x5
            obtain ⟨x0, x1, x2, x3, x4, x5⟩ := cells6 HB.out
            go_wp2_with fail
            refine (rstart_u p' D' o _ x.job x.due x.att x.now DU.out.r hul6).mono ?_
            rintro e w4 ⟨rfl, D2, ht, hf, hd⟩
            replace DU := Lib.hid (DU.out.nr ht hf hd)
            replace HB := Lib.hid (HB.out.fr hf HNR.out)
            have HUS := Lib.hid (uStart_last o x.job x.due x.att x.now)
            clear ht hf hd x0 x1 x2 x3 x4 x5
            have hee : (uStartE o x.job x.due x.att x.now != uStartE o x.job x.due x.att x.now) = false := by simp
            have hvv : (uStartV o x.job x.due x.att x.now != uStartV o x.job x.due x.att x.now) = false := by simp
            generalize uStartE o x.job x.due x.att x.now = ee at *
            generalize uStartV o x.job x.due x.att x.now = vv at *
            go_wp2
            go_meet
            exact ⟨_, p, p', D1, D2, rfl, rfl, by have := HUS.out; omega, DU.out, HB.out⟩
          · go_wp2_with fail
            refine (finish_u p D o _ x.run DU.out.t).mono ?_
            rintro e w3 ⟨rfl, D1, ht, hf, hd⟩
            replace DU := Lib.hid (DU.out.nt ht hf hd)
            replace HB := Lib.hid (HB.out.fr hf HNT.out)
            clear ht hf hd x0 x1 x2 x3 x4 x5
            unfold RV.agg
            obtain ⟨gv, hgv⟩ : ∃ gv, gv = uGetV o x.run := ⟨_, rfl⟩
            rw [← hgv]
            have HGV := Lib.hid hgv.symm
            clear hgv
            have HB1 := Lib.hid (Blk.new w3 31 #[.int .i64 gv.id, .int .i64 gv.job, .int .i64 gv.due, .int .i64 gv.att, .int .i64 gv.start])
            have F1 := (Fr.refl No w3).alloc (.cells #[.int .i64 gv.id, .int .i64 gv.job, .int .i64 gv.due, .int .i64 gv.att, .int .i64 gv.start] 31)
            have HNR1 := Lib.hid (show ¬ D' w3.heap.size from fun a => by have := DU.out.r.lt a; omega)
            replace DU := Lib.hid (DU.out.fr0 F1)
            replace HB := Lib.hid (HB.out.fr0' F1)
            clear F1
            obtain ⟨x0, x1, x2, x3, x4, x5⟩ := cells6 HB.out
            go_wp2_with fail
            refine (rfinish_u p' D' o _ x.run DU.out.r).mono ?_
            rintro e w4 ⟨rfl, D2, ht, hf, hd⟩
            rw [HGV.out]
            replace DU := Lib.hid (DU.out.nr ht hf hd)
            replace HB := Lib.hid (HB.out.fr hf HNR.out)
            replace HB1 := Lib.hid (HB1.out.fr hf HNR1.out)
            clear ht hf hd x0 x1 x2 x3 x4 x5 HNR1
            unfold RV.agg
            have F1 := (Fr.refl No w4).alloc (.cells #[.int .i64 gv.id, .int .i64 gv.job, .int .i64 gv.due, .int .i64 gv.att, .int .i64 gv.start] 31)
            obtain ⟨y0, y1, y2, y3, y4⟩ := cells5 (Blk.new w4 31 #[.int .i64 gv.id, .int .i64 gv.job, .int .i64 gv.due, .int .i64 gv.att, .int .i64 gv.start])
            replace DU := Lib.hid (DU.out.fr0 F1)
            replace HB := Lib.hid (HB.out.fr0' F1)
            replace HB1 := Lib.hid (HB1.out.fr0' F1)
            obtain ⟨x0, x1, x2, x3, x4⟩ := cells5 HB1.out
            clear F1
            have HUS := Lib.hid (uFin_last o x.run)
            have hee : (uFinE o x.run != uFinE o x.run) = false := by simp
            generalize uFinE o x.run = ee at *
            go_wp2
            go_meet
            exact ⟨_, p, p', D1, D2, rfl, rfl, by have := HUS.out; omega, DU.out, HB.out⟩
          · go_wp2_with fail
            refine (copy_u p D o _ DU.out.t).mono ?_
            rintro e w3 ⟨p1, D1, rfl, ht, hf, hd⟩
            replace HB := Lib.hid (HB.out.fr0' hf)
            have DU1 := Lib.hid (DU.out.nt ht (hf.mono (fun _ x => x.elim)) (fun k hk => .inr (hd k hk)))
            clear ht hf hd x0 x1 x2 x3 x4 x5 DU
            go_wp2_with fail
            refine (rcopy_u p' D' o _ DU1.out.r).mono ?_
            rintro e w4 ⟨p2, D2, rfl, ht, hf, hd⟩
            replace HB := Lib.hid (HB.out.fr0' hf)
            have DU := Lib.hid (DU1.out.nr ht (hf.mono (fun _ x => x.elim)) (fun k hk => .inr (hd k hk)))
            clear ht hf hd DU1
            go_wp2
            go_meet
            exact ⟨o, p1, p2, D1, D2, rfl, rfl, by omega, DU.out, HB.out⟩
          · go_wp2
            go_meet
            exact ⟨o, p, p', D, D', rfl, rfl, by omega, DU.out, HB.out⟩
        case rest =>
          clear DU HB HNT HNR x0 x1 x2 x3 x4 x5
          obtain ⟨o1, p1, p2, D1, D2, rfl, rfl, hul1, DU0, HB0⟩ := hcut
          have DU := Lib.hid DU0
          have HB := Lib.hid HB0
          have hlen := DU0.t.len
          obtain ⟨x0, x1, x2, x3, x4, x5⟩ := cells6 HB0
          clear DU0 HB0 hul
          go_wp2_with fail
          refine (oldest_u p1 D1 o1 x.now _ DU.out.t hxn).mono ?_
          rintro e w3 ⟨rfl, hf⟩
          replace DU := Lib.hid (DU.out.fr0 hf)
          replace HB := Lib.hid (HB.out.fr0' hf)
          clear hf x0 x1 x2 x3 x4 x5
          obtain ⟨x0, x1, x2, x3, x4, x5⟩ := cells6 HB.out
          go_wp2_with fail
          refine (roldest_u p2 D2 o1 x.now _ DU.out.r hxn).mono ?_
          rintro e w4 ⟨rfl, hf⟩
          replace DU := Lib.hid (DU.out.fr0 hf)
          replace HB := Lib.hid (HB.out.fr0' hf)
          clear hf x0 x1 x2 x3 x4 x5
          go_wp2_with fail
          have hoi : (uOldId o1 != uOldId o1) = false := by simp
          have hoa : (uOldAge o1 x.now != uOldAge o1 x.now) = false := by simp
          have hob : (uOldOk o1 != uOldOk o1) = false := by simp
          have hol : (((uLive o1).length : Int) != ((uLive o1).length : Int)) = false := by simp
          have hot : (uLast o1 != uLast o1) = false := by simp
          have hoc : (uCnt o1 x.job != uCnt o1 x.job) = false := by simp
          have HD0 := Lib.hid (DU.out.fr0 ((Fr.refl No w4).drew))
          have HB0 := Lib.hid (HB.out.fr0' ((Fr.refl No w4).drew))
          have KD : w4.drew.cell? ⟨X, 1, none⟩ = some (.int .i64 x.job) := HB0.out.cell 1
          clear DU HB
          go_region_held3 (fun w' => w'.cell? ⟨X, 1, none⟩ = some (.int .i64 x.job)) (first | go_keep | exact kk4 | exact kk3 | exact kk2 | exact kk1 | exact KD)
            (first
              | (go_at_call 14; refine (len_u p1 D1 o1 w4.drew HD0.out.t).mono ?_; rintro e _ ⟨rfl, rfl⟩)
              | (go_at_call 30; refine (rlen_u p2 D2 o1 w4.drew HD0.out.r).mono ?_; rintro e _ ⟨rfl, rfl⟩)
              | (go_at_call 21; refine (last_u p1 D1 o1 w4.drew HD0.out.t).mono ?_; rintro e _ ⟨rfl, rfl⟩)
              | (go_at_call 31; refine (rlast_u p2 D2 o1 w4.drew HD0.out.r).mono ?_; rintro e _ ⟨rfl, rfl⟩)
              | (go_at_call 18; refine (count_u p1 D1 o1 x.job w4.drew HD0.out.t).mono ?_; rintro e w5 ⟨rfl, hf⟩; have HD1 := Lib.hid (HD0.out.fr0 hf); have HB1 := Lib.hid (HB0.out.fr0' hf); have kk1 : w5.cell? ⟨X, 1, none⟩ = some (.int .i64 x.job) := HB1.out.cell 1; clear hf)
              | (go_at_call 32; refine (rcount_u p2 D2 o1 x.job w4.drew HD0.out.r).mono ?_; rintro e _ ⟨rfl, rfl⟩)
              | (go_at_call 32; refine (rcount_u p2 D2 o1 x.job w5 HD1.out.r).mono ?_; rintro e _ ⟨rfl, rfl⟩)
              | (go_at_call 17; refine (live_u p1 D1 o1 w5 HD1.out.t).mono ?_; rintro e w6 ⟨A5, c5, rfl, hrA, hf⟩; have HRA := Lib.hid hrA; have HD2 := Lib.hid (HD1.out.fr0 hf); have HB2 := Lib.hid (HB1.out.fr0' hf); have kk2 : w6.cell? ⟨X, 1, none⟩ = some (.int .i64 x.job) := HB2.out.cell 1; clear hrA hf)
              | (go_at_call 33; refine (rlive_u p2 D2 o1 w6 HD2.out.r).mono ?_; rintro e w7 ⟨B5, d5, rfl, hrB, hf⟩; have HB3 := Lib.hid hrB; have HA3 := Lib.hid (HRA.out.fr hf (Nat.le_refl _) (fun _ _ x => x)); have HD3 := Lib.hid (HD2.out.fr0 hf); have HBB3 := Lib.hid (HB2.out.fr0' hf); have kk3 : w7.cell? ⟨X, 1, none⟩ = some (.int .i64 x.job) := HBB3.out.cell 1; clear hrB hf)
              | (go_at_call 33; refine (rlive_u p2 D2 o1 w5 HD1.out.r).mono ?_; rintro e w6 ⟨B5, d5, rfl, hrB, hf⟩; have HRB := Lib.hid hrB; have HD2 := Lib.hid (HD1.out.fr0 hf); have HB2 := Lib.hid (HB1.out.fr0' hf); have kk2 : w6.cell? ⟨X, 1, none⟩ = some (.int .i64 x.job) := HB2.out.cell 1; clear hrB hf)
              | (go_at_call 17; refine (live_u p1 D1 o1 w6 HD2.out.t).mono ?_; rintro e w7 ⟨A5, c5, rfl, hrA, hf⟩; have HA3 := Lib.hid hrA; have HB3 := Lib.hid (HRB.out.fr hf (Nat.le_refl _) (fun _ _ x => x)); have HD3 := Lib.hid (HD2.out.fr0 hf); have HBB3 := Lib.hid (HB2.out.fr0' hf); have kk3 : w7.cell? ⟨X, 1, none⟩ = some (.int .i64 x.job) := HBB3.out.cell 1; clear hrA hf)
              | (go_at_call 20; refine (same_yes A5 B5 (uLive o1).length c5 d5 _ _ (uLive o1) w7 (Nat.le_trans hlen (by decide)) HA3.out HB3.out).mono ?_; rintro e w8 ⟨rfl, hf⟩; have HD4 := Lib.hid (HD3.out.fr0 hf); have HBB4 := Lib.hid (HBB3.out.fr0' hf); have kk4 : w8.cell? ⟨X, 1, none⟩ = some (.int .i64 x.job) := HBB4.out.cell 1; clear hf))
          all_goals
            go_wp2
            go_roundw
            case rel => exact ⟨k + 1, o1, p1, p2, D1, D2, rfl, rfl, by go_num, by omega, by omega, HD4.out⟩
            case measure => simp [intOf]; omega
      · have HB := Lib.hid (HB6.out.fr0' DU.out.fr)
        have k0 : wr.cell? ⟨w.heap.size, 0, none⟩ = some (.int .i64 a0) := HB.out.cell 0
        obtain ⟨gv, hgv⟩ : ∃ gv, gv = uGetV o a0 := ⟨_, rfl⟩
        have HGV := Lib.hid hgv.symm
        clear hgv
        go_wp2_with fail
        refine (get_u p D o a0 _ DU.out.t).mono ?_
        rintro e w3 ⟨rfl, hf⟩
        rw [HGV.out]
        unfold RV.agg
        have F1 := hf.alloc (.cells #[.int .i64 gv.id, .int .i64 gv.job, .int .i64 gv.due, .int .i64 gv.att, .int .i64 gv.start] 31)
        have HBA := Lib.hid (Blk.new w3 31 #[.int .i64 gv.id, .int .i64 gv.job, .int .i64 gv.due, .int .i64 gv.att, .int .i64 gv.start])
        replace DU := Lib.hid (DU.out.fr0 F1)
        replace HB := Lib.hid (HB.out.fr0' F1)
        clear hf F1 k0
        have k0 := HB.out.cell 0
        simp only [List.getElem?_toArray, List.getElem?_cons_zero] at k0
        go_wp2_with fail
        refine (rget_u p' D' o a0 _ DU.out.r).mono ?_
        rintro e w4 ⟨rfl, hf⟩
        rw [HGV.out]
        unfold RV.agg
        have F1 := hf.alloc (.cells #[.int .i64 gv.id, .int .i64 gv.job, .int .i64 gv.due, .int .i64 gv.att, .int .i64 gv.start] 31)
        have HBC := Lib.hid (Blk.new w4 31 #[.int .i64 gv.id, .int .i64 gv.job, .int .i64 gv.due, .int .i64 gv.att, .int .i64 gv.start])
        replace DU := Lib.hid (DU.out.fr0 F1)
        replace HB := Lib.hid (HB.out.fr0' F1)
        replace HBA := Lib.hid (HBA.out.fr0' F1)
        clear hf F1 k0
        go_wp2_with fail
        refine (oldest_u p D o now _ DU.out.t hnow).mono ?_
        rintro e w5 ⟨rfl, hf⟩
        replace DU := Lib.hid (DU.out.fr0 hf)
        replace HB := Lib.hid (HB.out.fr0' hf)
        replace HBA := Lib.hid (HBA.out.fr0' hf)
        replace HBC := Lib.hid (HBC.out.fr0' hf)
        clear hf
        go_wp2_with fail
        refine (roldest_u p' D' o now _ DU.out.r hnow).mono ?_
        rintro e w6 ⟨rfl, hf⟩
        replace DU := Lib.hid (DU.out.fr0 hf)
        replace HB := Lib.hid (HB.out.fr0' hf)
        replace HBA := Lib.hid (HBA.out.fr0' hf)
        replace HBC := Lib.hid (HBC.out.fr0' hf)
        clear hf
        go_wp2_with fail
        generalize w3.heap.size = XA at *
        generalize w4.heap.size = XC at *
        generalize w.heap.size = X6 at *
        have hoi : (uOldId o == uOldId o) = true := by simp
        have hoa : (uOldAge o now == uOldAge o now) = true := by simp
        have hob : (uOldOk o == uOldOk o) = true := by simp
        have hoh : (uHas o a0 == uHas o a0) = true := by simp
        have hoc : (uCnt o a1 == uCnt o a1) = true := by simp
        have FD := (Fr.refl No w6).drew
        have HD0 := Lib.hid (DU.out.fr0 FD)
        have HB0 := Lib.hid (HB.out.fr0' FD)
        have HA0 := Lib.hid (HBA.out.fr0' FD)
        have HC0 := Lib.hid (HBC.out.fr0' FD)
        have KD : (w6.drew).cell? ⟨XA, 0, none⟩ = some (.int .i64 gv.id) ∧ (w6.drew).cell? ⟨XA, 1, none⟩ = some (.int .i64 gv.job) ∧ (w6.drew).cell? ⟨XA, 2, none⟩ = some (.int .i64 gv.due) ∧ (w6.drew).cell? ⟨XA, 3, none⟩ = some (.int .i64 gv.att) ∧ (w6.drew).cell? ⟨XA, 4, none⟩ = some (.int .i64 gv.start) ∧ (w6.drew).cell? ⟨XC, 0, none⟩ = some (.int .i64 gv.id) ∧ (w6.drew).cell? ⟨XC, 1, none⟩ = some (.int .i64 gv.job) ∧ (w6.drew).cell? ⟨XC, 2, none⟩ = some (.int .i64 gv.due) ∧ (w6.drew).cell? ⟨XC, 3, none⟩ = some (.int .i64 gv.att) ∧ (w6.drew).cell? ⟨XC, 4, none⟩ = some (.int .i64 gv.start) ∧ (w6.drew).cell? ⟨X6, 1, none⟩ = some (.int .i64 a1) := ⟨HA0.out.cell 0, HA0.out.cell 1, HA0.out.cell 2, HA0.out.cell 3, HA0.out.cell 4, HC0.out.cell 0, HC0.out.cell 1, HC0.out.cell 2, HC0.out.cell 3, HC0.out.cell 4, HB0.out.cell 1⟩
        clear DU HB HBA HBC FD
        go_region_held3 (fun w' => (w').cell? ⟨XA, 0, none⟩ = some (.int .i64 gv.id) ∧ (w').cell? ⟨XA, 1, none⟩ = some (.int .i64 gv.job) ∧ (w').cell? ⟨XA, 2, none⟩ = some (.int .i64 gv.due) ∧ (w').cell? ⟨XA, 3, none⟩ = some (.int .i64 gv.att) ∧ (w').cell? ⟨XA, 4, none⟩ = some (.int .i64 gv.start) ∧ (w').cell? ⟨XC, 0, none⟩ = some (.int .i64 gv.id) ∧ (w').cell? ⟨XC, 1, none⟩ = some (.int .i64 gv.job) ∧ (w').cell? ⟨XC, 2, none⟩ = some (.int .i64 gv.due) ∧ (w').cell? ⟨XC, 3, none⟩ = some (.int .i64 gv.att) ∧ (w').cell? ⟨XC, 4, none⟩ = some (.int .i64 gv.start) ∧ (w').cell? ⟨X6, 1, none⟩ = some (.int .i64 a1)) (first | go_keep | exact kk2 | exact kk1 | exact KD)
          (first
            | (go_at_call 18; refine (count_u p D o a1 w6.drew HD0.out.t).mono ?_; rintro e w7 ⟨rfl, hf⟩; have HD1 := Lib.hid (HD0.out.fr0 hf); have HB1 := Lib.hid (HB0.out.fr0' hf); have HA1 := Lib.hid (HA0.out.fr0' hf); have HC1 := Lib.hid (HC0.out.fr0' hf); have kk1 : (w7).cell? ⟨XA, 0, none⟩ = some (.int .i64 gv.id) ∧ (w7).cell? ⟨XA, 1, none⟩ = some (.int .i64 gv.job) ∧ (w7).cell? ⟨XA, 2, none⟩ = some (.int .i64 gv.due) ∧ (w7).cell? ⟨XA, 3, none⟩ = some (.int .i64 gv.att) ∧ (w7).cell? ⟨XA, 4, none⟩ = some (.int .i64 gv.start) ∧ (w7).cell? ⟨XC, 0, none⟩ = some (.int .i64 gv.id) ∧ (w7).cell? ⟨XC, 1, none⟩ = some (.int .i64 gv.job) ∧ (w7).cell? ⟨XC, 2, none⟩ = some (.int .i64 gv.due) ∧ (w7).cell? ⟨XC, 3, none⟩ = some (.int .i64 gv.att) ∧ (w7).cell? ⟨XC, 4, none⟩ = some (.int .i64 gv.start) ∧ (w7).cell? ⟨X6, 1, none⟩ = some (.int .i64 a1) := ⟨HA1.out.cell 0, HA1.out.cell 1, HA1.out.cell 2, HA1.out.cell 3, HA1.out.cell 4, HC1.out.cell 0, HC1.out.cell 1, HC1.out.cell 2, HC1.out.cell 3, HC1.out.cell 4, HB1.out.cell 1⟩; clear hf)
            | (go_at_call 32; refine (rcount_u p' D' o a1 w6.drew HD0.out.r).mono ?_; rintro e _ ⟨rfl, rfl⟩)
            | (go_at_call 32; refine (rcount_u p' D' o a1 w7 HD1.out.r).mono ?_; rintro e _ ⟨rfl, rfl⟩)
            | (go_at_call 12; refine (works_any w7).mono ?_; rintro e w8 ⟨rfl, hf⟩; have HD2 := Lib.hid (HD1.out.fr0 hf); have HB2 := Lib.hid (HB1.out.fr0' hf); have HA2 := Lib.hid (HA1.out.fr0' hf); have HC2 := Lib.hid (HC1.out.fr0' hf); have kk2 : (w8).cell? ⟨XA, 0, none⟩ = some (.int .i64 gv.id) ∧ (w8).cell? ⟨XA, 1, none⟩ = some (.int .i64 gv.job) ∧ (w8).cell? ⟨XA, 2, none⟩ = some (.int .i64 gv.due) ∧ (w8).cell? ⟨XA, 3, none⟩ = some (.int .i64 gv.att) ∧ (w8).cell? ⟨XA, 4, none⟩ = some (.int .i64 gv.start) ∧ (w8).cell? ⟨XC, 0, none⟩ = some (.int .i64 gv.id) ∧ (w8).cell? ⟨XC, 1, none⟩ = some (.int .i64 gv.job) ∧ (w8).cell? ⟨XC, 2, none⟩ = some (.int .i64 gv.due) ∧ (w8).cell? ⟨XC, 3, none⟩ = some (.int .i64 gv.att) ∧ (w8).cell? ⟨XC, 4, none⟩ = some (.int .i64 gv.start) ∧ (w8).cell? ⟨X6, 1, none⟩ = some (.int .i64 a1) := ⟨HA2.out.cell 0, HA2.out.cell 1, HA2.out.cell 2, HA2.out.cell 3, HA2.out.cell 4, HC2.out.cell 0, HC2.out.cell 1, HC2.out.cell 2, HC2.out.cell 3, HC2.out.cell 4, HB2.out.cell 1⟩; clear hf))
        all_goals
          go_wp2
          go_ret
          exact ⟨rfl, HFB.out.then0 HD2.out.fr⟩
end Go.Proofs.Ytopcjakgfaobcaa
