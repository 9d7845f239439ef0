/- The document's list: Copy. -/
import Derived.Test.YtgkpmckbdagkcaaRv
namespace Go.Proofs.Ytgkpmckbdagkcaa
open Go.RowKit Go.Wk

theorem own_ge' {w : World} {base n c : Nat} {A : Option Addr} {e : TypeId} {xs : List Value} (h : w.ownsRow base e 1 (.slice A n c) n xs) {b : Nat} (hb : (Value.slice A n c).ownBlock = some b) : base ≤ b := by
  cases A with
  | none => cases hb
  | some ad => injection hb with hb; rw [← hb]; exact ((own_formA h).2 _ rfl).1
theorem own_lay {w X : World} {g : Nat} {t : TypeId} (hb : w.heap.size ≤ g) (h : Blk X g t #[]) : X.ownsRow w.heap.size t 1 (.slice (some ⟨g, 0, none⟩) 0 0) 0 [] := ⟨rfl, .inr ⟨g, 0, #[], rfl, hb, h, Nat.le_refl _, Nat.zero_le _, rfl, rfl⟩⟩
set_option maxRecDepth 100000 in
set_option maxHeartbeats 8000000 in
theorem rCopy_any (p : Nat) (D : Nat → Prop) (v : VW) (w : World) (h : RefAt w p D v) (hm : v.length ≤ 100000) : Calls Try.prog 26 #[.pointer (some ⟨p, 0, none⟩)] w fun e w' => NewRef w v e w' := by
  obtain ⟨i0, hi, hz0, hz1, hz2⟩ : ∃ i, Try.prog.info? 3 = some i ∧ i.zero = some (.int .i64 0) ∧ i.size = 1 ∧ i.bytes = 8 := ⟨_, rfl, rfl, rfl, rfl⟩
  obtain ⟨i1, hj, hy0, hy1, hy2⟩ : ∃ i, Try.prog.info? 2 = some i ∧ i.zero = some (.int .i64 0) ∧ i.size = 1 ∧ i.bytes = 8 := ⟨_, rfl, rfl, rfl, rfl⟩
  have HV := Lib.hid (rvalid_any p D v w h)
  obtain ⟨A, A', n, c, c', h, rfl⟩ := h
  have hmn : n ≤ 100000 := by rw [← h.ln]; exact hm
  have hpw := h.blk.lt
  obtain ⟨c0, c1, c2⟩ := h.cells
  have HH := Lib.hid h
  have HB0 := Lib.hid (show 0 + n ≤ maxLen by unfold maxLen; omega)
  have HB1 := Lib.hid (show (0 + n) * 8 ≤ 140737488355328 by omega)
  obtain ⟨Aa, hAa⟩ : ∃ o, o = Obj.cells #[] 3 := ⟨_, rfl⟩
  obtain ⟨Ab, hAb⟩ : ∃ o, o = Obj.cells #[] 2 := ⟨_, rfl⟩
  have FA := Lib.hid ((Fr.refl No w).alloc Aa)
  have FAB := Lib.hid (((Fr.refl No w).alloc Aa).alloc Ab)
  have FBA := Lib.hid (((Fr.refl No w).alloc Ab).alloc Aa)
  have FA2 := Lib.hid ((Fr.refl No (w.alloc Aa)).alloc Ab)
  have FB2 := Lib.hid ((Fr.refl No (w.alloc Ab)).alloc Aa)
  have B1 := Lib.hid (show Blk (w.alloc Aa) w.heap.size 3 #[] by rw [hAa]; exact Blk.new _ _ _)
  have B2 := Lib.hid (show Blk ((w.alloc Aa).alloc Ab) (w.heap.size + 1) 2 #[] by rw [hAb]; have := Blk.new (w.alloc Aa) 2 #[]; rw [World.size_alloc] at this; exact this)
  have B3 := Lib.hid (show Blk (w.alloc Ab) w.heap.size 2 #[] by rw [hAb]; exact Blk.new _ _ _)
  have B4 := Lib.hid (show Blk ((w.alloc Ab).alloc Aa) (w.heap.size + 1) 3 #[] by rw [hAa]; have := Blk.new (w.alloc Ab) 3 #[]; rw [World.size_alloc] at this; exact this)
  have O1 := Lib.hid (show ((w.alloc Aa).drew).ownsRow w.heap.size 3 1 (.slice (some ⟨w.heap.size, 0, none⟩) 0 0) 0 [] from own_lay (Nat.le_refl _) B1.out)
  have O2 := Lib.hid (show (((w.alloc Aa).alloc Ab).drew).ownsRow w.heap.size 3 1 (.slice (some ⟨w.heap.size, 0, none⟩) 0 0) 0 [] from own_lay (Nat.le_refl _) ((B1.out.fr FA2.out (fun (x : No _) => x)).drew))
  have O3 := Lib.hid (show (((w.alloc Ab).alloc Aa).drew).ownsRow w.heap.size 3 1 (.slice (some ⟨w.heap.size + 1, 0, none⟩) 0 0) 0 [] from own_lay (Nat.le_succ _) B4.out)
  have P2 := Lib.hid (show (((w.alloc Aa).alloc Ab).drew).ownsRow w.heap.size 2 1 (.slice (some ⟨w.heap.size + 1, 0, none⟩) 0 0) 0 [] from own_lay (Nat.le_succ _) B2.out)
  have P3 := Lib.hid (show (((w.alloc Ab).alloc Aa).drew).ownsRow w.heap.size 2 1 (.slice (some ⟨w.heap.size, 0, none⟩) 0 0) 0 [] from own_lay (Nat.le_refl _) ((B3.out.fr FB2.out (fun (x : No _) => x)).drew))
  have R1 := Lib.hid ((h.rl.alloc (Nat.le_refl _) Aa).drew)
  have R2 := Lib.hid (((h.rl.alloc (Nat.le_refl _) Aa).alloc FA.out.size Ab).drew)
  have R3 := Lib.hid (((h.rl.alloc (Nat.le_refl _) Ab).alloc (by rw [World.size_alloc]; omega) Aa).drew)
  have HAb := Lib.hid hAb
  rw [hAa] at *
  rw [hAb] at *
  clear h hm hAa hAb
  go_enter Try.func26, Try.ntmps26
  go_wp2_with (go_at_call 39; refine HV.out.mono ?_; rintro e w1 ⟨rfl, rfl⟩)
  clear HV
  go_region_law (first
    | (refine step_append_any _ rfl (.tmp 6) (.tmp 10) 30 rfl w.heap.size 3 i0 (.int .i64 0) 1 8 Try.underlying30 hi hz0 hz1 hz2 rfl (by omega) (.slice (some ⟨w.heap.size, 0, none⟩) 0 0) 0 [] rfl O1.out w.heap.size A n c (Wk.cells .i64 (fsts v)) rfl R1.out (ints_one _) HB0.out HB1.out FA.out.size ?_; intro v2 w2 ho2 hg2 hl2
       rw [Nat.zero_add, List.nil_append] at ho2
       have G2 := Fr.of_grown (S := (· = w.heap.size)) hg2 (fun k hk => by simpa [Value.ownBlock] using hk.symm)
       have F2 : Fr No w w2 := FA.out.drew.own G2 (by omega)
       obtain ⟨A2, q2, rfl⟩ := own_form' ho2
       have HW := Lib.hid ((Fr.refl No w2).alloc (.cells #[] 2))
       have PB := Lib.hid (own_base (own_lay (t := 2) (Nat.le_refl w2.heap.size) (Blk.new w2 2 #[])) F2.size)
       have FB := Lib.hid (F2.then0 HW.out)
       have H2B := Lib.hid (own_fr ho2 HW.out (fun _ _ (x : No _) => x))
       have RB := Lib.hid ((HH.out.rd.fr0 F2).alloc (Nat.le_refl _) (.cells #[] 2))
       have HSZ := Lib.hid FB.out.size
       have d2 := (HH.out.fr0 F2).cells.2.2
       have hpw2 := Nat.lt_of_lt_of_le hpw F2.size
       clear ho2 hg2 hl2 G2 F2)
    | (refine step_append_any _ rfl (.tmp 6) (.tmp 10) 30 rfl w.heap.size 3 i0 (.int .i64 0) 1 8 Try.underlying30 hi hz0 hz1 hz2 rfl (by omega) (.slice (some ⟨w.heap.size, 0, none⟩) 0 0) 0 [] rfl O2.out w.heap.size A n c (Wk.cells .i64 (fsts v)) rfl R2.out (ints_one _) HB0.out HB1.out FAB.out.size ?_; intro v2 w2 ho2 hg2 hl2
       rw [Nat.zero_add, List.nil_append] at ho2
       have G2 := Fr.of_grown (S := (· = w.heap.size)) hg2 (fun k hk => by simpa [Value.ownBlock] using hk.symm)
       have F2 : Fr No w w2 := FAB.out.drew.own G2 (by omega)
       obtain ⟨A2, q2, rfl⟩ := own_form' ho2
       have PB := Lib.hid (own_fr P2.out G2 (fun b hb h => by
         have e : w.heap.size + 1 = b := by simpa [Value.ownBlock] using hb
         omega))
       have FB := Lib.hid F2
       have H2B := Lib.hid ho2
       have RB := Lib.hid (HH.out.rd.fr0 F2)
       have HSZ := Lib.hid FB.out.size
       have d2 := (HH.out.fr0 F2).cells.2.2
       have hpw2 := Nat.lt_of_lt_of_le hpw F2.size
       clear ho2 hg2 hl2 G2 F2)
    | (refine step_append_any _ rfl (.tmp 6) (.tmp 10) 30 rfl w.heap.size 3 i0 (.int .i64 0) 1 8 Try.underlying30 hi hz0 hz1 hz2 rfl (by omega) (.slice (some ⟨w.heap.size + 1, 0, none⟩) 0 0) 0 [] rfl O3.out w.heap.size A n c (Wk.cells .i64 (fsts v)) rfl R3.out (ints_one _) HB0.out HB1.out FBA.out.size ?_; intro v2 w2 ho2 hg2 hl2
       rw [Nat.zero_add, List.nil_append] at ho2
       have G2 := Fr.of_grown (S := (· = w.heap.size + 1)) hg2 (fun k hk => by simpa [Value.ownBlock] using hk.symm)
       have F2 : Fr No w w2 := FBA.out.drew.own G2 (by omega)
       obtain ⟨A2, q2, rfl⟩ := own_form' ho2
       have PB := Lib.hid (own_fr P3.out G2 (fun b hb h => by
         have e : w.heap.size = b := by simpa [Value.ownBlock] using hb
         omega))
       have FB := Lib.hid F2
       have H2B := Lib.hid ho2
       have RB := Lib.hid (HH.out.rd.fr0 F2)
       have HSZ := Lib.hid FB.out.size
       have d2 := (HH.out.fr0 F2).cells.2.2
       have hpw2 := Nat.lt_of_lt_of_le hpw F2.size
       clear ho2 hg2 hl2 G2 F2)
    | (refine step_append_any _ rfl (.tmp 12) (.tmp 16) 26 rfl w.heap.size 2 i1 (.int .i64 0) 1 8 Try.underlying26 hj hy0 hy1 hy2 rfl (by omega) _ 0 [] rfl PB.out _ A' n c' (Wk.cells .i64 (snds v)) rfl RB.out (ints_one _) HB0.out HB1.out HSZ.out ?_; intro v4 w4 ho4 hg4 hl4
       rw [Nat.zero_add, List.nil_append] at ho4
       have F4' := Fr.of_grown hg4 (fun b hb => hb)
       have F4 := Lib.hid (FB.out.ownS F4' (fun b hb => own_ge' PB.out hb))
       have H24 := Lib.hid (own_fr H2B.out F4' (fun b hb hb' => own_own_ne H2B.out PB.out (by decide) b hb hb'))
       have H44 := Lib.hid ho4
       obtain ⟨A4, q4, rfl⟩ := own_form' ho4
       clear ho4 hg4 hl4 F4'))
  all_goals
    have HFIN := Lib.hid (show NewRef w v (.returned (.pointer (some ⟨w4.heap.size, 0, none⟩))) (w4.alloc (.cells #[.bool true, .slice A2 n q2, .slice A4 n q4] 66)) from
      ⟨_, _, rfl, ⟨A2, A4, n, q2, q4, RefV.of_own (Blk.new _ _ _) (own_fr H24.out ((Fr.refl No w4).alloc _) (fun _ _ x => x)) (own_fr H44.out ((Fr.refl No w4).alloc _) (fun _ _ x => x)), rfl⟩, fun k hk => (rdom_own H24.out H44.out hk).elim (fun h => by rw [h]; exact F4.out.size) id, F4.out.alloc _⟩)
    clear H24 H44 F4 PB FB H2B RB HSZ d2
    go_wp2
    go_ret
    exact HFIN.out
end Go.Proofs.Ytgkpmckbdagkcaa
