/- LatePlays: the walk (printed by tools/late_plgen.py). -/
import Derived.Test.YtgkpmckbdagkcaaRd
import Derived.Test.YtgkpmckbdagkcaaRe
namespace Go.Proofs.Ytgkpmckbdagkcaa
open Go.RowKit Go.Wk

/-- The list and the document's list, side by side. -/
structure Play (w wr : World) (b : Nat) (D : Nat → Prop) (s : LS) (p : Nat) (E : Nat → Prop) (v : VW) : Prop where
  x : Mine w wr b D s
  r : RefAt wr p E v
  hE : ∀ k, E k → w.heap.size ≤ k
  ap : ∀ k, D k → ¬ E k
/-- The same, and the step's own variable. -/
structure PlayX (w wr : World) (b : Nat) (D : Nat → Prop) (s : LS) (p : Nat) (E : Nat → Prop) (v : VW) (x0 : Nat) (d i a : Int) : Prop where
  pl : Play w wr b D s p E v
  st : Blk wr x0 39 #[.int .i64 d, .int .i64 i, .int .i64 a]
  nd : ¬ D x0
  ne : ¬ E x0
section
variable {w w1 w2 : World} {b p x0 : Nat} {D E : Nat → Prop} {s s1 : LS} {v v1 : VW} {d i a : Int}
theorem Play.fr0 (h : Play w w1 b D s p E v) (hf : Fr No w1 w2) : Play w w2 b D s p E v := ⟨h.x.fr0 hf, h.r.fr0 hf, h.hE, h.ap⟩
theorem PlayX.fr0 (h : PlayX w w1 b D s p E v x0 d i a) (hf : Fr No w1 w2) : PlayX w w2 b D s p E v x0 d i a := ⟨h.pl.fr0 hf, h.st.fr hf (fun x => x), h.nd, h.ne⟩
theorem PlayX.late (h : PlayX w w1 b D s p E v x0 d i a) (ht : TurnedAt w1 b D s1 w2) : ∃ D', PlayX w w2 b D' s1 p E v x0 d i a := by
  obtain ⟨D', hl, hf, hd⟩ := ht
  refine ⟨D', ⟨⟨hl, h.pl.x.fr.ownS hf h.pl.x.hD, fun k hk => (hd k hk).elim (h.pl.x.hD k) (fun h' => Nat.le_trans h.pl.x.fr.size h')⟩, h.pl.r.fr hf (fun k h1 h2 => h.pl.ap k h2 h1), h.pl.hE, fun k h1 h2 => ?_⟩, h.st.fr hf h.nd, fun h1 => ?_, h.ne⟩
  · rcases hd k h1 with h3 | h3
    · exact h.pl.ap k h3 h2
    · have := h.pl.r.lt h2; omega
  · rcases hd x0 h1 with h3 | h3
    · exact h.nd h3
    · have := h.st.lt; omega
theorem PlayX.past (h : PlayX w w1 b D s p E v x0 d i a) (hl : LateAt w2 b D s1) (hf : Fr D w1 w2) : PlayX w w2 b D s1 p E v x0 d i a :=
  ⟨⟨h.pl.x.past hl hf, h.pl.r.fr hf (fun k h1 h2 => h.pl.ap k h2 h1), h.pl.hE, h.pl.ap⟩, h.st.fr hf h.nd, h.nd, h.ne⟩
theorem PlayX.ref (h : PlayX w w1 b D s p E v x0 d i a) (ht : RTurned w1 p E v1 w2) : ∃ E', PlayX w w2 b D s p E' v1 x0 d i a := by
  obtain ⟨E', hl, hf, hd⟩ := ht
  refine ⟨E', ⟨h.pl.x.beside hf h.pl.hE h.pl.ap, hl, fun k hk => (hd k hk).elim (h.pl.hE k) (fun h' => Nat.le_trans h.pl.x.fr.size h'), fun k h1 h2 => ?_⟩, h.st.fr hf h.ne, h.nd, fun h1 => ?_⟩
  · rcases hd k h2 with h3 | h3
    · exact h.pl.ap k h1 h3
    · have := h.pl.x.at_.lt h1; omega
  · rcases hd x0 h1 with h3 | h3
    · exact h.ne h3
    · have := h.st.lt; omega
theorem RefAt.self {w : World} {p : Nat} {D : Nat → Prop} {v : VW} (h : RefAt w p D v) : D p := by obtain ⟨A, A', n, c, c', _, rfl⟩ := h; exact .inl rfl
theorem PlayX.rpast (h : PlayX w w1 b D s p E v x0 d i a) (hl : RefAt w2 p E v1) (hf : Fr (· = p) w1 w2) : PlayX w w2 b D s p E v1 x0 d i a := by
  have hf' : Fr E w1 w2 := hf.mono (fun k hk => by rw [hk]; exact h.pl.r.self)
  exact ⟨⟨h.pl.x.beside hf' h.pl.hE h.pl.ap, hl, h.pl.hE, h.pl.ap⟩, h.st.fr hf' h.ne, h.nd, h.ne⟩
theorem PlayX.copy {b' : Nat} {D' : Nat → Prop} (h : PlayX w w1 b D s p E v x0 d i a) (hl : LateAt w2 b' D' s1) (hD : ∀ k, D' k → w1.heap.size ≤ k) (hf : Fr No w1 w2) : PlayX w w2 b' D' s1 p E v x0 d i a := by
  have h2 := h.fr0 hf
  exact ⟨⟨⟨hl, h2.pl.x.fr, fun k hk => Nat.le_trans h.pl.x.fr.size (hD k hk)⟩, h2.pl.r, h.pl.hE, fun k h1 h3 => by have := h.pl.r.lt h3; have := hD k h1; omega⟩, h2.st, fun h1 => by have := hD _ h1; have := h.st.lt; omega, h.ne⟩
theorem PlayX.rcopy {p' : Nat} {E' : Nat → Prop} (h : PlayX w w1 b D s p E v x0 d i a) (hl : RefAt w2 p' E' v1) (hD : ∀ k, E' k → w1.heap.size ≤ k) (hf : Fr No w1 w2) : PlayX w w2 b D s p' E' v1 x0 d i a := by
  have h2 := h.fr0 hf
  exact ⟨⟨h2.pl.x, hl, fun k hk => Nat.le_trans h.pl.x.fr.size (hD k hk), fun k h1 h3 => by have := h.pl.x.at_.lt h1; have := hD k h3; omega⟩, h2.st, h.nd, fun h1 => by have := hD _ h1; have := h.st.lt; omega⟩
theorem PlayX.cells (h : PlayX w w1 b D s p E v x0 d i a) : w1.cell? ⟨x0, 0, none⟩ = some (.int .i64 d) ∧ w1.cell? ⟨x0, 1, none⟩ = some (.int .i64 i) ∧ w1.cell? ⟨x0, 2, none⟩ = some (.int .i64 a) := ⟨h.st.cell 0, h.st.cell 1, h.st.cell 2⟩
end
theorem own_keep {w w' : World} {base n : Nat} {p : Nat} {v : Value} {e : TypeId} {xs : List Value} (h : w.ownsRow base e 1 v n xs) (hf : Fr (· = p) w w') (hS : ∀ b, v.ownBlock = some b → ¬ b = p) : w'.ownsRow base e 1 v n xs := own_fr h hf hS
set_option maxRecDepth 100000 in
set_option maxHeartbeats 8000000 in
theorem latePlays_walk (A : Option Addr) (n c : Nat) (es : List (List Int)) (y : Int) (w : World) (h : RowF kStp 24 w A n c es) (hn : n ≤ 9223372036854775807) (hy : fits y) :
    Calls Try.prog 4 #[.slice A n c, .int .i64 y] w fun e w' => e = .returned (.bool true) ∧ Fr No w w' := by
  have HR := Lib.hid h
  clear h
  by_cases b1 : 80 < n
  · go_enter Try.func4, Try.ntmps4
    go_wp2_with fail
    refine (works_any _).mono ?_
    rintro x w1 ⟨rfl, hf⟩
    go_wp2
    go_ret
    exact ⟨rfl, hf⟩
  have hn80 : n ≤ 80 := by omega
  go_enter Try.func4, Try.ntmps4
  go_wp2_with fail
  refine (New_any _).mono ?_
  rintro x w1 ⟨b, D, rfl, hl, hD, hf⟩
  have O1 := Lib.hid (show Mine w w1 b D .new from ⟨hl, hf, hD⟩)
  clear hl hD hf
  go_wp2_with fail
  refine (rNew_any _).mono ?_
  rintro x w2 ⟨p, E, rfl, hl, hE, hf⟩
  have PL := Lib.hid (show Play w w2 b D .new p E (vw LS.new.l) from ⟨O1.out.fr0 hf, hl, fun k hk => Nat.le_trans O1.out.fr.size (hE k hk), fun k h1 h2 => by have := O1.out.at_.lt h1; have := hE k h2; omega⟩)
  clear O1 hl hE hf
  go_wp2
  go_loopw [5, 6, 7] (fun l r i wr => ∃ (k b p : Nat) (D E : Nat → Prop) (s : LS), i = .int .i64 k ∧ k ≤ n ∧ l = .pointer (some ⟨b, 0, none⟩) ∧ r = .pointer (some ⟨p, 0, none⟩) ∧ s.seq ≤ k ∧ Hid (Play w wr b D s p E (vw s.l))) (fun _ _ i _ => n - (intOf i).toNat)
  case atStart => exact ⟨0, b, p, D, E, .new, rfl, Nat.zero_le _, rfl, rfl, Int.le_refl _, PL⟩
  case round =>
    clear PL
    obtain ⟨k, b, p, D, E, s, rfl, hk, rfl, rfl, hq, PL⟩ := hrel
    by_cases hlt : k < n
    · obtain ⟨xb, xo, x, hx, rfl, hxb, hfi, hfa, h0, h1, h2⟩ := three HR.out hlt
      have hxw := Nat.lt_of_lt_of_le hxb PL.out.x.fr.size
      have c0 := (PL.out.x.fr.cell (p := ⟨xb, xo + k * 3, none⟩) hxb (fun x => x)).trans h0
      have c1 := (PL.out.x.fr.cell (p := ⟨xb, xo + k * 3 + 1, none⟩) hxb (fun x => x)).trans h1
      have c2 := (PL.out.x.fr.cell (p := ⟨xb, xo + k * 3 + 2, none⟩) hxb (fun x => x)).trans h2
      clear hx h0 h1 h2
      obtain ⟨d, i, a⟩ := x
      dsimp only at c0 c1 c2 hfi hfa
      obtain ⟨w3, hw3⟩ : ∃ w3, w3 = wr.alloc (.cells #[.int .i64 d, .int .i64 i, .int .i64 a] 39) := ⟨_, rfl⟩
      obtain ⟨x0, hx0⟩ : ∃ x0, x0 = wr.heap.size := ⟨_, rfl⟩
      have PX := Lib.hid (show PlayX w w3 b D s p E (vw s.l) x0 d i a from by
        rw [hw3, hx0]
        exact ⟨PL.out.fr0 ((Fr.refl No wr).alloc _), Blk.new _ _ _, fun h => by have := PL.out.x.at_.lt h; omega, fun h => by have := PL.out.r.lt h; omega⟩)
      have HW3 := Lib.hid hw3
      have HX0 := Lib.hid hx0
      have hq1 := addS_seq s i a
      clear PL hw3 hx0
      by_cases hd0 : d = 0
      · subst hd0
        have A1 := Lib.hid (fun X D hX => Add_at b D s i a hfi (by omega) X hX)
        have A2 := Lib.hid (fun X E hX => rAdd_any p E (vw s.l) i a X hX (by rw [vw_len]; have := PX.out.pl.x.at_.n; omega))
        rw [vw_addE, ← vw_addS PX.out.pl.x.at_.ok] at A2
        generalize addS s i a = t at *
        generalize addE s i a = e1 at *
        have hee : (e1 != e1) = false := by simp
        
        go_wp2_with fail
        rw [← HW3.out, ← HX0.out]
        have T0 := Lib.hid (PX.out.fr0 ((Fr.refl No w3).drew))
        obtain ⟨c0, c1, c2⟩ := PX.out.cells
        have K0 : w3.drew.cell? ⟨x0, 0, none⟩ = some (.int .i64 0) ∧ w3.drew.cell? ⟨x0, 1, none⟩ = some (.int .i64 i) ∧ w3.drew.cell? ⟨x0, 2, none⟩ = some (.int .i64 a) := T0.out.cells
        
        go_region_held3 (fun w' => w'.cell? ⟨x0, 0, none⟩ = some (.int .i64 0) ∧ w'.cell? ⟨x0, 1, none⟩ = some (.int .i64 i) ∧ w'.cell? ⟨x0, 2, none⟩ = some (.int .i64 a)) (first | exact K2 | exact K1 | exact K0 | go_keep)
          (first
            | (go_at_call 19; refine (A2.out w5 E T1.pl.r).mono ?_; rintro e w6 ⟨rfl, ht⟩; obtain ⟨E1, T2⟩ := T1.ref ht; have K2 : w6.cell? ⟨x0, 0, none⟩ = some (.int .i64 0) ∧ w6.cell? ⟨x0, 1, none⟩ = some (.int .i64 i) ∧ w6.cell? ⟨x0, 2, none⟩ = some (.int .i64 a) := T2.cells)
            | (go_at_call 14; refine (A1.out w3.drew D T0.out.pl.x.at_).mono ?_; rintro e w5 ⟨rfl, ht⟩; obtain ⟨D1, T1⟩ := T0.out.late ht; have K1 : w5.cell? ⟨x0, 0, none⟩ = some (.int .i64 0) ∧ w5.cell? ⟨x0, 1, none⟩ = some (.int .i64 i) ∧ w5.cell? ⟨x0, 2, none⟩ = some (.int .i64 a) := T1.cells))
        have PX := Lib.hid T2
        have hn := PX.out.pl.x.at_.n
        clear T0 T1 T2 K0 K1 K2 c0 c1 c2 ht A1 A2
        
        go_wp2_with fail
        refine (Next_at b _ _ _ PX.out.pl.x.at_).mono ?_
        rintro e v1 ⟨rfl, hf⟩
        replace PX := Lib.hid (PX.out.fr0 hf)
        clear hf
        go_wp2_with fail
        refine (rNext_any p _ _ _ PX.out.pl.r).mono ?_
        rintro e _ ⟨rfl, rfl⟩
        rw [← vw_nextV, ← vw_nextB]
        generalize nextV t = nv at *
        generalize nextB t = nb at *
        obtain ⟨-, k1, -⟩ := PX.out.cells
        go_wp2_with fail
        refine (Get_at b _ _ i hfi _ PX.out.pl.x.at_).mono ?_
        rintro e v2 ⟨rfl, hf⟩
        replace PX := Lib.hid (PX.out.fr0 hf)
        clear hf k1
        obtain ⟨-, k1, -⟩ := PX.out.cells
        go_wp2_with fail
        refine (rGet_any p _ _ i _ PX.out.pl.r (by rw [vw_len]; omega)).mono ?_
        rintro e v3 ⟨rfl, hf⟩
        rw [← getV_vw, ← getB_vw]
        replace PX := Lib.hid (PX.out.fr0 hf)
        clear hf k1
        generalize getV t i = gv at *
        generalize getB t i = gb at *
        go_wp2_with fail
        refine (Len_at b _ _ _ PX.out.pl.x.at_).mono ?_
        rintro e _ ⟨rfl, rfl⟩
        go_wp2_with fail
        refine (rLen_any p _ _ _ PX.out.pl.r).mono ?_
        rintro e _ ⟨rfl, rfl⟩
        rw [vw_len]
        go_wp2_with fail
        refine (Ids_at b _ _ _ PX.out.pl.x.at_).mono ?_
        rintro e v4 ⟨G, g, rfl, ho, -, hf⟩
        replace PX := Lib.hid (PX.out.fr0 hf)
        have R := Lib.hid (Reads.of_own ho)
        clear hf ho
        go_wp2_with fail
        refine (rIds_any p _ _ _ PX.out.pl.r (by rw [vw_len]; omega)).mono ?_
        rintro e v5 ⟨G', g', rfl, ho, -, hf⟩
        replace PX := Lib.hid (PX.out.fr0 hf)
        have R1 := Lib.hid (R.out.fr0 hf)
        have R2 := Lib.hid (Reads.of_own ho)
        rw [vw_len] at R2 ⊢
        have SM := same_any G G' _ g _ g' _ _ v5 R1.out R2.out (by omega)
        rw [show fsts (vw t.l) = ids t.l from (ids_vw _).symm, decide_eq_true rfl] at SM
        have SM := Lib.hid SM
        clear hf ho R R1 R2
        go_wp2_with fail
        refine SM.out.mono ?_
        rintro e _ ⟨rfl, q, rfl⟩
        have PF := Lib.hid ((PX.out.fr0 ((Fr.refl No v5).drewN q)).pl)
        clear PX SM
        go_wp2
        go_roundw
        case rel => exact ⟨k + 1, b, p, _, _, t, by go_num, by omega, rfl, rfl, by omega, PF⟩
        case measure => simp [intOf]; omega
      by_cases hd1 : d = 1
      · subst hd1
        clear hd0
        have A1 := Lib.hid (fun X D hX => Remove_at b D s i hfi X hX)
        have A2 := Lib.hid (fun X E hX => rRemove_any p E (vw s.l) i X hX (by rw [vw_len]; have := PX.out.pl.x.at_.n; omega))
        rw [vw_remE, ← vw_remS PX.out.pl.x.at_.ok] at A2
        have hqr : (remS s i).seq = s.seq := rfl
        generalize remS s i = t at *
        generalize remE s i = e1 at *
        have hee : (e1 != e1) = false := by simp
        
        go_wp2_with fail
        rw [← HW3.out, ← HX0.out]
        have T0 := Lib.hid (PX.out.fr0 ((Fr.refl No w3).drew))
        obtain ⟨c0, c1, c2⟩ := PX.out.cells
        have K0 : w3.drew.cell? ⟨x0, 0, none⟩ = some (.int .i64 1) ∧ w3.drew.cell? ⟨x0, 1, none⟩ = some (.int .i64 i) ∧ w3.drew.cell? ⟨x0, 2, none⟩ = some (.int .i64 a) := T0.out.cells
        
        go_region_held3 (fun w' => w'.cell? ⟨x0, 0, none⟩ = some (.int .i64 1) ∧ w'.cell? ⟨x0, 1, none⟩ = some (.int .i64 i) ∧ w'.cell? ⟨x0, 2, none⟩ = some (.int .i64 a)) (first | exact K2 | exact K1 | exact K0 | go_keep)
          (first
            | (go_at_call 21; refine (A2.out w5 E T1.pl.r).mono ?_; rintro e w6 ⟨rfl, ht⟩; obtain ⟨E1, T2⟩ := T1.ref ht; have K2 : w6.cell? ⟨x0, 0, none⟩ = some (.int .i64 1) ∧ w6.cell? ⟨x0, 1, none⟩ = some (.int .i64 i) ∧ w6.cell? ⟨x0, 2, none⟩ = some (.int .i64 a) := T2.cells)
            | (go_at_call 20; refine (A1.out w3.drew D T0.out.pl.x.at_).mono ?_; rintro e w5 ⟨rfl, ht⟩; obtain ⟨D1, T1⟩ := T0.out.late ht; have K1 : w5.cell? ⟨x0, 0, none⟩ = some (.int .i64 1) ∧ w5.cell? ⟨x0, 1, none⟩ = some (.int .i64 i) ∧ w5.cell? ⟨x0, 2, none⟩ = some (.int .i64 a) := T1.cells))
        have PX := Lib.hid T2
        have hn := PX.out.pl.x.at_.n
        clear T0 T1 T2 K0 K1 K2 c0 c1 c2 ht A1 A2
        
        go_wp2_with fail
        refine (Next_at b _ _ _ PX.out.pl.x.at_).mono ?_
        rintro e v1 ⟨rfl, hf⟩
        replace PX := Lib.hid (PX.out.fr0 hf)
        clear hf
        go_wp2_with fail
        refine (rNext_any p _ _ _ PX.out.pl.r).mono ?_
        rintro e _ ⟨rfl, rfl⟩
        rw [← vw_nextV, ← vw_nextB]
        generalize nextV t = nv at *
        generalize nextB t = nb at *
        obtain ⟨-, k1, -⟩ := PX.out.cells
        go_wp2_with fail
        refine (Get_at b _ _ i hfi _ PX.out.pl.x.at_).mono ?_
        rintro e v2 ⟨rfl, hf⟩
        replace PX := Lib.hid (PX.out.fr0 hf)
        clear hf k1
        obtain ⟨-, k1, -⟩ := PX.out.cells
        go_wp2_with fail
        refine (rGet_any p _ _ i _ PX.out.pl.r (by rw [vw_len]; omega)).mono ?_
        rintro e v3 ⟨rfl, hf⟩
        rw [← getV_vw, ← getB_vw]
        replace PX := Lib.hid (PX.out.fr0 hf)
        clear hf k1
        generalize getV t i = gv at *
        generalize getB t i = gb at *
        go_wp2_with fail
        refine (Len_at b _ _ _ PX.out.pl.x.at_).mono ?_
        rintro e _ ⟨rfl, rfl⟩
        go_wp2_with fail
        refine (rLen_any p _ _ _ PX.out.pl.r).mono ?_
        rintro e _ ⟨rfl, rfl⟩
        rw [vw_len]
        go_wp2_with fail
        refine (Ids_at b _ _ _ PX.out.pl.x.at_).mono ?_
        rintro e v4 ⟨G, g, rfl, ho, -, hf⟩
        replace PX := Lib.hid (PX.out.fr0 hf)
        have R := Lib.hid (Reads.of_own ho)
        clear hf ho
        go_wp2_with fail
        refine (rIds_any p _ _ _ PX.out.pl.r (by rw [vw_len]; omega)).mono ?_
        rintro e v5 ⟨G', g', rfl, ho, -, hf⟩
        replace PX := Lib.hid (PX.out.fr0 hf)
        have R1 := Lib.hid (R.out.fr0 hf)
        have R2 := Lib.hid (Reads.of_own ho)
        rw [vw_len] at R2 ⊢
        have SM := same_any G G' _ g _ g' _ _ v5 R1.out R2.out (by omega)
        rw [show fsts (vw t.l) = ids t.l from (ids_vw _).symm, decide_eq_true rfl] at SM
        have SM := Lib.hid SM
        clear hf ho R R1 R2
        go_wp2_with fail
        refine SM.out.mono ?_
        rintro e _ ⟨rfl, q, rfl⟩
        have PF := Lib.hid ((PX.out.fr0 ((Fr.refl No v5).drewN q)).pl)
        clear PX SM
        go_wp2
        go_roundw
        case rel => exact ⟨k + 1, b, p, _, _, t, by go_num, by omega, rfl, rfl, by omega, PF⟩
        case measure => simp [intOf]; omega
      by_cases hd2 : d = 2
      · subst hd2
        clear hd0 hd1
        have hn0 := PX.out.pl.x.at_.n
        have A1 := Lib.hid (fun X D hX => Past_at b D s a X hX)
        have A2 := Lib.hid (fun X E hX => rPast_any p E (vw s.l) a X hX (by rw [vw_len]; omega))
        have hpl : pastN s a ≤ 10000 := by have := pastN_le s a; omega
        unfold PastAt at A1
        unfold RPast at A2
        rw [← idx_rp PX.out.pl.x.at_.ok] at A2
        have hv := rvw_pastS PX.out.pl.x.at_.ok a
        have hg := rvw_pastG PX.out.pl.x.at_.ok a
        rw [← idx_rp PX.out.pl.x.at_.ok] at hv hg
        rw [← hv, ← hg] at A2
        clear hv hg
        have hqr : (pastS s a).seq = s.seq := rfl
        generalize pastS s a = t at *
        generalize pastG s a = pg at *
        generalize pastN s a = pn at *
        
        go_wp2_with fail
        rw [← HW3.out, ← HX0.out]
        have T0 := Lib.hid (PX.out.fr0 ((Fr.refl No w3).drew))
        obtain ⟨c0, c1, c2⟩ := PX.out.cells
        have K0 : w3.drew.cell? ⟨x0, 0, none⟩ = some (.int .i64 2) ∧ w3.drew.cell? ⟨x0, 1, none⟩ = some (.int .i64 i) ∧ w3.drew.cell? ⟨x0, 2, none⟩ = some (.int .i64 a) := T0.out.cells
        
        go_region_held3 (fun w' => w'.cell? ⟨x0, 0, none⟩ = some (.int .i64 2) ∧ w'.cell? ⟨x0, 1, none⟩ = some (.int .i64 i) ∧ w'.cell? ⟨x0, 2, none⟩ = some (.int .i64 a)) (first | exact K3 | exact K2 | exact K1 | exact K0 | go_keep)
          (first
            | (go_at_call 22; refine SM.mono ?_; rintro e w9 ⟨rfl, q, rfl⟩; have T3 := T2.fr0 ((Fr.refl No w6).drewN q); have K3 : (w6.drewN q).cell? ⟨x0, 0, none⟩ = some (.int .i64 2) ∧ (w6.drewN q).cell? ⟨x0, 1, none⟩ = some (.int .i64 i) ∧ (w6.drewN q).cell? ⟨x0, 2, none⟩ = some (.int .i64 a) := T3.cells)
            | (go_at_call 24; refine (A2.out w5 E T1.pl.r).mono ?_; rintro e w6 ⟨G2, g2, rfl, ho2, hl2, hf2⟩; have R1' := (own_keep ho1 hf2 (fun b hb h => by have := own_ge ho1 hb; have := T0.out.pl.r.lt T0.out.pl.r.self; omega)); have SM := same_any G1 G2 pn g1 pn g2 pg pg w6 (Reads.of_own R1') (Reads.of_own ho2) (by omega); have T2 := T1.rpast hl2 hf2; have K2 : w6.cell? ⟨x0, 0, none⟩ = some (.int .i64 2) ∧ w6.cell? ⟨x0, 1, none⟩ = some (.int .i64 i) ∧ w6.cell? ⟨x0, 2, none⟩ = some (.int .i64 a) := T2.cells)
            | (go_at_call 23; refine (A1.out w3.drew D T0.out.pl.x.at_).mono ?_; rintro e w5 ⟨G1, g1, rfl, ho1, -, hl1, hf1⟩; have T1 := T0.out.past hl1 hf1; have K1 : w5.cell? ⟨x0, 0, none⟩ = some (.int .i64 2) ∧ w5.cell? ⟨x0, 1, none⟩ = some (.int .i64 i) ∧ w5.cell? ⟨x0, 2, none⟩ = some (.int .i64 a) := T1.cells))
        have PX := Lib.hid T3
        have hn := PX.out.pl.x.at_.n
        clear T0 T1 T2 T3 K0 K1 K2 K3 c0 c1 c2 A1 A2
        
        go_wp2_with fail
        refine (Next_at b _ _ _ PX.out.pl.x.at_).mono ?_
        rintro e v1 ⟨rfl, hf⟩
        replace PX := Lib.hid (PX.out.fr0 hf)
        clear hf
        go_wp2_with fail
        refine (rNext_any p _ _ _ PX.out.pl.r).mono ?_
        rintro e _ ⟨rfl, rfl⟩
        rw [← vw_nextV, ← vw_nextB]
        generalize nextV t = nv at *
        generalize nextB t = nb at *
        obtain ⟨-, k1, -⟩ := PX.out.cells
        go_wp2_with fail
        refine (Get_at b _ _ i hfi _ PX.out.pl.x.at_).mono ?_
        rintro e v2 ⟨rfl, hf⟩
        replace PX := Lib.hid (PX.out.fr0 hf)
        clear hf k1
        obtain ⟨-, k1, -⟩ := PX.out.cells
        go_wp2_with fail
        refine (rGet_any p _ _ i _ PX.out.pl.r (by rw [vw_len]; omega)).mono ?_
        rintro e v3 ⟨rfl, hf⟩
        rw [← getV_vw, ← getB_vw]
        replace PX := Lib.hid (PX.out.fr0 hf)
        clear hf k1
        generalize getV t i = gv at *
        generalize getB t i = gb at *
        go_wp2_with fail
        refine (Len_at b _ _ _ PX.out.pl.x.at_).mono ?_
        rintro e _ ⟨rfl, rfl⟩
        go_wp2_with fail
        refine (rLen_any p _ _ _ PX.out.pl.r).mono ?_
        rintro e _ ⟨rfl, rfl⟩
        rw [vw_len]
        go_wp2_with fail
        refine (Ids_at b _ _ _ PX.out.pl.x.at_).mono ?_
        rintro e v4 ⟨G, g, rfl, ho, -, hf⟩
        replace PX := Lib.hid (PX.out.fr0 hf)
        have R := Lib.hid (Reads.of_own ho)
        clear hf ho
        go_wp2_with fail
        refine (rIds_any p _ _ _ PX.out.pl.r (by rw [vw_len]; omega)).mono ?_
        rintro e v5 ⟨G', g', rfl, ho, -, hf⟩
        replace PX := Lib.hid (PX.out.fr0 hf)
        have R1 := Lib.hid (R.out.fr0 hf)
        have R2 := Lib.hid (Reads.of_own ho)
        rw [vw_len] at R2 ⊢
        have SM := same_any G G' _ g _ g' _ _ v5 R1.out R2.out (by omega)
        rw [show fsts (vw t.l) = ids t.l from (ids_vw _).symm, decide_eq_true rfl] at SM
        have SM := Lib.hid SM
        clear hf ho R R1 R2
        go_wp2_with fail
        refine SM.out.mono ?_
        rintro e _ ⟨rfl, q, rfl⟩
        have PF := Lib.hid ((PX.out.fr0 ((Fr.refl No v5).drewN q)).pl)
        clear PX SM
        go_wp2
        go_roundw
        case rel => exact ⟨k + 1, b, p, _, _, t, by go_num, by omega, rfl, rfl, by omega, PF⟩
        case measure => simp [intOf]; omega
      by_cases hd3 : d = 3
      · subst hd3
        clear hd0 hd1 hd2
        obtain ⟨c0, c1, c2⟩ := PX.out.cells
        rw [HW3.out, HX0.out] at c0 c1 c2
        go_wp2_with fail
        rw [← HW3.out, ← HX0.out]
        refine (Copy_at b D s _ PX.out.pl.x.at_).mono ?_
        rintro e w4 ⟨b', D', rfl, hl, hD, hf⟩
        replace PX := Lib.hid (PX.out.copy hl hD hf)
        clear c0 c1 c2 hl hD hf
        obtain ⟨c0, c1, c2⟩ := PX.out.cells
        go_wp2_with fail
        refine (rCopy_any p E _ _ PX.out.pl.r (by rw [vw_len]; have := PX.out.pl.x.at_.n; omega)).mono ?_
        rintro e w5 ⟨p', E', rfl, hl, hE, hf⟩
        replace PX := Lib.hid (PX.out.rcopy hl hE hf)
        have hn := PX.out.pl.x.at_.n
        clear c0 c1 c2 hl hE hf
        
        go_wp2_with fail
        refine (Next_at b' _ _ _ PX.out.pl.x.at_).mono ?_
        rintro e v1 ⟨rfl, hf⟩
        replace PX := Lib.hid (PX.out.fr0 hf)
        clear hf
        go_wp2_with fail
        refine (rNext_any p' _ _ _ PX.out.pl.r).mono ?_
        rintro e _ ⟨rfl, rfl⟩
        rw [← vw_nextV, ← vw_nextB]
        generalize nextV s = nv at *
        generalize nextB s = nb at *
        obtain ⟨-, k1, -⟩ := PX.out.cells
        go_wp2_with fail
        refine (Get_at b' _ _ i hfi _ PX.out.pl.x.at_).mono ?_
        rintro e v2 ⟨rfl, hf⟩
        replace PX := Lib.hid (PX.out.fr0 hf)
        clear hf k1
        obtain ⟨-, k1, -⟩ := PX.out.cells
        go_wp2_with fail
        refine (rGet_any p' _ _ i _ PX.out.pl.r (by rw [vw_len]; omega)).mono ?_
        rintro e v3 ⟨rfl, hf⟩
        rw [← getV_vw, ← getB_vw]
        replace PX := Lib.hid (PX.out.fr0 hf)
        clear hf k1
        generalize getV s i = gv at *
        generalize getB s i = gb at *
        go_wp2_with fail
        refine (Len_at b' _ _ _ PX.out.pl.x.at_).mono ?_
        rintro e _ ⟨rfl, rfl⟩
        go_wp2_with fail
        refine (rLen_any p' _ _ _ PX.out.pl.r).mono ?_
        rintro e _ ⟨rfl, rfl⟩
        rw [vw_len]
        go_wp2_with fail
        refine (Ids_at b' _ _ _ PX.out.pl.x.at_).mono ?_
        rintro e v4 ⟨G, g, rfl, ho, -, hf⟩
        replace PX := Lib.hid (PX.out.fr0 hf)
        have R := Lib.hid (Reads.of_own ho)
        clear hf ho
        go_wp2_with fail
        refine (rIds_any p' _ _ _ PX.out.pl.r (by rw [vw_len]; omega)).mono ?_
        rintro e v5 ⟨G', g', rfl, ho, -, hf⟩
        replace PX := Lib.hid (PX.out.fr0 hf)
        have R1 := Lib.hid (R.out.fr0 hf)
        have R2 := Lib.hid (Reads.of_own ho)
        rw [vw_len] at R2 ⊢
        have SM := same_any G G' _ g _ g' _ _ v5 R1.out R2.out (by omega)
        rw [show fsts (vw s.l) = ids s.l from (ids_vw _).symm, decide_eq_true rfl] at SM
        have SM := Lib.hid SM
        clear hf ho R R1 R2
        go_wp2_with fail
        refine SM.out.mono ?_
        rintro e _ ⟨rfl, q, rfl⟩
        have PF := Lib.hid ((PX.out.fr0 ((Fr.refl No v5).drewN q)).pl)
        clear PX SM
        go_wp2
        go_roundw
        case rel => exact ⟨k + 1, b', p', _, _, s, by go_num, by omega, rfl, rfl, by omega, PF⟩
        case measure => simp [intOf]; omega
      have e0 : (d == 0) = false := by simpa using hd0
      have e1 : (d == 1) = false := by simpa using hd1
      have e2 : (d == 2) = false := by simpa using hd2
      have e3 : (d == 3) = false := by simpa using hd3
      clear hd0 hd1 hd2 hd3
      obtain ⟨c0, c1, c2⟩ := PX.out.cells
      have hn := PX.out.pl.x.at_.n
      rw [HW3.out, HX0.out] at c0 c1 c2
      have HWX := Lib.hid (show PlayX w (wr.alloc (.cells #[.int .i64 d, .int .i64 i, .int .i64 a] 39)) b D s p E (vw s.l) wr.heap.size d i a by rw [← HW3.out, ← HX0.out]; exact PX.out)
      replace PX := HWX
      clear HWX HW3 HX0
      
      go_wp2_with fail
      refine (Next_at b _ _ _ PX.out.pl.x.at_).mono ?_
      rintro e v1 ⟨rfl, hf⟩
      replace PX := Lib.hid (PX.out.fr0 hf)
      clear hf
      go_wp2_with fail
      refine (rNext_any p _ _ _ PX.out.pl.r).mono ?_
      rintro e _ ⟨rfl, rfl⟩
      rw [← vw_nextV, ← vw_nextB]
      generalize nextV s = nv at *
      generalize nextB s = nb at *
      obtain ⟨-, k1, -⟩ := PX.out.cells
      go_wp2_with fail
      refine (Get_at b _ _ i hfi _ PX.out.pl.x.at_).mono ?_
      rintro e v2 ⟨rfl, hf⟩
      replace PX := Lib.hid (PX.out.fr0 hf)
      clear hf k1
      obtain ⟨-, k1, -⟩ := PX.out.cells
      go_wp2_with fail
      refine (rGet_any p _ _ i _ PX.out.pl.r (by rw [vw_len]; omega)).mono ?_
      rintro e v3 ⟨rfl, hf⟩
      rw [← getV_vw, ← getB_vw]
      replace PX := Lib.hid (PX.out.fr0 hf)
      clear hf k1
      generalize getV s i = gv at *
      generalize getB s i = gb at *
      go_wp2_with fail
      refine (Len_at b _ _ _ PX.out.pl.x.at_).mono ?_
      rintro e _ ⟨rfl, rfl⟩
      go_wp2_with fail
      refine (rLen_any p _ _ _ PX.out.pl.r).mono ?_
      rintro e _ ⟨rfl, rfl⟩
      rw [vw_len]
      go_wp2_with fail
      refine (Ids_at b _ _ _ PX.out.pl.x.at_).mono ?_
      rintro e v4 ⟨G, g, rfl, ho, -, hf⟩
      replace PX := Lib.hid (PX.out.fr0 hf)
      have R := Lib.hid (Reads.of_own ho)
      clear hf ho
      go_wp2_with fail
      refine (rIds_any p _ _ _ PX.out.pl.r (by rw [vw_len]; omega)).mono ?_
      rintro e v5 ⟨G', g', rfl, ho, -, hf⟩
      replace PX := Lib.hid (PX.out.fr0 hf)
      have R1 := Lib.hid (R.out.fr0 hf)
      have R2 := Lib.hid (Reads.of_own ho)
      rw [vw_len] at R2 ⊢
      have SM := same_any G G' _ g _ g' _ _ v5 R1.out R2.out (by omega)
      rw [show fsts (vw s.l) = ids s.l from (ids_vw _).symm, decide_eq_true rfl] at SM
      have SM := Lib.hid SM
      clear hf ho R R1 R2
      go_wp2_with fail
      refine SM.out.mono ?_
      rintro e _ ⟨rfl, q, rfl⟩
      have PF := Lib.hid ((PX.out.fr0 ((Fr.refl No v5).drewN q)).pl)
      clear PX SM
      go_wp2
      go_roundw
      case rel => exact ⟨k + 1, b, p, _, _, s, by go_num, by omega, rfl, rfl, by omega, PF⟩
      case measure => simp [intOf]; omega
    · skip
      have hn := PL.out.x.at_.n
      go_wp2_with fail
      refine (Get_at b _ _ y hy _ PL.out.x.at_).mono ?_
      rintro e v2 ⟨rfl, hf⟩
      replace PL := Lib.hid (PL.out.fr0 hf)
      clear hf
      go_wp2_with fail
      refine (rGet_any p _ _ y _ PL.out.r (by rw [vw_len]; omega)).mono ?_
      rintro e v3 ⟨rfl, hf⟩
      rw [← getV_vw, ← getB_vw]
      replace PL := Lib.hid (PL.out.fr0 hf)
      clear hf
      generalize getV s y = gv at *
      generalize getB s y = gb at *
      go_wp2_with fail
      refine (works_any _).mono ?_
      rintro e v4 ⟨rfl, hf⟩
      replace PL := Lib.hid (PL.out.fr0 hf)
      clear hf
      go_wp2
      go_ret
      exact ⟨rfl, PL.out.x.fr⟩
end Go.Proofs.Ytgkpmckbdagkcaa
