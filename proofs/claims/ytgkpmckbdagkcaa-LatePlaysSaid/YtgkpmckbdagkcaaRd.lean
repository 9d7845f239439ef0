/- The document's list: Remove. -/
import Derived.Test.YtgkpmckbdagkcaaRv
import Derived.BigRegion
namespace Go.Proofs.Ytgkpmckbdagkcaa
open Go.RowKit Go.Wk

theorem rrem_fsts (v : VW) (k : Nat) : Wk.cells .i64 (fsts (v.take k ++ v.drop (k + 1))) = (Wk.cells .i64 (fsts v)).take k ++ (Wk.cells .i64 (fsts v)).drop (k + 1) := by
  unfold fsts Wk.cells; simp [List.map_take, List.map_drop]
theorem rrem_snds (v : VW) (k : Nat) : Wk.cells .i64 (snds (v.take k ++ v.drop (k + 1))) = (Wk.cells .i64 (snds v)).take k ++ (Wk.cells .i64 (snds v)).drop (k + 1) := by
  unfold snds Wk.cells; simp [List.map_take, List.map_drop]
theorem reads_rest {w : World} {B n k cap g off : Nat} {xs : List Value} (h : Reads w B 1 (some ⟨g, off, none⟩) n xs) (hk : k < n) (hc : n ≤ cap) :
    Reads w B 1 (if cap = k + 1 then some ⟨g, off, none⟩ else some ⟨g, off + (k + 1), none⟩) (n - (k + 1)) (xs.drop (k + 1)) := by
  have := h.cut (k := k + 1) (cap := cap) (by omega) hc
  rw [Nat.mul_one, Option.map_some, add_plain] at this
  by_cases e : cap = k + 1
  · rw [if_pos e] at this ⊢; exact this
  · rw [if_neg e] at this ⊢; exact this
theorem own_ge {w : World} {base n c : Nat} {A : Option Addr} {e : TypeId} {xs : List Value} (h : w.ownsRow base e 1 (.slice A n c) n xs) {b : Nat} (hb : (Value.slice A n c).ownBlock = some b) : base ≤ b := by
  cases A with
  | none => cases hb
  | some ad => injection hb with hb; rw [← hb]; exact ((own_formA h).2 _ rfl).1
set_option maxRecDepth 100000 in
set_option maxHeartbeats 8000000 in
theorem rRemove_any (p : Nat) (D : Nat → Prop) (v : VW) (x : Int) (w : World) (h : RefAt w p D v) (hm : v.length ≤ 100000) : Calls Try.prog 21 #[.pointer (some ⟨p, 0, none⟩), .int .i64 x] w fun e w' => e = .returned (.int .i64 (rremE v x)) ∧ RTurned w p D (rremV v x) w' := by
  obtain ⟨i0, hi, hz0, hz1, hz2⟩ : ∃ i, Try.prog.info? 3 = some i ∧ i.zero = some (.int .i64 0) ∧ i.size = 1 ∧ i.bytes = 8 := ⟨_, rfl, rfl, rfl, rfl⟩
  obtain ⟨i1, hj, hy0, hy1, hy2⟩ : ∃ i, Try.prog.info? 2 = some i ∧ i.zero = some (.int .i64 0) ∧ i.size = 1 ∧ i.bytes = 8 := ⟨_, rfl, rfl, rfl, rfl⟩
  have HV := Lib.hid (rvalid_any p D v w h)
  have HT := Lib.hid (rat_any p D v x w h hm)
  have HN := Lib.hid (fun w' => RTurned.none_ (w' := w') h)
  rcases atI_look v x with ⟨e1, e2⟩ | ⟨k, hk, e1, _, e3⟩
  · have e : rremE v x = 5 := by unfold rremE; rw [e2]; rfl
    have e2' : rremV v x = v := by unfold rremV; rw [if_pos e1]
    rw [e, e2']
    rw [e1] at HT
    clear e e2' e1 e2 h
    go_enter Try.func21, Try.ntmps21
    go_wp2_with (first | (go_at_call 39; refine HV.out.mono ?_; rintro e w1 ⟨rfl, rfl⟩) | (go_at_call 40; refine HT.out.mono ?_; rintro e w1 ⟨rfl, hf⟩))
    go_ret
    exact ⟨rfl, HN.out _ hf⟩
  · have e : rremE v x = 0 := by unfold rremE; rw [e3]; rfl
    have e2' : rremV v x = v.take k ++ v.drop (k + 1) := by unfold rremV; rw [if_neg (by rw [e1]; omega), e1]; rfl
    rw [e, e2']
    rw [e1] at HT
    obtain ⟨A, A', n, c, c', h, rfl⟩ := h
    have hkn : k < n := by rw [← h.ln]; exact hk
    have HL := Lib.hid h.ln
    have hmn : n ≤ 100000 := by rw [← h.ln]; exact hm
    obtain ⟨g, off, rfl, _, _⟩ := h.rl.int_at (kd := .i64) (xs := fsts v) hkn
    obtain ⟨g', off', rfl, _, _⟩ := h.rd.int_at (kd := .i64) (xs := snds v) hkn
    have HH := Lib.hid h
    have HLT := Lib.hid (fun j (hj : rdom p (some ⟨g, off, none⟩) (some ⟨g', off', none⟩) j) => RefAt.lt ⟨_, _, n, c, c', h, rfl⟩ (k := j) hj)
    have hnc := h.nc
    have hnc' := h.nc'
    clear h hm e1 e e2' e3 hk HN
    go_enter Try.func21, Try.ntmps21
    go_wp2_with (first | (go_at_call 39; refine HV.out.mono ?_; rintro e w1 ⟨rfl, rfl⟩) | (go_at_call 40; refine HT.out.mono ?_; rintro e w1 ⟨rfl, hf⟩))
    clear HV HT
    have HR := Lib.hid (HH.out.fr0 hf)
    have F1 := Lib.hid hf
    clear hf HH
    have hpw := HR.out.blk.lt
    have hkc : k ≤ c := by omega
    have hkc' : k ≤ c' := by omega
    have hk1 : k + 1 ≤ n := hkn
    have hwr : IntKind.i64.wrap ((k : Int) + 1) = (k : Int) + 1 := by simp only [IntKind.wrap_i64]; omega
    have hk2 : (k : Int) + 1 ≤ (n : Int) := by omega
    have hk0 : ¬ ((k : Int) + 1 < 0) := by omega
    have hkt : ((k : Int) + 1).toNat = k + 1 := by omega
    have HB0 := Lib.hid (show 0 + k ≤ maxLen by unfold maxLen; omega)
    have HB1 := Lib.hid (show (0 + k) * 8 ≤ 140737488355328 by omega)
    have HB4 := Lib.hid (show k + (n - (k + 1)) ≤ maxLen by unfold maxLen; omega)
    have HB5 := Lib.hid (show (k + (n - (k + 1))) * 8 ≤ 140737488355328 by omega)
    obtain ⟨c0, c1, c2⟩ := HR.out.cells
    have O1 := Lib.hid (show ((w1.alloc (.cells #[] 3)).drew).ownsRow w.heap.size 3 1 (.slice (some ⟨w1.heap.size, 0, none⟩) 0 0) 0 [] from ⟨rfl, .inr ⟨w1.heap.size, 0, #[], rfl, F1.out.size, Blk.new w1 3 #[], Nat.le_refl _, Nat.zero_le _, rfl, rfl⟩⟩)
    have R1 := Lib.hid ((((HR.out.rl.pre (Nat.le_of_lt hkn)).alloc (Nat.le_refl _) (.cells #[] 3))).drew)
    rw [Nat.mul_one] at R1
    have hsz1 := Lib.hid (show w.heap.size ≤ ((w1.alloc (.cells #[] 3)).drew).heap.size from Nat.le_trans F1.out.size ((Fr.refl No w1).alloc (.cells #[] 3)).size)
    go_wp2_with fail
    go_region_law (first
      | (refine step_append_any ((w1.alloc (.cells #[] 3)).drew) rfl (.tmp 15) (.tmp 21) 30 rfl w.heap.size 3 i0 (.int .i64 0) 1 8 Try.underlying30 hi hz0 hz1 hz2 rfl (by omega) (.slice (some ⟨w1.heap.size, 0, none⟩) 0 0) 0 [] rfl O1.out w1.heap.size (some ⟨g, off, none⟩) k c ((Wk.cells .i64 (fsts v)).take k) rfl R1.out (fun u hu => ints_one _ u (List.mem_of_mem_take hu)) HB0.out HB1.out hsz1.out ?_; intro v2 w2 ho2 hg2 hl2
         rw [Nat.zero_add, List.nil_append] at ho2
         have F2' : Fr No w1 w2 := ((Fr.refl No w1).alloc (.cells #[] 3)).drew.own (Fr.of_grown (S := (· = w1.heap.size)) hg2 (fun k hk => by simpa [Value.ownBlock] using hk.symm)) (Nat.le_refl _)
         obtain ⟨A2, q2, rfl⟩ := own_form' ho2
         have HR2 := Lib.hid (HR.out.fr0 F2')
         have F2 := Lib.hid (F1.out.then0 F2')
         have O2 := Lib.hid ho2
         have d1 := HR2.out.cells.2.1
         have R2 := Lib.hid (reads_rest HR2.out.rl hkn hnc)
         have hsz2 := Lib.hid (F2.out.size)
         clear ho2 hg2 hl2 F2')
      | (refine step_append_any w2 rfl (.tmp 22) (.tmp 29) 30 rfl w.heap.size 3 i0 (.int .i64 0) 1 8 Try.underlying30 hi hz0 hz1 hz2 rfl (by omega) (.slice A2 k q2) k _ rfl O2.out _ _ (n - (k + 1)) _ _ rfl R2.out (fun u hu => ints_one _ u (List.mem_of_mem_drop hu)) HB4.out HB5.out hsz2.out ?_; intro v3 w3 ho3 hg3 hl3
         have F3' : Fr (fun b => (Value.slice A2 k q2).ownBlock = some b) w2 w3 := Fr.of_grown hg3 (fun b hb => hb)
         have hA2 : ∀ b, (Value.slice A2 k q2).ownBlock = some b → w.heap.size ≤ b := fun b hb => (own_ge O2.out hb)
         obtain ⟨A3, q3, rfl⟩ := own_form' ho3
         have HR3 := Lib.hid (HR2.out.fr F3' (fun j hj h => by have := HLT.out j hj; have := hA2 j h; omega))
         have F3 := Lib.hid (F2.out.ownS F3' hA2)
         have e1 := HR3.out.cells.2.1
         have z1 := HR3.out.blk.frozen 1))
    all_goals
      have F4' := (Fr.refl (· = p) w3).setCell (p := ⟨p, 1, none⟩) (.inr rfl) (.slice A3 (k + (n - (k + 1))) q3)
      have B4 : Blk (w3.setCell ⟨p, 1, none⟩ (.slice A3 (k + (n - (k + 1))) q3)) p 66 #[.bool true, .slice A3 (k + (n - (k + 1))) q3, .slice (some ⟨g', off', none⟩) n c'] := HR3.out.blk.set_ 1 _
      have RD := HR3.out.rd.frB F4' (fun ad e => (HR3.out.lt' ad e).2)
      have ho4 := own_fr ho3 F4' (own_blk_ne ho3 HR3.out.blk (by decide))
      have F4 : Fr (rdom p (some ⟨g, off, none⟩) (some ⟨g', off', none⟩)) w (w3.setCell ⟨p, 1, none⟩ (.slice A3 (k + (n - (k + 1))) q3)) := (F3.out.mono (fun _ x => x.elim)).setCell (p := ⟨p, 1, none⟩) (.inr (.inl rfl)) _
      clear ho3 HR3 F3 F4' HR2 O2 R2 hsz2 hg3 hl3 F3' hA2 e1 z1 d1 c0 c1 c2 O1 R1 hsz1 HR F1 F2
      generalize w3.setCell ⟨p, 1, none⟩ (.slice A3 (k + (n - (k + 1))) q3) = w4 at *
      generalize (Value.slice (if c = k + 1 then some ⟨g, off, none⟩ else some ⟨g, off + (k + 1), none⟩) (n - (k + 1)) (c - (k + 1))) = u29
      have hpw4 := B4.lt
      have c2 : w4.cell? ⟨p, 2, none⟩ = some (.slice (some ⟨g', off', none⟩) n c') := B4.cell 2
      have O4 := Lib.hid (show ((w4.alloc (.cells #[] 2)).drew).ownsRow w.heap.size 2 1 (.slice (some ⟨w4.heap.size, 0, none⟩) 0 0) 0 [] from ⟨rfl, .inr ⟨w4.heap.size, 0, #[], rfl, F4.size, Blk.new w4 2 #[], Nat.le_refl _, Nat.zero_le _, rfl, rfl⟩⟩)
      have R4 := Lib.hid ((((RD.pre (Nat.le_of_lt hkn)).alloc (Nat.le_refl _) (.cells #[] 2))).drew)
      rw [Nat.mul_one] at R4
      have hsz4 := Lib.hid (show w.heap.size ≤ ((w4.alloc (.cells #[] 2)).drew).heap.size from Nat.le_trans F4.size ((Fr.refl No w4).alloc (.cells #[] 2)).size)
      have RD4 := Lib.hid RD
      have F4 := Lib.hid F4
      have B4 := Lib.hid B4
      have ho4 := Lib.hid ho4
      clear RD
      go_wp2_with fail
      go_region_law (first
        | (refine step_append_any ((w4.alloc (.cells #[] 2)).drew) rfl (.tmp 34) (.tmp 40) 26 rfl w.heap.size 2 i1 (.int .i64 0) 1 8 Try.underlying26 hj hy0 hy1 hy2 rfl (by omega) (.slice (some ⟨w4.heap.size, 0, none⟩) 0 0) 0 [] rfl O4.out w4.heap.size (some ⟨g', off', none⟩) k c' ((Wk.cells .i64 (snds v)).take k) rfl R4.out (fun u hu => ints_one _ u (List.mem_of_mem_take hu)) HB0.out HB1.out hsz4.out ?_; intro v5 w5 ho5 hg5 hl5
           rw [Nat.zero_add, List.nil_append] at ho5
           have F5' : Fr No w4 w5 := ((Fr.refl No w4).alloc (.cells #[] 2)).drew.own (Fr.of_grown (S := (· = w4.heap.size)) hg5 (fun k hk => by simpa [Value.ownBlock] using hk.symm)) (Nat.le_refl _)
           obtain ⟨A5, q5, rfl⟩ := own_form' ho5
           have B5 := Lib.hid (B4.out.fr F5' (fun x => x))
           have F5 := Lib.hid (F4.out.then0 F5')
           have O5 := Lib.hid ho5
           have d2 := B5.out.cell 2
           simp only [List.getElem?_toArray, List.getElem?_cons_succ, List.getElem?_cons_zero] at d2
           have R5 := Lib.hid (reads_rest (RD4.out.fr0 F5') hkn hnc')
           have ho45 := Lib.hid (own_fr ho4.out F5' (fun _ _ x => x))
           have hsz5 := Lib.hid (F5.out.size)
           clear ho5 hg5 hl5 F5')
        | (refine step_append_any w5 rfl (.tmp 41) (.tmp 48) 26 rfl w.heap.size 2 i1 (.int .i64 0) 1 8 Try.underlying26 hj hy0 hy1 hy2 rfl (by omega) (.slice A5 k q5) k _ rfl O5.out _ _ (n - (k + 1)) _ _ rfl R5.out (fun u hu => ints_one _ u (List.mem_of_mem_drop hu)) HB4.out HB5.out hsz5.out ?_; intro v6 w6 ho6 hg6 hl6
           have F6' : Fr (fun b => (Value.slice A5 k q5).ownBlock = some b) w5 w6 := Fr.of_grown hg6 (fun b hb => hb)
           have hA5 : ∀ b, (Value.slice A5 k q5).ownBlock = some b → w.heap.size ≤ b := fun b hb => (own_ge O5.out hb)
           obtain ⟨A6, q6, rfl⟩ := own_form' ho6
           have B6 := B5.out.fr F6' (fun hb => own_blk_ne O5.out B5.out (by decide) p hb rfl)
           have ho46 := own_fr ho45.out F6' (fun b hb hb' => own_own_ne ho45.out O5.out (by decide) b hb hb')
           have F6 := F5.out.ownS F6' hA5
           have B6h := Lib.hid B6
           have F6h := Lib.hid F6
           have e2 := B6.cell 2
           simp only [List.getElem?_toArray, List.getElem?_cons_succ, List.getElem?_cons_zero] at e2
           have z2 := B6.frozen 2
           clear B6 F6))
      all_goals
        have B7 : Blk (w6.setCell ⟨p, 2, none⟩ (.slice A6 (k + (n - (k + 1))) q6)) p 66 #[.bool true, .slice A3 (k + (n - (k + 1))) q3, .slice A6 (k + (n - (k + 1))) q6] := B6h.out.set_ 2 _
        have F7' := (Fr.refl (· = p) w6).setCell (p := ⟨p, 2, none⟩) (.inr rfl) (.slice A6 (k + (n - (k + 1))) q6)
        have ho47 := own_fr ho46 F7' (own_blk_ne ho46 B6h.out (by decide))
        have ho67 := own_fr ho6 F7' (own_blk_ne ho6 B6h.out (by decide))
        have FR : Fr (rdom p (some ⟨g, off, none⟩) (some ⟨g', off', none⟩)) w (w6.setCell ⟨p, 2, none⟩ (.slice A6 (k + (n - (k + 1))) q6)) := F6h.out.setCell (p := ⟨p, 2, none⟩) (.inr (.inl rfl)) _
        rw [← rrem_fsts] at ho47
        rw [← rrem_snds] at ho67
        have HFIN := Lib.hid (show RTurned w p (rdom p (some ⟨g, off, none⟩) (some ⟨g', off', none⟩)) (v.take k ++ v.drop (k + 1)) (w6.setCell ⟨p, 2, none⟩ (.slice A6 (k + (n - (k + 1))) q6)) from ⟨_, ⟨A3, A6, _, q3, q6, RefV.of_own B7 ho47 ho67, rfl⟩, FR, fun j hj => (rdom_own ho47 ho67 hj).elim (fun h => .inl (.inl h)) .inr⟩)
        generalize (Value.slice (if c' = k + 1 then some ⟨g', off', none⟩ else some ⟨g', off' + (k + 1), none⟩) (n - (k + 1)) (c' - (k + 1))) = u48
        clear B7 F7' ho47 ho67 FR B6h F6h ho46 e2 z2 ho6 hg6 hl6 F6' hA5 O5 R5 hsz5 ho45 B5 F5 d2 O4 R4 hsz4 RD4 F4 B4 ho4 c2
        go_wp2
        go_ret
        exact ⟨rfl, HFIN.out⟩
end Go.Proofs.Ytgkpmckbdagkcaa
