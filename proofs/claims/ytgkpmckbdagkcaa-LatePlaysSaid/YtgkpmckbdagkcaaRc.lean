/- The document's list: Add. -/
import Derived.Test.YtgkpmckbdagkcaaRb
namespace Go.Wk
open Go.RowKit
theorem own_own_ne {w : World} {base base' : Nat} {e e' : TypeId} {size size' n n' : Nat} {v v' : Value} {xs xs' : List Value} (h : w.ownsRow base e size v n xs) (h' : w.ownsRow base' e' size' v' n' xs') (hne : e ≠ e') : ∀ b, v.ownBlock = some b → v'.ownBlock ≠ some b := by
  intro b hb hb'
  rcases h.2 with ⟨rfl, _⟩ | ⟨g, cap, cur, rfl, _, hh, _⟩
  · simp [Value.ownBlock] at hb
  · rcases h'.2 with ⟨rfl, _⟩ | ⟨g', cap', cur', rfl, _, hh', _⟩
    · simp [Value.ownBlock] at hb'
    · have e1 : g = b := by simpa [Value.ownBlock] using hb
      have e2 : g' = b := by simpa [Value.ownBlock] using hb'
      subst e1 e2
      rw [hh] at hh'
      injection hh' with hh'
      injection hh' with _ h2 _
      exact hne h2
theorem Reads.pre {w : World} {B size n k : Nat} {A : Option Addr} {xs : List Value} (h : Reads w B size A n xs) (hk : k ≤ n) : Reads w B size A k (xs.take (k * size)) := by
  refine ⟨by rw [List.length_take, h.1]; exact Nat.min_eq_left (Nat.mul_le_mul_right _ hk), fun h0 => ?_⟩
  obtain ⟨ad, hA, hb, hc⟩ := h.2 (by omega)
  exact ⟨ad, hA, hb, fun j u hu => hc j u (by rw [List.getElem?_take] at hu; split at hu <;> simp_all)⟩
end Go.Wk
namespace Go.Proofs.Ytgkpmckbdagkcaa
open Go.RowKit Go.Wk

theorem own_formA {w : World} {base n c : Nat} {A : Option Addr} {e : TypeId} {xs : List Value} (h : w.ownsRow base e 1 (.slice A n c) n xs) : ((A = none ∧ c = 0) ∨ ∃ g o, A = some ⟨g, o, none⟩) ∧ (∀ ad, A = some ad → base ≤ ad.block ∧ ad.block < w.heap.size) := by
  rcases h.2 with ⟨h1, _⟩ | ⟨g, cap, cur, h1, hb, hh, _⟩
  · injection h1 with h1 h2 h3
    subst h1 h3
    exact ⟨.inl ⟨rfl, rfl⟩, fun _ h => by cases h⟩
  · injection h1 with h1 h2 h3
    subst h1
    refine ⟨.inr ⟨g, 0, rfl⟩, fun ad h => ?_⟩
    injection h with h; subst h
    exact ⟨hb, (Array.getElem?_eq_some_iff.1 hh).1⟩
theorem RefV.of_own {w : World} {base p n c c' : Nat} {A A' : Option Addr} {v : VW} (hb : Blk w p 66 #[.bool true, .slice A n c, .slice A' n c']) (h : w.ownsRow base 3 1 (.slice A n c) n (Wk.cells .i64 (fsts v))) (h' : w.ownsRow base 2 1 (.slice A' n c') n (Wk.cells .i64 (snds v))) : RefV w p A A' n c c' v := by
  have a := own_formA h
  have a' := own_formA h'
  refine ⟨hb, Reads.of_own h, Reads.of_own h', own_cap h, own_cap h', ?_, a.1, a'.1, fun ad e => ⟨(a.2 ad e).2, ?_⟩, fun ad e => ⟨(a'.2 ad e).2, ?_⟩⟩
  · have := h.1; rw [Wk.cells_length, fsts_len] at this; omega
  · exact own_blk_ne h hb (by decide) _ (by rw [e]; rfl)
  · exact own_blk_ne h' hb (by decide) _ (by rw [e]; rfl)
theorem rdom_own {w : World} {base p n c c' : Nat} {A A' : Option Addr} {v : VW} (h : w.ownsRow base 3 1 (.slice A n c) n (Wk.cells .i64 (fsts v))) (h' : w.ownsRow base 2 1 (.slice A' n c') n (Wk.cells .i64 (snds v))) {k : Nat} (hk : rdom p A A' k) : k = p ∨ base ≤ k := by
  rcases hk with rfl | ⟨ad, e, rfl⟩ | ⟨ad, e, rfl⟩
  · exact .inl rfl
  · exact .inr ((own_formA h).2 ad e).1
  · exact .inr ((own_formA h').2 ad e).1
theorem RefV.fr0 {w w' : World} {p n c c' : Nat} {A A' : Option Addr} {v : VW} (h : RefV w p A A' n c c' v) (hf : Fr No w w') : RefV w' p A A' n c c' v := h.fr hf (fun _ _ x => x)
theorem reads_zero (w : World) (B : Nat) (A : Option Addr) (n : Nat) (xs : List Value) (hn : n = 0) (hl : xs.length = n) : Reads w B 1 A n xs := ⟨by omega, fun h => by omega⟩
/-- The document's list after a call that may have turned it. -/
def RTurned (w : World) (p : Nat) (D : Nat → Prop) (v : VW) (w' : World) : Prop := ∃ D', RefAt w' p D' v ∧ Fr D w w' ∧ ∀ k, D' k → D k ∨ w.heap.size ≤ k
theorem RTurned.none_ {w w' : World} {p : Nat} {D : Nat → Prop} {v : VW} (h : RefAt w p D v) (hf : Fr No w w') : RTurned w p D v w' := ⟨D, h.fr0 hf, hf.mono (fun _ x => x.elim), fun _ h => .inl h⟩
def rix (v : VW) (d : Int) : Nat := (v.takeWhile (fun q => decide (q.2 ≤ d))).length
theorem rix_eq {v : VW} {d : Int} {k : Nat} (hk : k ≤ v.length) (h1 : ∀ j, j < k → (v.getD j (0, 0)).2 ≤ d) (h2 : k < v.length → ¬ (v.getD k (0, 0)).2 ≤ d) : rix v d = k := by
  unfold rix
  induction v generalizing k with
  | nil => simp at hk; simp [hk]
  | cons a v ih =>
    cases k with
    | zero =>
      have := h2 (by simp)
      rw [List.takeWhile_cons_of_neg (by simpa using this)]; rfl
    | succ k =>
      have := h1 0 (by omega)
      rw [List.takeWhile_cons_of_pos (by simpa using this), List.length_cons]
      rw [ih (k := k) (by simpa using hk) (fun j hj => by have := h1 (j + 1) (by omega); simpa using this) (fun hj => by have := h2 (by simpa using hj); simpa using this)]
def raddE (v : VW) (x d : Int) : Int := if d < 0 ∨ 4611686018427387904 < d then 2 else if (lookV v x).isSome = true then 6 else 0
def rins (v : VW) (x d : Int) : VW := v.take (rix v d) ++ (x, d) :: v.drop (rix v d)
def raddV (v : VW) (x d : Int) : VW := if raddE v x d = 0 then rins v x d else v
theorem rins_fsts (v : VW) (x d : Int) {k : Nat} (h : rix v d = k) : Wk.cells .i64 (fsts (rins v x d)) = (Wk.cells .i64 (fsts v)).take k ++ .int .i64 x :: (Wk.cells .i64 (fsts v)).drop k := by
  unfold rins fsts Wk.cells; rw [h]; simp [List.map_take, List.map_drop]
theorem rins_snds (v : VW) (x d : Int) {k : Nat} (h : rix v d = k) : Wk.cells .i64 (snds (rins v x d)) = (Wk.cells .i64 (snds v)).take k ++ .int .i64 d :: (Wk.cells .i64 (snds v)).drop k := by
  unfold rins snds Wk.cells; rw [h]; simp [List.map_take, List.map_drop]

set_option maxRecDepth 100000 in
set_option maxHeartbeats 8000000 in
theorem rAdd_any (p : Nat) (D : Nat → Prop) (v : VW) (x d : Int) (w : World) (h : RefAt w p D v) (hm : v.length ≤ 100000) : Calls Try.prog 19 #[.pointer (some ⟨p, 0, none⟩), .int .i64 x, .int .i64 d] w fun e w' => e = .returned (.int .i64 (raddE v x d)) ∧ RTurned w p D (raddV v x d) w' := by
  obtain ⟨i0, hi, hz0, hz1, hz2⟩ : ∃ i, Try.prog.info? 3 = some i ∧ i.zero = some (.int .i64 0) ∧ i.size = 1 ∧ i.bytes = 8 := ⟨_, rfl, rfl, rfl, rfl⟩
  obtain ⟨i1, hj, hy0, hy1, hy2⟩ : ∃ i, Try.prog.info? 2 = some i ∧ i.zero = some (.int .i64 0) ∧ i.size = 1 ∧ i.bytes = 8 := ⟨_, rfl, rfl, rfl, rfl⟩
  have HV := Lib.hid (rvalid_any p D v w h)
  have HT := Lib.hid (rat_any p D v x w h hm)
  have HN := Lib.hid (fun w' => RTurned.none_ (w' := w') h)
  by_cases hd : d < 0 ∨ 4611686018427387904 < d
  · have e : raddE v x d = 2 := by unfold raddE; rw [if_pos hd]
    have e2 : raddV v x d = v := by unfold raddV; rw [e]; rfl
    rw [e, e2]
    clear e e2 HT h
    rcases hd with hd | hd
    · go_enter Try.func19, Try.ntmps19
      go_wp2_with (go_at_call 39; refine HV.out.mono ?_; rintro e w1 ⟨rfl, rfl⟩)
      go_ret
      exact ⟨rfl, HN.out _ (Fr.refl _ _)⟩
    · have hd' : ¬ d < 0 := by omega
      go_enter Try.func19, Try.ntmps19
      go_wp2_with (go_at_call 39; refine HV.out.mono ?_; rintro e w1 ⟨rfl, rfl⟩)
      go_ret
      exact ⟨rfl, HN.out _ (Fr.refl _ _)⟩
  · have hd0 : ¬ d < 0 := fun q => hd (.inl q)
    have hd1 : ¬ 4611686018427387904 < d := fun q => hd (.inr q)
    rcases atI_look v x with ⟨e1, e2⟩ | ⟨k, hk, e1, _, e3⟩
    · have e : raddE v x d = 0 := by unfold raddE; rw [if_neg hd, e2]; rfl
      have e2' : raddV v x d = rins v x d := by unfold raddV; rw [e]; rfl
      rw [e, e2']
      rw [e1] at HT
      obtain ⟨A, A', n, c, c', h, rfl⟩ := h
      have HL := Lib.hid h.ln
      have HH := Lib.hid h
      have HM := Lib.hid (show n ≤ 100000 by rw [← h.ln]; exact hm)
      have HX := Lib.hid (fun k => rix_eq (v := v) (d := d) (k := k))
      have HLT := Lib.hid (fun j (hj : rdom p A A' j) => RefAt.lt ⟨A, A', n, c, c', h, rfl⟩ (k := j) hj)
      clear h hm e1 e2 e e2' hd HN
      go_enter Try.func19, Try.ntmps19
      go_wp2_with (first | (go_at_call 39; refine HV.out.mono ?_; rintro e w1 ⟨rfl, rfl⟩) | (go_at_call 40; refine HT.out.mono ?_; rintro e w1 ⟨rfl, hf⟩))
      clear HV HT
      have F1 := Lib.hid hf
      clear hf
      go_loopw [7] (fun i wr => ∃ k : Nat, i = .int .i64 k ∧ k ≤ n ∧ Hid (wr = w1) ∧ Hid (∀ j, j < k → (v.getD j (0, 0)).2 ≤ d)) (fun i _ => n - (intOf i).toNat)
      case atStart => exact ⟨0, rfl, Nat.zero_le _, Lib.hid rfl, Lib.hid (fun j hj => by omega)⟩
      case round =>
        obtain ⟨k, rfl, hk, HW, HK⟩ := hrel
        have HR := Lib.hid (HH.out.fr0 F1.out)
        rw [← HW.out] at HR F1
        have hmn := HM.out
        obtain ⟨c0, c1, c2⟩ := HR.out.cells
        by_cases hlt : k < n
        · obtain ⟨g, off, rfl, _, a0⟩ := HR.out.rd.int_at (kd := .i64) (xs := snds v) hlt
          rw [snds_get] at a0
          by_cases hy : (v.getD k (0, 0)).2 ≤ d
          · have HK2 := Lib.hid (show ∀ j, j < k + 1 → (v.getD j (0, 0)).2 ≤ d from fun j hj => by
              by_cases e : j = k
              · rw [e]; exact hy
              · exact HK.out j (by omega))
            generalize (v.getD k (0, 0)).2 = y at *
            go_wp2_with fail
            go_roundw
            case rel => exact ⟨k + 1, by go_num, by omega, HW, HK2⟩
            case measure => simp [intOf]; omega
          · have e := Lib.hid (HX.out k (by rw [HL.out]; exact hk) HK.out (fun _ => by omega))
            generalize (v.getD k (0, 0)).2 = y at *
            have HB0 := Lib.hid (show 0 + k ≤ maxLen by have := HM.out; unfold maxLen; omega)
            have HB1 := Lib.hid (show (0 + k) * 8 ≤ 140737488355328 by have := HM.out; omega)
            have HB2 := Lib.hid (show k + 1 ≤ maxLen by have := HM.out; unfold maxLen; omega)
            have HB3 := Lib.hid (show (k + 1) * 8 ≤ 140737488355328 by have := HM.out; omega)
            have HB4 := Lib.hid (show k + 1 + (n - k) ≤ maxLen by have := HM.out; unfold maxLen; omega)
            have HB5 := Lib.hid (show (k + 1 + (n - k)) * 8 ≤ 140737488355328 by have := HM.out; omega)
            have hnc := HR.out.nc
            have hnc' := HR.out.nc'
            have c1' := (HR.out.fr0 ((Fr.refl No wr).alloc (.cells #[] 3))).cells.2.1
            have O1 := Lib.hid (show (wr.alloc (.cells #[] 3)).ownsRow w.heap.size 3 1 (.slice (some ⟨wr.heap.size, 0, none⟩) 0 0) 0 [] from ⟨rfl, .inr ⟨wr.heap.size, 0, #[], rfl, F1.out.size, Blk.new wr 3 #[], Nat.le_refl _, Nat.zero_le _, rfl, rfl⟩⟩)
            have R1 := Lib.hid (((HR.out.rl.pre hk).alloc (Nat.le_refl _) (.cells #[] 3)))
            rw [Nat.mul_one] at R1
            have hsz1 := Nat.le_trans F1.out.size ((Fr.refl No wr).alloc (.cells #[] 3)).size
            go_wp2_with (at_builtin; refine wpList_append_any (wr.alloc (.cells #[] 3)) rfl (.tmp 43) (.tmp 49) 30 rfl w.heap.size 3 i0 (.int .i64 0) 1 8 Try.underlying30 hi hz0 hz1 hz2 rfl (by omega) (.slice (some ⟨wr.heap.size, 0, none⟩) 0 0) 0 [] rfl O1.out wr.heap.size A k c ((cells .i64 (fsts v)).take k) rfl R1.out (fun u hu => ints_one _ u (List.mem_of_mem_take hu)) HB0.out HB1.out hsz1 ?_)
            intro v2 w2 ho2 hg2 hl2
            have F2 : Fr No wr w2 := ((Fr.refl No wr).alloc (.cells #[] 3)).own (Fr.of_grown (S := (· = wr.heap.size)) hg2 (fun k hk => by simpa [Value.ownBlock] using hk.symm)) (Nat.le_refl _)
            have HR2 := Lib.hid (HR.out.fr0 F2)
            have F2 := Lib.hid (F1.out.then0 F2)
            clear hg2 hl2 O1 R1 hsz1 c0 c1 c2 c1' a0 HR F1
            obtain ⟨A2, q2, rfl⟩ := own_form' ho2
            have O2 := Lib.hid (ho2.alloc (.cells #[.int .i64 x] 3))
            have hsz2 := Nat.le_trans F2.out.size ((Fr.refl No w2).alloc (.cells #[.int .i64 x] 3)).size
            go_wp2_with (at_builtin; refine wpList_append_any (w2.alloc (.cells #[.int .i64 x] 3)) rfl (.tmp 51) (.tmp 53) 30 rfl w.heap.size 3 i0 (.int .i64 0) 1 8 Try.underlying30 hi hz0 hz1 hz2 rfl (by omega) (.slice A2 k q2) k _ rfl O2.out _ (some ⟨w2.heap.size, 0, none⟩) 1 1 [.int .i64 x] rfl (reads_blk w2 3 [.int .i64 x] 1 1 rfl) (by simp [Value.oneCell']) HB2.out HB3.out hsz2 ?_)
            intro v3 w3 ho3 hg3 hl3
            have F3' : Fr (fun b => w.heap.size ≤ b) w2 w3 := ((Fr.refl _ w2).alloc (.cells #[.int .i64 x] 3)).trans (Fr.of_grown (S := fun b => w.heap.size ≤ b) hg3 (fun b hb => by
              cases A2 with
              | none => cases hb
              | some ad => injection hb with hb; rw [← hb]; exact ((own_formA ho2).2 _ rfl).1)) (fun _ _ x => x)
            have HR3 := Lib.hid (HR2.out.fr F3' (fun j hj h => by have := HLT.out j hj; omega))
            have F3 := Lib.hid (F2.out.ownS F3' (fun _ x => x))
            clear ho2 hg3 hl3 F3' O2 hsz2 HR2 F2
            obtain ⟨A3, q3, rfl⟩ := own_form' ho3
            have c2 := (HR3.out.fr0 ((Fr.refl No w3).alloc (.cells #[] 2))).cells.2.2
            have O3 := Lib.hid (show (w3.alloc (.cells #[] 2)).ownsRow w.heap.size 2 1 (.slice (some ⟨w3.heap.size, 0, none⟩) 0 0) 0 [] from ⟨rfl, .inr ⟨w3.heap.size, 0, #[], rfl, F3.out.size, Blk.new w3 2 #[], Nat.le_refl _, Nat.zero_le _, rfl, rfl⟩⟩)
            have R3 := Lib.hid (((HR3.out.rd.pre hk).alloc (Nat.le_refl _) (.cells #[] 2)))
            rw [Nat.mul_one] at R3
            have hsz3 := Nat.le_trans F3.out.size ((Fr.refl No w3).alloc (.cells #[] 2)).size
            go_wp2_with (at_builtin; refine wpList_append_any (w3.alloc (.cells #[] 2)) rfl (.tmp 55) (.tmp 61) 26 rfl w.heap.size 2 i1 (.int .i64 0) 1 8 Try.underlying26 hj hy0 hy1 hy2 rfl (by omega) (.slice (some ⟨w3.heap.size, 0, none⟩) 0 0) 0 [] rfl O3.out w3.heap.size (some ⟨g, off, none⟩) k c' ((cells .i64 (snds v)).take k) rfl R3.out (fun u hu => ints_one _ u (List.mem_of_mem_take hu)) HB0.out HB1.out hsz3 ?_)
            intro v4 w4 ho4 hg4 hl4
            have F4' : Fr No w3 w4 := ((Fr.refl No w3).alloc (.cells #[] 2)).own (Fr.of_grown (S := (· = w3.heap.size)) hg4 (fun k hk => by simpa [Value.ownBlock] using hk.symm)) (Nat.le_refl _)
            have ho3 := own_fr ho3 F4' (fun _ _ x => x)
            have HR4 := Lib.hid (HR3.out.fr0 F4')
            have F4 := Lib.hid (F3.out.then0 F4')
            clear hg4 hl4 O3 R3 hsz3 c2 HR3 F3 F4'
            obtain ⟨A4, q4, rfl⟩ := own_form' ho4
            have O4 := Lib.hid (ho4.alloc (.cells #[.int .i64 d] 2))
            have hsz4 := Nat.le_trans F4.out.size ((Fr.refl No w4).alloc (.cells #[.int .i64 d] 2)).size
            go_wp2_with (at_builtin; refine wpList_append_any (w4.alloc (.cells #[.int .i64 d] 2)) rfl (.tmp 63) (.tmp 65) 26 rfl w.heap.size 2 i1 (.int .i64 0) 1 8 Try.underlying26 hj hy0 hy1 hy2 rfl (by omega) (.slice A4 k q4) k _ rfl O4.out _ (some ⟨w4.heap.size, 0, none⟩) 1 1 [.int .i64 d] rfl (reads_blk w4 2 [.int .i64 d] 1 1 rfl) (by simp [Value.oneCell']) HB2.out HB3.out hsz4 ?_)
            intro v5 w5 ho5 hg5 hl5
            have F5' : Fr (fun b => (Value.slice A4 k q4).ownBlock = some b) w4 w5 := ((Fr.refl _ w4).alloc (.cells #[.int .i64 d] 2)).trans (Fr.of_grown (S := fun b => (Value.slice A4 k q4).ownBlock = some b) hg5 (fun b hb => hb)) (fun _ _ x => x)
            have hA4 : ∀ b, (Value.slice A4 k q4).ownBlock = some b → w.heap.size ≤ b := fun b hb => by
              cases A4 with
              | none => cases hb
              | some ad => injection hb with hb; rw [← hb]; exact ((own_formA ho4).2 _ rfl).1
            have ho3 := own_fr ho3 F5' (fun b hb hb' => own_own_ne ho3 ho4 (by decide) b hb hb')
            have HR5 := Lib.hid (HR4.out.fr F5' (fun j hj h => by have := HLT.out j hj; have := hA4 j h; omega))
            have F5 := Lib.hid (F4.out.ownS F5' hA4)
            clear ho4 hg5 hl5 F5' O4 hsz4 HR4 F4 hA4
            obtain ⟨A5, q5, rfl⟩ := own_form' ho5
            obtain ⟨c0, c1, c2⟩ := HR5.out.cells
            have R5 := HR5.out.rl.cut hk HR5.out.nc
            rw [Nat.mul_one, if_neg (by omega)] at R5
            have R5 := Lib.hid R5
            have O5 := Lib.hid ho3
            have hsz5 := F5.out.size
            go_wp2_with (at_builtin; refine wpList_append_any w5 rfl (.tmp 68) (.tmp 74) 30 rfl w.heap.size 3 i0 (.int .i64 0) 1 8 Try.underlying30 hi hz0 hz1 hz2 rfl (by omega) (.slice A3 (k + 1) q3) (k + 1) _ rfl O5.out w5.heap.size _ (n - k) _ _ rfl R5.out (fun u hu => ints_one _ u (List.mem_of_mem_drop hu)) HB4.out HB5.out hsz5 ?_)
            intro v6 w6 ho6 hg6 hl6
            have F6' : Fr (fun b => (Value.slice A3 (k + 1) q3).ownBlock = some b) w5 w6 := Fr.of_grown hg6 (fun b hb => hb)
            have hA3 : ∀ b, (Value.slice A3 (k + 1) q3).ownBlock = some b → w.heap.size ≤ b := fun b hb => by
              cases A3 with
              | none => cases hb
              | some ad => injection hb with hb; rw [← hb]; exact ((own_formA ho3).2 _ rfl).1
            have ho5 := own_fr ho5 F6' (fun b hb hb' => own_own_ne ho5 ho3 (by decide) b hb hb')
            have HR6 := Lib.hid (HR5.out.fr F6' (fun j hj h => by have := HLT.out j hj; have := hA3 j h; omega))
            have F6 := Lib.hid (F5.out.ownS F6' hA3)
            clear ho3 hg6 hl6 F6' O5 hsz5 HR5 F5 hA3 c0 c1 c2 R5
            obtain ⟨A6, q6, rfl⟩ := own_form' ho6
            have F7 := (Fr.refl (· = p) w6).setCell (p := ⟨p, 1, none⟩) (.inr rfl) (.slice A6 (k + 1 + (n - k)) q6)
            have B7 : Blk (w6.setCell ⟨p, 1, none⟩ (.slice A6 (k + 1 + (n - k)) q6)) p 66 #[.bool true, .slice A6 (k + 1 + (n - k)) q6, .slice (some ⟨g, off, none⟩) n c'] := HR6.out.blk.set_ 1 _
            obtain ⟨g0, g1, g2⟩ := HR6.out.cells
            have d2 : (w6.setCell ⟨p, 1, none⟩ (.slice A6 (k + 1 + (n - k)) q6)).cell? ⟨p, 2, none⟩ = some (.slice (some ⟨g, off, none⟩) n c') := B7.cell 2
            have z1 := HR6.out.blk.frozen 1
            have RD := HR6.out.rd.frB F7 (fun ad e => (HR6.out.lt' ad e).2)
            have ho5 := own_fr ho5 F7 (own_blk_ne ho5 HR6.out.blk (by decide))
            have ho6 := own_fr ho6 F7 (own_blk_ne ho6 HR6.out.blk (by decide))
            have O7 := Lib.hid ho5
            have R7 := RD.cut hk HR6.out.nc'
            rw [Nat.mul_one, if_neg (by omega), Option.map_some, add_plain] at R7
            have R7 := Lib.hid R7
            have HB7 := Lib.hid B7
            have hsz7 := Nat.le_trans F6.out.size F7.size
            have F7 := Lib.hid F7
            have hnc' := HR6.out.nc'
            clear B7 RD
            go_wp2_with (at_builtin; refine wpList_append_any _ rfl (.tmp 79) (.tmp 85) 26 rfl w.heap.size 2 i1 (.int .i64 0) 1 8 Try.underlying26 hj hy0 hy1 hy2 rfl (by omega) (.slice A5 (k + 1) q5) (k + 1) _ rfl O7.out _ _ (n - k) _ _ rfl R7.out (fun u hu => ints_one _ u (List.mem_of_mem_drop hu)) HB4.out HB5.out hsz7 ?_)
            intro v8 w8 ho8 hg8 hl8
            have F8 : Fr (fun b => (Value.slice A5 (k + 1) q5).ownBlock = some b) (w6.setCell ⟨p, 1, none⟩ (.slice A6 (k + 1 + (n - k)) q6)) w8 := Fr.of_grown hg8 (fun b hb => hb)
            have hA5 : ∀ b, (Value.slice A5 (k + 1) q5).ownBlock = some b → w.heap.size ≤ b := fun b hb => by
              cases A5 with
              | none => cases hb
              | some ad => injection hb with hb; rw [← hb]; exact ((own_formA ho5).2 _ rfl).1
            have ho6 := own_fr ho6 F8 (fun b hb hb' => own_own_ne ho6 ho5 (by decide) b hb hb')
            have B8 := HB7.out.fr F8 (fun hb => own_blk_ne ho5 HB7.out (by decide) p hb rfl)
            obtain ⟨A8, q8, rfl⟩ := own_form' ho8
            have B9 : Blk (w8.setCell ⟨p, 2, none⟩ (.slice A8 (k + 1 + (n - k)) q8)) p 66 #[.bool true, .slice A6 (k + 1 + (n - k)) q6, .slice A8 (k + 1 + (n - k)) q8] := B8.set_ 2 _
            have z2 := B8.frozen 2
            have g2' := B8.cell 2
            have F9 := (Fr.refl (· = p) w8).setCell (p := ⟨p, 2, none⟩) (.inr rfl) (.slice A8 (k + 1 + (n - k)) q8)
            have ho6 := own_fr ho6 F9 (own_blk_ne ho6 B8 (by decide))
            have ho8 := own_fr ho8 F9 (own_blk_ne ho8 B8 (by decide))
            rw [← rins_fsts v x d e.out] at ho6
            rw [← rins_snds v x d e.out] at ho8
            have FR : Fr (rdom p A (some ⟨g, off, none⟩)) w (w8.setCell ⟨p, 2, none⟩ (.slice A8 (k + 1 + (n - k)) q8)) := ((((F6.out.mono (fun _ x => x.elim)).setCell (p := ⟨p, 1, none⟩) (.inr (.inl rfl)) _).ownS F8 hA5).setCell (p := ⟨p, 2, none⟩) (.inr (.inl rfl)) _)
            have HFIN := Lib.hid (show RTurned w p (rdom p A (some ⟨g, off, none⟩)) (rins v x d) (w8.setCell ⟨p, 2, none⟩ (.slice A8 (k + 1 + (n - k)) q8)) from ⟨_, ⟨A6, A8, _, q6, q8, RefV.of_own B9 ho6 ho8, rfl⟩, FR, fun j hj => (rdom_own ho6 ho8 hj).elim (fun h => .inl (.inl h)) .inr⟩)
            clear ho5 ho6 ho8 F8 F9 FR B8 B9 hg8 hl8 hA5 HR6 O7 R7 F7 F6 d2 g0 g1 g2
            go_wp2
            go_ret
            exact ⟨rfl, HFIN.out⟩
        · have e := Lib.hid (HX.out k (by rw [HL.out]; exact hk) HK.out (fun q => absurd (by rw [← HL.out]; exact q) hlt))
          have HB0 := Lib.hid (show 0 + k ≤ maxLen by have := HM.out; unfold maxLen; omega)
          have HB1 := Lib.hid (show (0 + k) * 8 ≤ 140737488355328 by have := HM.out; omega)
          have HB2 := Lib.hid (show k + 1 ≤ maxLen by have := HM.out; unfold maxLen; omega)
          have HB3 := Lib.hid (show (k + 1) * 8 ≤ 140737488355328 by have := HM.out; omega)
          have HB4 := Lib.hid (show k + 1 + (n - k) ≤ maxLen by have := HM.out; unfold maxLen; omega)
          have HB5 := Lib.hid (show (k + 1 + (n - k)) * 8 ≤ 140737488355328 by have := HM.out; omega)
          have hnc := HR.out.nc
          have hnc' := HR.out.nc'
          have c1' := (HR.out.fr0 ((Fr.refl No wr).alloc (.cells #[] 3))).cells.2.1
          have O1 := Lib.hid (show (wr.alloc (.cells #[] 3)).ownsRow w.heap.size 3 1 (.slice (some ⟨wr.heap.size, 0, none⟩) 0 0) 0 [] from ⟨rfl, .inr ⟨wr.heap.size, 0, #[], rfl, F1.out.size, Blk.new wr 3 #[], Nat.le_refl _, Nat.zero_le _, rfl, rfl⟩⟩)
          have R1 := Lib.hid (((HR.out.rl.pre hk).alloc (Nat.le_refl _) (.cells #[] 3)))
          rw [Nat.mul_one] at R1
          have hsz1 := Nat.le_trans F1.out.size ((Fr.refl No wr).alloc (.cells #[] 3)).size
          go_wp2_with (at_builtin; refine wpList_append_any (wr.alloc (.cells #[] 3)) rfl (.tmp 43) (.tmp 49) 30 rfl w.heap.size 3 i0 (.int .i64 0) 1 8 Try.underlying30 hi hz0 hz1 hz2 rfl (by omega) (.slice (some ⟨wr.heap.size, 0, none⟩) 0 0) 0 [] rfl O1.out wr.heap.size A k c ((cells .i64 (fsts v)).take k) rfl R1.out (fun u hu => ints_one _ u (List.mem_of_mem_take hu)) HB0.out HB1.out hsz1 ?_)
          intro v2 w2 ho2 hg2 hl2
          have F2 : Fr No wr w2 := ((Fr.refl No wr).alloc (.cells #[] 3)).own (Fr.of_grown (S := (· = wr.heap.size)) hg2 (fun k hk => by simpa [Value.ownBlock] using hk.symm)) (Nat.le_refl _)
          have HR2 := Lib.hid (HR.out.fr0 F2)
          have F2 := Lib.hid (F1.out.then0 F2)
          clear hg2 hl2 O1 R1 hsz1 c0 c1 c2 c1' HR F1
          obtain ⟨A2, q2, rfl⟩ := own_form' ho2
          have O2 := Lib.hid (ho2.alloc (.cells #[.int .i64 x] 3))
          have hsz2 := Nat.le_trans F2.out.size ((Fr.refl No w2).alloc (.cells #[.int .i64 x] 3)).size
          go_wp2_with (at_builtin; refine wpList_append_any (w2.alloc (.cells #[.int .i64 x] 3)) rfl (.tmp 51) (.tmp 53) 30 rfl w.heap.size 3 i0 (.int .i64 0) 1 8 Try.underlying30 hi hz0 hz1 hz2 rfl (by omega) (.slice A2 k q2) k _ rfl O2.out _ (some ⟨w2.heap.size, 0, none⟩) 1 1 [.int .i64 x] rfl (reads_blk w2 3 [.int .i64 x] 1 1 rfl) (by simp [Value.oneCell']) HB2.out HB3.out hsz2 ?_)
          intro v3 w3 ho3 hg3 hl3
          have F3' : Fr (fun b => w.heap.size ≤ b) w2 w3 := ((Fr.refl _ w2).alloc (.cells #[.int .i64 x] 3)).trans (Fr.of_grown (S := fun b => w.heap.size ≤ b) hg3 (fun b hb => by
            cases A2 with
            | none => cases hb
            | some ad => injection hb with hb; rw [← hb]; exact ((own_formA ho2).2 _ rfl).1)) (fun _ _ x => x)
          have HR3 := Lib.hid (HR2.out.fr F3' (fun j hj h => by have := HLT.out j hj; omega))
          have F3 := Lib.hid (F2.out.ownS F3' (fun _ x => x))
          clear ho2 hg3 hl3 F3' O2 hsz2 HR2 F2
          obtain ⟨A3, q3, rfl⟩ := own_form' ho3
          have c2 := (HR3.out.fr0 ((Fr.refl No w3).alloc (.cells #[] 2))).cells.2.2
          have O3 := Lib.hid (show (w3.alloc (.cells #[] 2)).ownsRow w.heap.size 2 1 (.slice (some ⟨w3.heap.size, 0, none⟩) 0 0) 0 [] from ⟨rfl, .inr ⟨w3.heap.size, 0, #[], rfl, F3.out.size, Blk.new w3 2 #[], Nat.le_refl _, Nat.zero_le _, rfl, rfl⟩⟩)
          have R3 := Lib.hid (((HR3.out.rd.pre hk).alloc (Nat.le_refl _) (.cells #[] 2)))
          rw [Nat.mul_one] at R3
          have hsz3 := Nat.le_trans F3.out.size ((Fr.refl No w3).alloc (.cells #[] 2)).size
          go_wp2_with (at_builtin; refine wpList_append_any (w3.alloc (.cells #[] 2)) rfl (.tmp 55) (.tmp 61) 26 rfl w.heap.size 2 i1 (.int .i64 0) 1 8 Try.underlying26 hj hy0 hy1 hy2 rfl (by omega) (.slice (some ⟨w3.heap.size, 0, none⟩) 0 0) 0 [] rfl O3.out w3.heap.size A' k c' ((cells .i64 (snds v)).take k) rfl R3.out (fun u hu => ints_one _ u (List.mem_of_mem_take hu)) HB0.out HB1.out hsz3 ?_)
          intro v4 w4 ho4 hg4 hl4
          have F4' : Fr No w3 w4 := ((Fr.refl No w3).alloc (.cells #[] 2)).own (Fr.of_grown (S := (· = w3.heap.size)) hg4 (fun k hk => by simpa [Value.ownBlock] using hk.symm)) (Nat.le_refl _)
          have ho3 := own_fr ho3 F4' (fun _ _ x => x)
          have HR4 := Lib.hid (HR3.out.fr0 F4')
          have F4 := Lib.hid (F3.out.then0 F4')
          clear hg4 hl4 O3 R3 hsz3 c2 HR3 F3 F4'
          obtain ⟨A4, q4, rfl⟩ := own_form' ho4
          have O4 := Lib.hid (ho4.alloc (.cells #[.int .i64 d] 2))
          have hsz4 := Nat.le_trans F4.out.size ((Fr.refl No w4).alloc (.cells #[.int .i64 d] 2)).size
          go_wp2_with (at_builtin; refine wpList_append_any (w4.alloc (.cells #[.int .i64 d] 2)) rfl (.tmp 63) (.tmp 65) 26 rfl w.heap.size 2 i1 (.int .i64 0) 1 8 Try.underlying26 hj hy0 hy1 hy2 rfl (by omega) (.slice A4 k q4) k _ rfl O4.out _ (some ⟨w4.heap.size, 0, none⟩) 1 1 [.int .i64 d] rfl (reads_blk w4 2 [.int .i64 d] 1 1 rfl) (by simp [Value.oneCell']) HB2.out HB3.out hsz4 ?_)
          intro v5 w5 ho5 hg5 hl5
          have F5' : Fr (fun b => (Value.slice A4 k q4).ownBlock = some b) w4 w5 := ((Fr.refl _ w4).alloc (.cells #[.int .i64 d] 2)).trans (Fr.of_grown (S := fun b => (Value.slice A4 k q4).ownBlock = some b) hg5 (fun b hb => hb)) (fun _ _ x => x)
          have hA4 : ∀ b, (Value.slice A4 k q4).ownBlock = some b → w.heap.size ≤ b := fun b hb => by
            cases A4 with
            | none => cases hb
            | some ad => injection hb with hb; rw [← hb]; exact ((own_formA ho4).2 _ rfl).1
          have ho3 := own_fr ho3 F5' (fun b hb hb' => own_own_ne ho3 ho4 (by decide) b hb hb')
          have HR5 := Lib.hid (HR4.out.fr F5' (fun j hj h => by have := HLT.out j hj; have := hA4 j h; omega))
          have F5 := Lib.hid (F4.out.ownS F5' hA4)
          clear ho4 hg5 hl5 F5' O4 hsz4 HR4 F4 hA4
          obtain ⟨A5, q5, rfl⟩ := own_form' ho5
          rcases (show c = k ∨ c ≠ k by omega) with hck | hck <;> rcases (show c' = k ∨ c' ≠ k by omega) with hck' | hck'
          all_goals
            obtain ⟨c0, c1, c2⟩ := HR5.out.cells
            have R5 := Lib.hid (fun X => reads_zero w5 w5.heap.size X (n - k) ((cells .i64 (fsts v)).drop k) (by omega) (by rw [List.length_drop, Wk.cells_length, fsts_len, HL.out]))
            have O5 := Lib.hid ho3
            have hsz5 := F5.out.size
            go_wp2_with (at_builtin; refine wpList_append_any w5 rfl (.tmp 68) (.tmp 74) 30 rfl w.heap.size 3 i0 (.int .i64 0) 1 8 Try.underlying30 hi hz0 hz1 hz2 rfl (by omega) (.slice A3 (k + 1) q3) (k + 1) _ rfl O5.out w5.heap.size _ (n - k) _ _ rfl (R5.out _) (fun u hu => ints_one _ u (List.mem_of_mem_drop hu)) HB4.out HB5.out hsz5 ?_)
            intro v6 w6 ho6 hg6 hl6
            have F6' : Fr (fun b => (Value.slice A3 (k + 1) q3).ownBlock = some b) w5 w6 := Fr.of_grown hg6 (fun b hb => hb)
            have hA3 : ∀ b, (Value.slice A3 (k + 1) q3).ownBlock = some b → w.heap.size ≤ b := fun b hb => by
              cases A3 with
              | none => cases hb
              | some ad => injection hb with hb; rw [← hb]; exact ((own_formA ho3).2 _ rfl).1
            have ho5 := own_fr ho5 F6' (fun b hb hb' => own_own_ne ho5 ho3 (by decide) b hb hb')
            have HR6 := Lib.hid (HR5.out.fr F6' (fun j hj h => by have := HLT.out j hj; have := hA3 j h; omega))
            have F6 := Lib.hid (F5.out.ownS F6' hA3)
            clear ho3 hg6 hl6 F6' O5 hsz5 HR5 F5 hA3 c0 c1 c2 R5
            obtain ⟨A6, q6, rfl⟩ := own_form' ho6
            have F7 := (Fr.refl (· = p) w6).setCell (p := ⟨p, 1, none⟩) (.inr rfl) (.slice A6 (k + 1 + (n - k)) q6)
            have B7 : Blk (w6.setCell ⟨p, 1, none⟩ (.slice A6 (k + 1 + (n - k)) q6)) p 66 #[.bool true, .slice A6 (k + 1 + (n - k)) q6, .slice A' n c'] := HR6.out.blk.set_ 1 _
            obtain ⟨g0, g1, g2⟩ := HR6.out.cells
            have d2 : (w6.setCell ⟨p, 1, none⟩ (.slice A6 (k + 1 + (n - k)) q6)).cell? ⟨p, 2, none⟩ = some (.slice A' n c') := B7.cell 2
            have z1 := HR6.out.blk.frozen 1
            have RD := HR6.out.rd.frB F7 (fun ad e => (HR6.out.lt' ad e).2)
            have ho5 := own_fr ho5 F7 (own_blk_ne ho5 HR6.out.blk (by decide))
            have ho6 := own_fr ho6 F7 (own_blk_ne ho6 HR6.out.blk (by decide))
            have O7 := Lib.hid ho5
            have R7 := Lib.hid (fun X => reads_zero (w6.setCell ⟨p, 1, none⟩ (.slice A6 (k + 1 + (n - k)) q6)) (w6.setCell ⟨p, 1, none⟩ (.slice A6 (k + 1 + (n - k)) q6)).heap.size X (n - k) ((cells .i64 (snds v)).drop k) (by omega) (by rw [List.length_drop, Wk.cells_length, snds_len, HL.out]))
            have HB7 := Lib.hid B7
            have hsz7 := Nat.le_trans F6.out.size F7.size
            have F7 := Lib.hid F7
            have hnc' := HR6.out.nc'
            clear B7 RD
            go_wp2_with (at_builtin; refine wpList_append_any _ rfl (.tmp 79) (.tmp 85) 26 rfl w.heap.size 2 i1 (.int .i64 0) 1 8 Try.underlying26 hj hy0 hy1 hy2 rfl (by omega) (.slice A5 (k + 1) q5) (k + 1) _ rfl O7.out _ _ (n - k) _ _ rfl (R7.out _) (fun u hu => ints_one _ u (List.mem_of_mem_drop hu)) HB4.out HB5.out hsz7 ?_)
            intro v8 w8 ho8 hg8 hl8
            have F8 : Fr (fun b => (Value.slice A5 (k + 1) q5).ownBlock = some b) (w6.setCell ⟨p, 1, none⟩ (.slice A6 (k + 1 + (n - k)) q6)) w8 := Fr.of_grown hg8 (fun b hb => hb)
            have hA5 : ∀ b, (Value.slice A5 (k + 1) q5).ownBlock = some b → w.heap.size ≤ b := fun b hb => by
              cases A5 with
              | none => cases hb
              | some ad => injection hb with hb; rw [← hb]; exact ((own_formA ho5).2 _ rfl).1
            have ho6 := own_fr ho6 F8 (fun b hb hb' => own_own_ne ho6 ho5 (by decide) b hb hb')
            have B8 := HB7.out.fr F8 (fun hb => own_blk_ne ho5 HB7.out (by decide) p hb rfl)
            obtain ⟨A8, q8, rfl⟩ := own_form' ho8
            have B9 : Blk (w8.setCell ⟨p, 2, none⟩ (.slice A8 (k + 1 + (n - k)) q8)) p 66 #[.bool true, .slice A6 (k + 1 + (n - k)) q6, .slice A8 (k + 1 + (n - k)) q8] := B8.set_ 2 _
            have z2 := B8.frozen 2
            have g2' := B8.cell 2
            have F9 := (Fr.refl (· = p) w8).setCell (p := ⟨p, 2, none⟩) (.inr rfl) (.slice A8 (k + 1 + (n - k)) q8)
            have ho6 := own_fr ho6 F9 (own_blk_ne ho6 B8 (by decide))
            have ho8 := own_fr ho8 F9 (own_blk_ne ho8 B8 (by decide))
            rw [← rins_fsts v x d e.out] at ho6
            rw [← rins_snds v x d e.out] at ho8
            have FR : Fr (rdom p A A') w (w8.setCell ⟨p, 2, none⟩ (.slice A8 (k + 1 + (n - k)) q8)) := ((((F6.out.mono (fun _ x => x.elim)).setCell (p := ⟨p, 1, none⟩) (.inr (.inl rfl)) _).ownS F8 hA5).setCell (p := ⟨p, 2, none⟩) (.inr (.inl rfl)) _)
            have HFIN := Lib.hid (show RTurned w p (rdom p A A') (rins v x d) (w8.setCell ⟨p, 2, none⟩ (.slice A8 (k + 1 + (n - k)) q8)) from ⟨_, ⟨A6, A8, _, q6, q8, RefV.of_own B9 ho6 ho8, rfl⟩, FR, fun j hj => (rdom_own ho6 ho8 hj).elim (fun h => .inl (.inl h)) .inr⟩)
            clear ho5 ho6 ho8 F8 F9 FR B8 B9 hg8 hl8 hA5 HR6 O7 R7 F7 F6 d2 g0 g1 g2
            go_wp2
            go_ret
            exact ⟨rfl, HFIN.out⟩
    · have e : raddE v x d = 6 := by unfold raddE; rw [if_neg hd, e3]; rfl
      have e2 : raddV v x d = v := by unfold raddV; rw [e]; rfl
      rw [e, e2]
      rw [e1] at HT
      clear e e2 e1 e3 h hd
      go_enter Try.func19, Try.ntmps19
      go_wp2_with (first | (go_at_call 39; refine HV.out.mono ?_; rintro e w1 ⟨rfl, rfl⟩) | (go_at_call 40; refine HT.out.mono ?_; rintro e w1 ⟨rfl, hf⟩))
      go_ret
      exact ⟨rfl, HN.out _ hf⟩
end Go.Proofs.Ytgkpmckbdagkcaa
