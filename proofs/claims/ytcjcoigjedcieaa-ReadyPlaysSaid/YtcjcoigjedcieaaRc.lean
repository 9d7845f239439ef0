/- The document's queue in memory: made, find, Has, Len, Room, Push. -/
import Derived.Test.YtcjcoigjedcieaaRb
namespace Go.Proofs.Ytcjcoigjedcieaa
open Go.RowKit Go.Wk

/-- The block r is the document's queue in state t, its slice v. -/
structure RV (w : World) (r : Nat) (v : Value) (t : QS) : Prop where
  blk : Blk w r 83 #[.bool true, v, .int .i64 t.size, .int .i64 t.ag, .int .i64 t.added]
  own : w.ownsRow 0 31 4 v t.l.length (icells t.l)
  n : t.l.length ≤ 1024
  sz : 0 ≤ t.size ∧ t.size ≤ 1024
  ad : 0 ≤ t.added ∧ t.added ≤ 1000000
def domR (r : Nat) (v : Value) : Nat → Prop := fun k => k = r ∨ v.ownBlock = some k
section
variable {S : Nat → Prop} {w w' : World} {r : Nat} {v : Value} {t : QS}
theorem RV.fr (h : RV w r v t) (hf : Fr S w w') (hS : ∀ k, domR r v k → ¬ S k) : RV w' r v t :=
  ⟨h.blk.fr hf (hS r (.inl rfl)), own_fr h.own hf (fun k hk => hS k (.inr hk)), h.n, h.sz, h.ad⟩
theorem RV.fr0 (h : RV w r v t) (hf : Fr No w w') : RV w' r v t := h.fr hf (fun _ _ z => z)
theorem RV.lt (h : RV w r v t) {k : Nat} (hk : domR r v k) : k < w.heap.size := by
  rcases hk with rfl | hk
  · exact h.blk.lt
  · exact (h.own.lt k hk).2
theorem RV.cells (h : RV w r v t) : w.cell? ⟨r, 0, none⟩ = some (.bool true) ∧ w.cell? ⟨r, 1, none⟩ = some v ∧ w.cell? ⟨r, 2, none⟩ = some (.int .i64 t.size) ∧ w.cell? ⟨r, 3, none⟩ = some (.int .i64 t.ag) ∧ w.cell? ⟨r, 4, none⟩ = some (.int .i64 t.added) := ⟨h.blk.cell 0, h.blk.cell 1, h.blk.cell 2, h.blk.cell 3, h.blk.cell 4⟩
theorem RV.form (h : RV w r v t) : ∃ A c, v = .slice A t.l.length c ∧ t.l.length ≤ c := by
  obtain ⟨A, c, rfl⟩ := own_form' h.own
  exact ⟨A, c, rfl, own_cap h.own⟩
theorem RV.ne (h : RV w r v t) : ∀ k, v.ownBlock = some k → k ≠ r := own_blk_ne h.own h.blk (by decide)
end
def RTurned (w : World) (r : Nat) (v : Value) (t : QS) (x : Value) (e : Ending) (w' : World) : Prop := e = .returned x ∧ ∃ v', RV w' r v' t ∧ Fr (domR r v) w w' ∧ ∀ k, v'.ownBlock = some k → v.ownBlock = some k ∨ w.heap.size ≤ k

theorem rmade_any (r : Nat) (v : Value) (t : QS) (w : World) (h : RV w r v t) : Calls Try.prog 51 #[.pointer (some ⟨r, 0, none⟩)] w fun e w' => e = .returned (.bool true) ∧ w = w' := by
  obtain ⟨c0, c1, c2, c3, c4⟩ := h.cells
  clear h
  go_enter Try.func51, Try.ntmps51
  go_wp2
  go_ret
  exact ⟨rfl, rfl⟩
theorem rLen_any (r : Nat) (v : Value) (t : QS) (w : World) (h : RV w r v t) : Calls Try.prog 56 #[.pointer (some ⟨r, 0, none⟩)] w fun e w' => e = .returned (.int .i64 t.l.length) ∧ w = w' := by
  obtain ⟨c0, c1, c2, c3, c4⟩ := h.cells
  obtain ⟨A, c, rfl, _⟩ := h.form
  have HV := Lib.hid (rmade_any r _ t w h)
  clear h
  go_enter Try.func56, Try.ntmps56
  go_wp2_with fail
  refine HV.out.mono ?_
  rintro x w1 ⟨rfl, rfl⟩
  go_wp2
  go_ret
  exact ⟨rfl, rfl⟩
theorem rRoom_any (r : Nat) (v : Value) (t : QS) (w : World) (h : RV w r v t) : Calls Try.prog 57 #[.pointer (some ⟨r, 0, none⟩)] w fun e w' => e = .returned (.int .i64 (roomV t)) ∧ ∃ q, w' = w.drewN q := by
  obtain ⟨c0, c1, c2, c3, c4⟩ := h.cells
  obtain ⟨A, c, rfl, _⟩ := h.form
  have HV := Lib.hid (rmade_any r _ t w h)
  have hn := h.n
  have hz := h.sz
  unfold roomV
  generalize t.l.length = n at *
  generalize t.size = z at *
  have hw : IntKind.i64.wrap (z - (n : Int)) = z - (n : Int) := by simp only [IntKind.wrap_i64]; omega
  clear h hz
  go_enter Try.func57, Try.ntmps57
  go_wp2_with fail
  refine HV.out.mono ?_
  rintro x w1 ⟨rfl, rfl⟩
  go_wp2
  go_quiet (fail)
  go_wp2
  go_ret
  exact ⟨rfl, _, rfl⟩
set_option maxRecDepth 100000 in
set_option maxHeartbeats 4000000 in
theorem rfind_any (r : Nat) (v : Value) (t : QS) (x : Int) (w : World) (h : RV w r v t) : Calls Try.prog 53 #[.pointer (some ⟨r, 0, none⟩), .int .i64 x] w fun e w' => e = .returned (.int .i64 (idxF (fun e => e.id == x) t.l)) ∧ w = w' := by
  obtain ⟨c0, c1, c2, c3, c4⟩ := h.cells
  obtain ⟨A, c, rfl, _⟩ := h.form
  have HV := Lib.hid (rmade_any r _ t w h)
  have HR := Lib.hid (Reads.of_own h.own)
  have hn := h.n
  have HE := Lib.hid (show ∀ k, k < t.l.length → (t.l.getD k IV.zero).id = x → (∀ j, j < k → (t.l.getD j IV.zero).id ≠ x) → idxF (fun e => e.id == x) t.l = (k : Int) from fun k hk he hj => by
    have : t.l.findIdx (fun e => e.id == x) = k := by
      rw [List.findIdx_eq hk]
      refine ⟨by rw [← getD_get hk]; simpa using he, fun j hjk => ?_⟩
      have := hj j hjk
      rw [getD_get (show j < t.l.length by omega)] at this
      simpa using this
    unfold idxF
    rw [this, if_pos hk])
  have HO := Lib.hid (show (∀ j, j < t.l.length → (t.l.getD j IV.zero).id ≠ x) → idxF (fun e => e.id == x) t.l = -1 from fun hj => by
    have : t.l.findIdx (fun e => e.id == x) = t.l.length := by
      rw [List.findIdx_eq_length]
      intro z hz
      obtain ⟨j, hjl, rfl⟩ := List.mem_iff_getElem.1 hz
      have := hj j hjl
      rw [getD_get hjl] at this
      simpa using this
    unfold idxF
    rw [this, if_neg (Nat.lt_irrefl _)])
  generalize idxF (fun e => e.id == x) t.l = res at *
  clear h
  go_enter Try.func53, Try.ntmps53
  go_wp2
  go_loopw [5] (fun i wr => ∃ k : Nat, i = .int .i64 k ∧ k ≤ t.l.length ∧ w = wr ∧ Hid (∀ j, j < k → (t.l.getD j IV.zero).id ≠ x)) (fun i _ => t.l.length - (intOf i).toNat)
  case atStart => exact ⟨0, rfl, Nat.zero_le _, rfl, Lib.hid (fun j hj => by omega)⟩
  case round =>
    obtain ⟨k, rfl, hk, rfl, HP⟩ := hrel
    by_cases hlt : k < t.l.length
    · obtain ⟨g, off, rfl, hg, hll, d0, d1, d2, d3⟩ := reads_item HR.out hlt
      obtain ⟨y, hy⟩ : ∃ y, y = (t.l.getD k IV.zero).id := ⟨_, rfl⟩
      rw [← hy] at d0
      have HY := Lib.hid hy
      have hlt2 : (k : Int) < (t.l.length : Int) := by omega
      clear hy d1 d2 d3 hll
      by_cases hyx : y = x
      · have HEE := Lib.hid (HE.out k hlt (by rw [← HY.out]; exact hyx) HP.out)
        have hb : (y == x) = true := by simpa using hyx
        clear hyx
        go_wp2_with fail
        refine HV.out.mono ?_
        rintro e w1 ⟨rfl, rfl⟩
        go_wp2
        go_ret
        exact ⟨ret1i HEE.out.symm, rfl⟩
      · have HP2 := Lib.hid (show ∀ j, j < k + 1 → (t.l.getD j IV.zero).id ≠ x from fun j hj => by
          by_cases e : j = k
          · rw [e, ← HY.out]; exact hyx
          · exact HP.out j (by omega))
        have hb : (y == x) = false := by simpa using hyx
        clear hyx
        go_wp2_with fail
        refine HV.out.mono ?_
        rintro e w1 ⟨rfl, rfl⟩
        go_wp2
        go_roundw
        case rel => exact ⟨k + 1, by go_num, by omega, by trivial, HP2⟩
        case measure => simp [intOf]; omega
    · have HEE := Lib.hid (HO.out (fun j hj => HP.out j (by omega)))
      have hlt2 : ¬ (k : Int) < (t.l.length : Int) := by omega
      go_wp2_with fail
      refine HV.out.mono ?_
      rintro e w1 ⟨rfl, rfl⟩
      go_wp2
      go_ret
      exact ⟨ret1i HEE.out.symm, rfl⟩
theorem rHas_any (r : Nat) (v : Value) (t : QS) (x : Int) (w : World) (h : RV w r v t) : Calls Try.prog 52 #[.pointer (some ⟨r, 0, none⟩), .int .i64 x] w fun e w' => e = .returned (.bool (hasB t x)) ∧ w = w' := by
  have HF := Lib.hid (rfind_any r v t x w h)
  have HB := Lib.hid (show decide (0 ≤ idxF (fun e => e.id == x) t.l) = hasB t x from idxF_has t.l x)
  generalize idxF (fun e => e.id == x) t.l = i at *
  clear h
  go_enter Try.func52, Try.ntmps52
  go_wp2_with fail
  refine HF.out.mono ?_
  rintro e w1 ⟨rfl, rfl⟩
  go_wp2
  go_ret
  exact ⟨ret1b HB.out, rfl⟩
end Go.Proofs.Ytcjcoigjedcieaa
