/- The heap of integers: up. -/
import Derived.Test.YtbndmelkdamgjaaJ
namespace Go.Proofs.Ytbndmelkdamgjaa
open Go.RowKit Go.Wk

/-- An array of the same entries that has turned, the heap's property found again. -/
structure Kept {V : Type} [Inhabited V] (A : World → List (En V) → Prop) (S : Nat → Prop) (w : World) (l : List (En V)) (P : List (En V) → Prop) (w' : World) (l' : List (En V)) : Prop where
  at_ : A w' l'
  good : P l'
  mem : ∀ e, e ∈ l' ↔ e ∈ l
  len : l'.length = l.length
  fr : Fr S w w'
theorem par_int {k : Nat} (h : 0 < k) : ((k : Int) - 1).tdiv 2 = (par k : Int) := by
  unfold par
  have : ((k : Int) - 1) = ((k - 1 : Nat) : Int) := by omega
  rw [this]
  norm_cast
set_option maxRecDepth 100000 in
set_option maxHeartbeats 4000000 in
theorem up_any (f : Nat) (bf : Int → Int → Bool) (B : Bef (Value.int .i64) bf f) (b bm : Nat) (v : Value) (l : List (En Int)) (g : Int) (w : World) (h : AI f w b bm v l g) (i : Nat) (hi : i < l.length) (hu : UpI bf l i) :
    Calls Try.prog 69 #[.pointer (some ⟨b, 0, none⟩), .int .i64 i] w fun e w' => e = .returned (.tuple #[]) ∧ ∃ l', Kept (fun X m => AI f X b bm v m g) (dom b bm v) w l (HP bf) w' l' := by
  have HS := Lib.hid (show Kept (fun X m => AI f X b bm v m g) (dom b bm v) w l (fun m => UpI bf m i) w l from ⟨h, hu, fun _ => Iff.rfl, rfl, Fr.refl _ _⟩)
  have hn := h.ok.n
  have hg := h.ok.g
  have HB := Lib.hid B
  clear h hu B
  go_enter Try.func69, Try.ntmps69
  go_wp2
  go_loopw [1] (fun iv wr => ∃ (k : Nat) (m : List (En Int)), iv = .int .i64 k ∧ k < l.length ∧ Hid (Kept (fun X m => AI f X b bm v m g) (dom b bm v) w l (fun m => UpI bf m k) wr m)) (fun iv _ => (intOf iv).toNat)
  case atStart => exact ⟨i, l, rfl, hi, HS⟩
  case round =>
    clear HS hi
    obtain ⟨k, m, rfl, hk, HS⟩ := hrel
    have hml := HS.out.len
    rcases Nat.eq_zero_or_pos k with rfl | h0
    · have HE := Lib.hid (show Kept (fun X m => AI f X b bm v m g) (dom b bm v) w l (HP bf) wr m from ⟨HS.out.at_, HS.out.good.stop (fun z => absurd z (by omega)), HS.out.mem, HS.out.len, HS.out.fr⟩)
      go_wp2
      go_end0
      exact ⟨rfl, m, HE.out⟩
    · have hp := par_lt h0
      have HF := Lib.hid (first_any f bf HB.out b bm v m g wr HS.out.at_ k (par k) (by omega) (by omega))
      have HW := Lib.hid (fun X (hX : Fr No wr X) => swap_any f b bm v m g X (HS.out.at_.fr0 hX) k (par k) (by omega) (by omega) (by omega))
      have ST := Lib.hid (fun (e : fst bf (m.getD k default) (m.getD (par k) default) = true) => HS.out.good.step HB.out.weak h0 (by omega) e)
      have SP := Lib.hid (fun (e : fst bf (m.getD k default) (m.getD (par k) default) = false) => HS.out.good.stop (fun _ => e))
      have ms := Lib.hid (fun e => mem_swp (l := m) (i := k) (k := par k) (by omega) (by omega) e)
      have ls := swp_length m k (par k)
      have hpi := par_int h0
      generalize swp m k (par k) = m' at *
      generalize hfs : fst bf (m.getD k default) (m.getD (par k) default) = t at *
      generalize par k = q at *
      go_wp2_with fail
      refine HF.out.mono ?_
      rintro e w1 ⟨rfl, hf⟩
      have F1 := Lib.hid hf
      clear hf
      cases t
      · have HE := Lib.hid (show Kept (fun X m => AI f X b bm v m g) (dom b bm v) w l (HP bf) w1 m from ⟨HS.out.at_.fr0 F1.out, SP.out rfl, HS.out.mem, HS.out.len, HS.out.fr.then0 F1.out⟩)
        go_wp2
        go_end0
        exact ⟨rfl, m, HE.out⟩
      · replace HW := Lib.hid (HW.out _ F1.out)
        go_wp2_with fail
        refine HW.out.mono ?_
        rintro e w2 ⟨rfl, ha, hf⟩
        have HN := Lib.hid (show Kept (fun X m => AI f X b bm v m g) (dom b bm v) w l (fun m => UpI bf m q) w2 m' from ⟨ha, ST.out (by first | rfl | trivial), fun e => (ms.out e).trans (HS.out.mem e), ls.trans HS.out.len, (HS.out.fr.then0 F1.out).trans hf (fun _ _ z => z)⟩)
        clear ha hf HS
        go_wp2
        go_roundw
        case rel => exact ⟨q, m', rfl, by omega, HN⟩
        case measure => (simp only [intOf, Int.toNat_natCast]; exact hp)
end Go.Proofs.Ytbndmelkdamgjaa
