/- The heap of integers: Ids. -/
import Derived.Test.YtbndmelkdamgjaaS
namespace Go.Proofs.Ytbndmelkdamgjaa
open Go.RowKit Go.Wk

theorem iCopy {f : Nat} {bf : Int → Int → Bool} {b : Nat} {D : Nat → Prop} {s : List (En Int)} {g : Int} {w : World} (h : IH f bf w b D s g) : Calls Try.prog 49 #[.pointer (some ⟨b, 0, none⟩)] w fun e w' => NewI f bf w s g e w' := by
  obtain ⟨bm, v, l, rfl, h⟩ := h
  exact Copy_in b bm v l s g w h
/-- What Ids leaves: a slice of the call's own with the ids. -/
def IdsAt (w : World) (xs : List Int) (e : Ending) (w' : World) : Prop := ∃ A n c, e = .returned (.slice A n c) ∧ n = xs.length ∧ w'.ownsRow w.heap.size 3 1 (.slice A n c) n (cells .i64 xs) ∧ Fr No w w'
structure IdI (f : Nat) (bf : Int → Int → Bool) (w wr : World) (b : Nat) (s : List (En Int)) (g : Int) (v : Value) (m k : Nat) : Prop where
  h : ∃ D, IH f bf wr b D (s.drop k) g ∧ (∀ q, D q → w.heap.size ≤ q) ∧ ∀ q, v.ownBlock = some q → ¬ D q
  own : wr.ownsRow w.heap.size 3 1 v k (cells .i64 ((ids s).take k))
  fr : Fr No w wr
set_option maxRecDepth 100000 in
set_option maxHeartbeats 4000000 in
theorem iIds {f : Nat} {bf : Int → Int → Bool} (B : Bef (Value.int .i64) bf f) {b : Nat} {D : Nat → Prop} {s : List (En Int)} {g : Int} {w : World} (h : IH f bf w b D s g) : Calls Try.prog 33 #[.pointer (some ⟨b, 0, none⟩)] w fun e w' => IdsAt w (ids s) e w' := by
  obtain ⟨i0, hi, hz0, hz1, hz2⟩ : ∃ i, Try.prog.info? 3 = some i ∧ i.zero = some (.int .i64 0) ∧ i.size = 1 ∧ i.bytes = 8 := ⟨_, rfl, rfl, rfl, rfl⟩
  have HC := Lib.hid (iCopy h)
  have hn := h.n
  have HB := Lib.hid B
  clear h B
  obtain ⟨m, hm⟩ : ∃ m, m = s.length := ⟨_, rfl⟩
  have HM := Lib.hid hm
  rw [← hm] at hn
  clear hm
  go_enter Try.func33, Try.ntmps33
  go_wp2_with fail
  refine HC.out.mono ?_
  rintro e w1 ⟨c, D1, rfl, h1, hd1, hf1⟩
  have S0 := Lib.hid (show IdI f bf w w1 c s g (.slice none 0 0) m 0 from ⟨⟨D1, h1, hd1, fun q hq => by simp [Value.ownBlock] at hq⟩, own_nil _ _ _ _, hf1⟩)
  clear h1 hd1 hf1
  go_wp2_with fail
  go_loopw [3] (fun ov wr => ∃ (A : Option Addr) (k q : Nat), ov = .slice A k q ∧ k ≤ m ∧ Hid (IdI f bf w wr c s g (.slice A k q) m k)) (fun ov _ => m - (match ov with | .slice _ k _ => k | _ => 0))
  case atStart => exact ⟨none, 0, 0, rfl, Nat.zero_le _, S0⟩
  case round =>
    clear S0 HC
    obtain ⟨A, k, q, rfl, hk, HS⟩ := hrel
    obtain ⟨DD, h0, hd, hnd⟩ := HS.out.h
    have HL := Lib.hid (iLen h0)
    have hlen : (s.drop k).length = m - k := by rw [List.length_drop, HM.out]
    rw [hlen] at HL
    by_cases hkm : k < m
    · have HP := Lib.hid (iPop HB.out h0)
      obtain ⟨x, r, hxr⟩ : ∃ x r, s.drop k = x :: r := ⟨_, _, List.drop_eq_getElem_cons (by rw [← HM.out]; exact hkm)⟩
      have hr : s.drop (k + 1) = r := by
        have := congrArg List.tail hxr
        rwa [List.tail_drop, List.tail_cons] at this
      have hids : (ids s).take (k + 1) = (ids s).take k ++ [x.id] := by
        have e0 : s[k]? = some x := by
          have := congrArg (fun t : List (En Int) => t[0]?) hxr
          simpa using this
        have e1 : (ids s)[k]? = some x.id := by unfold ids; rw [List.getElem?_map, e0]; rfl
        rw [List.take_add_one, e1]; rfl
      rw [hxr] at HP
      have HE := Lib.hid (show topV (x :: r) = x.id ∧ topB (x :: r) = true from ⟨rfl, rfl⟩)
      rw [HE.out.1, HE.out.2, List.tail_cons, ← hr] at HP
      have HIDS := Lib.hid hids
      have HD := Lib.hid hd
      have HND := Lib.hid hnd
      have hmk : (0 : Int) < ((m - k : Nat) : Int) := by omega
      generalize x.id = xi at *
      clear h0 hd hnd hxr hr hids HE hlen
      go_wp2_with fail
      refine HL.out.mono ?_
      rintro e w2 ⟨rfl, rfl⟩
      go_wp2_with fail
      refine HP.out.mono ?_
      rintro e w2 ⟨rfl, D2, h2, hf2, hd2⟩
      have O2 := Lib.hid (show w2.ownsRow w.heap.size 3 1 (.slice A k q) k (cells .i64 ((ids s).take k)) from own_fr HS.out.own hf2 (fun z hz => HND.out z hz))
      have H2 := Lib.hid h2
      have F2 := Lib.hid (HS.out.fr.ownS hf2 (fun z hz => HD.out z hz))
      have D2N := Lib.hid (show ∀ z, D2 z → w.heap.size ≤ z from fun z hz => by
        rcases hd2 z hz with h1 | h1
        · exact HD.out z h1
        · have := HS.out.fr.size; omega)
      have D2V := Lib.hid (show ∀ z, (Value.slice A k q).ownBlock = some z → ¬ D2 z from fun z hz hc => by
        rcases hd2 z hc with h1 | h1
        · exact HND.out z hz h1
        · have := (HS.out.own.lt z hz).2; omega)
      have O3 := Lib.hid (O2.out.alloc (.cells #[.int .i64 xi] 3))
      have HR := Lib.hid (reads_blk w2 3 [.int .i64 xi] 1 1 rfl)
      have HB1 := Lib.hid (show (k + 1) * 8 ≤ 140737488355328 by have := hn.1; have := hn.2; omega)
      have HB0 := Lib.hid (show k + 1 ≤ maxLen by have := hn.1; have := hn.2; unfold maxLen; omega)
      have HONE := Lib.hid (show ∀ z ∈ [Value.int .i64 xi], z.oneCell' = true from fun z hz => by simp at hz; subst hz; rfl)
      have hbs := F2.out.size
      clear h2 hf2 hd2 HP HL
      go_wp2_with (at_builtin; refine wpList_append_any (w2.alloc (.cells #[.int .i64 xi] 3)) rfl (.tmp 17) (.tmp 19) 39 rfl w.heap.size 3 i0 (.int .i64 0) 1 8 Try.underlying39 hi hz0 hz1 hz2 rfl (by omega) (.slice A k q) k _ rfl O3.out _ (some ⟨w2.heap.size, 0, none⟩) 1 1 _ rfl HR.out HONE.out HB0.out HB1.out (by simp; omega) ?_)
      intro v' w3 hown3 hg3 hloc3
      obtain ⟨A3, q3, rfl⟩ := own_form' hown3
      have F3 : Fr (fun z => (Value.slice A k q).ownBlock = some z) w2 w3 := ((Fr.refl _ w2).alloc _).trans (Fr.of_grown (S := fun z => (Value.slice A k q).ownBlock = some z) hg3 (fun z hz => hz)) (fun _ _ z => z)
      have HN := Lib.hid (show IdI f bf w w3 c s g (.slice A3 (k + 1) q3) m (k + 1) from by
        refine ⟨⟨D2, H2.out.fr F3 (fun z hz hc => D2V.out z hc hz), D2N.out, fun z hz hc => ?_⟩, ?_, F2.out.ownS F3 (fun z hz => (O2.out.lt z hz).1)⟩
        · rcases hloc3 with h1 | h1
          · exact D2V.out z (by rw [← h1]; exact hz) hc
          · rw [h1] at hz
            have h4 := H2.out.lt hc
            injection hz with hz
            have h5 := World.size_alloc w2 (.cells #[.int .i64 xi] 3)
            omega
        · rw [HIDS.out, cells_snoc]; exact hown3)
      clear F3 hown3 hg3 hloc3
      go_wp2
      go_roundw
      case rel => exact ⟨A3, k + 1, q3, rfl, hkm, HN⟩
      case measure => (dsimp only; omega)
    · obtain rfl : k = m := by omega
      have hz : ((k - k : Nat) : Int) = 0 := by omega
      rw [hz] at HL
      clear h0 hd hnd hlen hz
      go_wp2_with fail
      refine HL.out.mono ?_
      rintro e w2 ⟨rfl, rfl⟩
      go_wp2
      go_ret
      refine ⟨A, k, q, rfl, by rw [HM.out]; simp [ids], ?_, HS.out.fr⟩
      have := HS.out.own
      rwa [List.take_of_length_le (by rw [HM.out]; simp [ids])] at this
end Go.Proofs.Ytbndmelkdamgjaa
