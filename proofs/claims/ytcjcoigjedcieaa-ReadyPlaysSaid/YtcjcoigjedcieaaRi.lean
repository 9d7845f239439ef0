/- The document's Copy; shows. -/
import Derived.Test.YtcjcoigjedcieaaRh
namespace Go.Proofs.Ytcjcoigjedcieaa
open Go.RowKit Go.Wk

def RNew (w : World) (t : QS) (e : Ending) (w' : World) : Prop := ∃ b v, e = .returned (.pointer (some ⟨b, 0, none⟩)) ∧ RV w' b v t ∧ (∀ k, domR b v k → w.heap.size ≤ k) ∧ Fr No w w'
set_option maxRecDepth 100000 in
set_option maxHeartbeats 8000000 in
theorem rCopy_any (r : Nat) (v : Value) (t : QS) (w : World) (h : RV w r v t) : Calls Try.prog 43 #[.pointer (some ⟨r, 0, none⟩)] w (RNew w t) := by
  obtain ⟨i0, hi, hz0, hz1, hz2⟩ : ∃ i, Try.prog.info? 31 = some i ∧ i.zero = some (.agg #[.int .i64 0, .int .i64 0, .int .i64 0, .int .i64 0]) ∧ i.size = 4 ∧ i.bytes = 32 := ⟨_, rfl, rfl, rfl, rfl⟩
  obtain ⟨A, c, rfl, hnc⟩ := h.form
  obtain ⟨c0, c1, c2, c3, c4⟩ := h.cells
  have HH := Lib.hid h
  have HV := Lib.hid (rmade_any r _ t w h)
  have hn := h.n
  have hbl := h.blk.lt
  obtain ⟨n, hnn⟩ : ∃ n, n = t.l.length := ⟨_, rfl⟩
  have HN := Lib.hid hnn
  rw [← hnn] at c1 hn hnc
  have R0 := Lib.hid (show Reads w w.heap.size 4 A n (icells t.l) by rw [hnn]; exact Reads.of_own h.own)
  have HB1 := Lib.hid (show (0 + n) * 32 ≤ 140737488355328 by omega)
  have HB0 := Lib.hid (show 0 + n ≤ maxLen by unfold maxLen; omega)
  clear h hnn
  go_enter Try.func43, Try.ntmps43
  go_wp2_with fail
  refine HV.out.mono ?_
  rintro e w1 ⟨rfl, rfl⟩
  go_wp2
  go_region
  all_goals
    obtain ⟨w1, hw1⟩ : ∃ w1, w1 = (w.alloc (.cells #[.bool true, .slice none 0 0, .int .i64 t.size, .int .i64 t.ag, .int .i64 t.added] 83)).drew := ⟨_, rfl⟩
    have F1 := Lib.hid (show Fr No w w1 by rw [hw1]; exact ((Fr.refl No w).alloc _).drew)
    have B1 := Lib.hid (show Blk w1 w.heap.size 83 #[.bool true, .slice none 0 0, .int .i64 t.size, .int .i64 t.ag, .int .i64 t.added] by rw [hw1]; exact (Blk.new _ _ _).drew)
    have HW := Lib.hid hw1
    have V1 := Lib.hid (HH.out.fr0 F1.out)
    clear c0 c1 c2 c3 c4 hw1
    go_wp2_with fail
    rw [← HW.out]
    obtain ⟨c0, c1, c2, c3, c4⟩ := V1.out.cells
    rw [← HN.out] at c1
    have d1 := B1.out.cell 1
    have z1 := B1.out.frozen 1
    simp only [List.getElem?_toArray, List.getElem?_cons_zero, List.getElem?_cons_succ] at d1
    have hw1l := B1.out.lt
    have R1 := Lib.hid (show Reads w1.drew w1.heap.size 4 A n (icells t.l) from (R0.out.fr0 F1.out).drew)
    go_region_law ((refine step_append_any _ rfl (.tmp 25) (.tmp 29) 26 rfl w.heap.size 31 i0 (.agg #[.int .i64 0, .int .i64 0, .int .i64 0, .int .i64 0]) 4 32 Try.underlying26 hi hz0 hz1 hz2 rfl (by omega) (.slice none 0 0) 0 [] (by simp [Act.eval]) (own_nil _ _ _ _) w1.heap.size A n c (icells t.l) (by simp [Act.eval]) R1.out (icells_one _) HB0.out HB1.out (show w.heap.size ≤ w1.drew.heap.size from F1.out.size) ?_; intro v' w2 hown2 hg2 hloc2; obtain ⟨A2, q2, rfl⟩ := own_form' hown2; have F2 : Fr No w1 w2 := (Fr.refl No w1).drew.trans (Fr.of_grown (S := No) hg2 (fun k hk => by cases hk)) (fun _ _ z => z); have B2 := B1.out.fr F2 (fun z => z); have g1 := B2.cell 1; have y1 := B2.frozen 1; simp only [List.getElem?_toArray, List.getElem?_cons_zero, List.getElem?_cons_succ] at g1))
    all_goals
      rw [Nat.zero_add, List.nil_append] at hown2
      rw [Nat.zero_add] at hloc2
      have HO2 := Lib.hid hown2
      have HL2 := Lib.hid (show ∀ q, (Value.slice A2 n q2).ownBlock = some q → w1.heap.size ≤ q from fun q hq => by
        rcases hloc2 with h1 | h1
        · rw [h1] at hq; cases hq
        · rw [h1] at hq; cases hq; exact Nat.le_refl _)
      have B3 := Lib.hid (B2.set_ 1 (.slice A2 n q2))
      have FS := Lib.hid (fr_cell1 w.heap.size 1 (.slice A2 n q2) w2)
      have FF := Lib.hid (F1.out.then0 F2)
      clear hown2 hg2 hloc2
      go_wp2
      go_ret
      refine ⟨w.heap.size, .slice A2 n q2, rfl, ⟨?_, ?_, HH.out.n, HH.out.sz, HH.out.ad⟩, fun k hk => ?_, FF.out.own FS.out (Nat.le_refl _)⟩
      · have := B3.out
        simpa using this
      · have h1 := own_fr HO2.out FS.out (fun q hq e => by have := HL2.out q hq; omega)
        have h2 := own_base h1 (Nat.zero_le _)
        rw [← HN.out]
        exact h2
      · rcases hk with rfl | hk
        · exact Nat.le_refl _
        · exact Nat.le_trans F1.out.size (HL2.out k hk)

/-- The document's queue and the blocks that are its own. -/
def RAt (w : World) (r : Nat) (E : Nat → Prop) (t : QS) : Prop := ∃ v, RV w r v t ∧ E = domR r v
theorem RAt.fr {S : Nat → Prop} {w w' : World} {r : Nat} {E : Nat → Prop} {t : QS} (h : RAt w r E t) (hf : Fr S w w') (hS : ∀ k, E k → ¬ S k) : RAt w' r E t := by
  obtain ⟨v, h, rfl⟩ := h
  exact ⟨v, h.fr hf hS, rfl⟩
theorem RAt.fr0 {w w' : World} {r : Nat} {E : Nat → Prop} {t : QS} (h : RAt w r E t) (hf : Fr No w w') : RAt w' r E t := h.fr hf (fun _ _ z => z)
theorem RAt.lt {w : World} {r : Nat} {E : Nat → Prop} {t : QS} (h : RAt w r E t) {k : Nat} (hk : E k) : k < w.heap.size := by
  obtain ⟨v, h, rfl⟩ := h; exact h.lt hk

set_option maxRecDepth 100000 in
set_option maxHeartbeats 8000000 in
theorem shows_any (b r : Nat) (D E : Nat → Prop) (s t : QS) (id : Int) (hid : fits id) (w : World) (hq : QAt w b D s) (hr : RAt w r E t) (h : Rel s t) :
    Calls Try.prog 44 #[.pointer (some ⟨b, 0, none⟩), .pointer (some ⟨r, 0, none⟩), .int .i64 id] w fun e w' => e = .returned (.bool true) ∧ Fr No w w' := by
  obtain ⟨v, hr, _⟩ := hr
  have HQ := Lib.hid (fun X (hX : Fr No w X) => hq.fr0 hX)
  have HR := Lib.hid (fun X (hX : Fr No w X) => hr.fr0 hX)
  have C1 := Lib.hid (Head_at b D s w hq)
  have C2 := Lib.hid (fun X (hX : Fr No w X) => rHead_rel h r v X (hr.fr0 hX))
  have C3 := Lib.hid (fun X (hX : Fr No w X) => Items_at b D s X (hq.fr0 hX))
  have C4 := Lib.hid (fun X (hX : Fr No w X) => rItems_rel h r v X (hr.fr0 hX))
  have C5 := Lib.hid (fun X (hX : Fr No w X) => Has_at b D s X (hq.fr0 hX) id hid)
  have C6 := Lib.hid (fun X (hX : Fr No w X) => rHas_any r v t id X (hr.fr0 hX))
  have C7 := Lib.hid (fun X (hX : Fr No w X) => Len_at b D s X (hq.fr0 hX))
  have C8 := Lib.hid (fun X (hX : Fr No w X) => rLen_any r v t X (hr.fr0 hX))
  have C9 := Lib.hid (fun X (hX : Fr No w X) => Room_at b D s X (hq.fr0 hX))
  have C10 := Lib.hid (fun X (hX : Fr No w X) => rRoom_any r v t X (hr.fr0 hX))
  rw [h.has] at C6
  rw [h.len] at C8
  rw [show roomV t = roomV s by unfold roomV; rw [h.size, h.len]] at C10
  have hn := h.ok.n
  generalize headV s = hv at *
  generalize headB s = hb at *
  generalize hasB s id = hh at *
  generalize roomV s = rv at *
  have h1 : (hv == hv) = true := by simp
  have h2 : (hb == hb) = true := by simp
  have h3 : (hh == hh) = true := by simp
  have h4 : (rv == rv) = true := by simp
  have h5 : ((s.l.length : Int) == (s.l.length : Int)) = true := by simp
  clear hq hr h hid HQ HR
  go_enter Try.func44, Try.ntmps44
  go_wp2_with fail
  refine C1.out.mono ?_
  rintro e w1 ⟨rfl, rfl⟩
  go_wp2_with fail
  refine (C2.out _ (Fr.refl _ _)).mono ?_
  rintro e w2 ⟨rfl, hf⟩
  have F2 := Lib.hid hf
  clear hf
  go_wp2_with fail
  refine (C3.out _ F2.out).mono ?_
  rintro e w3 ⟨G, gc, rfl, ho, _, hf⟩
  have F3 := Lib.hid (F2.out.then0 hf)
  have O3 := Lib.hid ho
  clear hf ho
  go_wp2_with fail
  refine (C4.out _ F3.out).mono ?_
  rintro e w4 ⟨G4, gc4, rfl, ho, _, hf⟩
  have F4 := Lib.hid (F3.out.then0 hf)
  have R3 := Lib.hid (Reads.of_own (own_fr O3.out hf (fun _ _ z => z)))
  have R4 := Lib.hid (Reads.of_own ho)
  have EQ := Lib.hid (equal_eq G G4 s.l.length gc s.l.length gc4 s.l w4 R3.out R4.out (by omega))
  clear hf ho
  go_wp2_with fail
  refine EQ.out.mono ?_
  rintro e w5 ⟨rfl, q, rfl⟩
  have F5 := Lib.hid (F4.out.drewN q)
  generalize w4.drewN q = w5 at *
  go_wp2_with fail
  refine (C5.out _ F5.out).mono ?_
  rintro e w6 ⟨rfl, hf⟩
  have F6 := Lib.hid (F5.out.then0 hf)
  clear hf
  go_wp2_with fail
  refine (C6.out _ F6.out).mono ?_
  rintro e w7 ⟨rfl, rfl⟩
  go_wp2_with fail
  refine (C7.out _ F6.out).mono ?_
  rintro e w7 ⟨rfl, rfl⟩
  go_wp2_with fail
  refine (C8.out _ F6.out).mono ?_
  rintro e w7 ⟨rfl, rfl⟩
  go_wp2_with fail
  refine (C9.out _ F6.out).mono ?_
  rintro e w7 ⟨rfl, q2, rfl⟩
  have F7 := Lib.hid (F6.out.drewN q2)
  generalize w6.drewN q2 = w7 at *
  go_wp2_with fail
  refine (C10.out _ F7.out).mono ?_
  rintro e w8 ⟨rfl, q3, rfl⟩
  have F8 := Lib.hid (F7.out.drewN q3)
  go_wp2
  go_ret
  exact ⟨rfl, F8.out⟩
end Go.Proofs.Ytcjcoigjedcieaa
