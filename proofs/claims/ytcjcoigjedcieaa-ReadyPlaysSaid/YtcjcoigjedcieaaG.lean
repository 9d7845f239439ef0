/- The contracts of take and Remove. -/
import Derived.Test.YtcjcoigjedcieaaE
namespace Go.Proofs.Ytcjcoigjedcieaa
open Go.RowKit Go.Wk

/-- A call that turns a queue. -/
def Turned (w : World) (b bm : Nat) (v : Value) (s : QS) (r : Value) (e : Ending) (w' : World) : Prop := e = .returned r ∧ ∃ v', QV w' b bm v' s ∧ Fr (dom b bm v) w w' ∧ ∀ k, v'.ownBlock = some k → v.ownBlock = some k ∨ w.heap.size ≤ k
theorem own_len (A : Option Addr) (n c n' c' : Nat) : (Value.slice A n c).ownBlock = (Value.slice A n' c').ownBlock := by cases A <;> rfl
/-- Delete at a row of the queue's own. -/
theorem del_own (A : Option Addr) (n c i j : Nat) (l : List IV) (w : World) (ho : w.ownsRow 0 31 4 (.slice A n c) n (icells l)) (hij : i ≤ j) (hj : j ≤ n) (hn : n ≤ 100000) :
    Calls Try.prog 28 #[.slice A n c, .int .i64 i, .int .i64 j] w fun e w' => Deleted w A c (i + (n - j)) (delL (icells l) (i * 4) (j * 4)) e w' := by
  have hll : (icells l).length = n * 4 := by have := ho.1; omega
  by_cases h : i = j
  · subst h
    have := del_none A n c i (icells l) w ho hj hn
    have e1 : i + (n - i) = n := by omega
    have e2 : delL (icells l) (i * 4) (i * 4) = icells l := List.take_append_drop _ _
    rw [e1, e2]; exact this
  · obtain ⟨g, q, he, _⟩ := own_some ho (by omega)
    cases he
    rcases ho.2 with ⟨h1, _⟩ | ⟨g', cap, cur, h1, _, hb, hnc, hcm, hcs, htk⟩
    · cases h1
    · injection h1 with h1 _ h2
      cases h1
      subst h2
      exact del_some g n c i j l w cur hb (by omega) (fun k hk => by rw [← htk, List.getElem?_take, if_pos (by omega), Array.getElem?_toList]) hll (by omega) hj hnc hcm hn

set_option maxRecDepth 100000 in
set_option maxHeartbeats 4000000 in
theorem take_any (b bm : Nat) (v : Value) (s : QS) (i : Nat) (hi : i < s.l.length) (w : World) (h : QV w b bm v s) : Calls Try.prog 49 #[.pointer (some ⟨b, 0, none⟩), .int .i64 i] w fun e w' => Turned w b bm v (s.cut i) (.tuple #[]) e w' := by
  obtain ⟨A, c, rfl, _⟩ := h.form
  obtain ⟨c0, c1, c2, c3, c4⟩ := h.cells
  have HH := Lib.hid h
  have HI := Lib.hid hi
  obtain ⟨g, rfl, hg, k0, _, _, _⟩ := h.qp.item hi
  have hfit : fits (s.l.getD i IV.zero).id := (h.ok.fit _ (getD_mem' hi)).id
  obtain ⟨w2, hdel, hm2, hf2⟩ := (h.mp.fr (Fr.refl No w).drew (fun z => z)).del Try.underlying3 Try.underlying63 hfit 0
  have FD := Lib.hid (show Fr (· = bm) w w2 from ((Fr.refl (· = bm) w).drew).trans hf2 (fun _ _ z => z))
  have hne := h.ne
  have M2 := Lib.hid (show MapF w2 Try.prog 3 bm s.added.toNat (byId (s.cut i).l) from by
    have e6 : byId (s.cut i).l = fun z => if z = (s.l.getD i IV.zero).id then none else byId s.l z := funext (fun z => by
      rw [← remS_at h.ok hi]; exact byId_rem s.l _ z)
    rw [e6]; exact hm2)
  have B2 := Lib.hid (h.blk.fr FD.out (fun e => hne.1 e.symm))
  have O2 := Lib.hid (own_fr h.own FD.out (fun k hk e => hne.2.2 k hk e))
  have HN := Lib.hid hne
  generalize (s.l.getD i IV.zero).id = x at *
  have hlen := h.ok.n
  have hnl : (i : Int) < (s.l.length : Int) := by omega
  have e0 := B2.out.cell 0
  have z0 := B2.out.frozen 0
  simp only [List.getElem?_toArray, List.getElem?_cons_zero] at e0
  have HD := Lib.hid (del_own (some ⟨g, 0, none⟩) s.l.length c i (i + 1) s.l w2 O2.out (by omega) (by omega) (by omega))
  rw [show ((i + 1 : Nat) : Int) = (i : Int) + 1 by omega] at HD
  have hw2 : IntKind.i64.wrap ((i : Int) + 1) = (i : Int) + 1 := by simp only [IntKind.wrap_i64]; omega
  have hw3 : wrap64 ((i : Int) + 1) = (i : Int) + 1 := by unfold wrap64; omega
  clear h hi hm2 hf2 hne hfit
  go_enter Try.func49, Try.ntmps49
  go_wp2
  go_region
  all_goals
    go_wp2_with fail
    refine HD.out.mono ?_
    rintro e w3 ⟨rfl, ho3, hf3⟩
    have hfS : ∀ k, (Value.slice (some ⟨g, 0, none⟩) (i + (s.l.length - (i + 1))) c).ownBlock = some k → (Value.slice (some ⟨g, 0, none⟩) s.l.length c).ownBlock = some k := fun k hk => hk
    have B3 := Lib.hid (B2.out.fr hf3 (fun hk => HN.out.2.1 b (hfS b hk) rfl))
    have M3 := Lib.hid (M2.out.fr hf3 (fun hk => HN.out.2.2 bm (hfS bm hk) rfl))
    have g0 := B3.out.cell 0
    have y0 := B3.out.frozen 0
    simp only [List.getElem?_toArray, List.getElem?_cons_zero] at g0
    have F4 := Lib.hid (fr_cell1 b 0 (.slice (some ⟨g, 0, none⟩) (i + (s.l.length - (i + 1))) c) w3)
    have B4 := Lib.hid (B3.out.set_ 0 (.slice (some ⟨g, 0, none⟩) (i + (s.l.length - (i + 1))) c))
    have O4 := Lib.hid (own_fr ho3 F4.out (fun k hk e => HN.out.2.1 k (hfS k hk) e))
    have M4 := Lib.hid (M3.out.fr F4.out HN.out.1)
    have F3 := Lib.hid hf3
    have HFS := Lib.hid hfS
    clear ho3 hf3 hfS e0 z0
    go_wp2_with fail
    go_end0
    refine ⟨rfl, .slice (some ⟨g, 0, none⟩) (i + (s.l.length - (i + 1))) c, ⟨?_, ?_, ?_, ?_⟩, ?_, fun k hk => .inl (HFS.out k hk)⟩
    · have := B4.out
      simpa [QS.cut] using this
    · rw [cut_len s HI.out, icells_cut]; exact O4.out
    · exact M4.out
    · exact cut_ok HH.out.ok i
    · refine Fr.trans (S := dom b bm (.slice (some ⟨g, 0, none⟩) s.l.length c)) (T := dom b bm (.slice (some ⟨g, 0, none⟩) s.l.length c)) ?_ (F4.out.mono (fun k hk => .inl hk)) (fun _ _ z => z)
      exact Fr.trans (S := dom b bm (.slice (some ⟨g, 0, none⟩) s.l.length c)) (T := dom b bm (.slice (some ⟨g, 0, none⟩) s.l.length c)) (FD.out.mono (fun _ z => .inr (.inl z))) (F3.out.mono (fun k hk => .inr (.inr (HFS.out k hk)))) (fun _ _ z => z)
end Go.Proofs.Ytcjcoigjedcieaa
