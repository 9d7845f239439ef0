/- The contract of Remove. -/
import Derived.Test.YtgkpmckbdagkcaaPu
namespace Go.Proofs.Ytgkpmckbdagkcaa
open Go.RowKit Go.Wk

/-- A call that turns a list of deadlines. -/
def Turned (w : World) (b bm : Nat) (v : Value) (s : LS) (r : Value) (e : Ending) (w' : World) : Prop := e = .returned r ∧ ∃ v', LateV w' b bm v' s ∧ Fr (dom b bm v) w w' ∧ ∀ k, v'.ownBlock = some k → v.ownBlock = some k ∨ w.heap.size ≤ k
theorem frozen_blk {w : World} {g : Nat} {t : TypeId} {cs : Array Value} (h : Blk w g t cs) (i : Nat) : w.frozen? ⟨g, i, none⟩ = false := h.frozen i

theorem own_len (A : Option Addr) (n c n' c' : Nat) : (Value.slice A n c).ownBlock = (Value.slice A n' c').ownBlock := by cases A <;> rfl
theorem fr_cell1 (b i : Nat) (u : Value) (w : World) : Fr (· = b) w (w.setCell ⟨b, i, none⟩ u) := (Fr.refl (fun k => k = b) w).setCell (p := ⟨b, i, none⟩) (.inr rfl) u
/-- Delete at a row of the list's own. -/
theorem del_own (A : Option Addr) (n c i j : Nat) (l : List Int) (w : World) (ho : w.ownsRow 0 3 1 (.slice A n c) n (cells .i64 l)) (hij : i ≤ j) (hj : j ≤ n) (hn : n ≤ 100000) :
    Calls Try.prog 41 #[.slice A n c, .int .i64 i, .int .i64 j] w fun e w' => Deleted w A c (i + (n - j)) (delL (cells .i64 l) i j) e w' := by
  have hll : (cells .i64 l).length = n := by have := ho.1; omega
  by_cases h : i = j
  · subst h
    have := del_none A n c i (cells .i64 l) w ho hj hn
    have e1 : i + (n - i) = n := by omega
    have e2 : delL (cells .i64 l) i i = cells .i64 l := List.take_append_drop _ _
    rw [e1, e2]; exact this
  · obtain ⟨g, q, he, _⟩ := own_some ho (by omega)
    cases he
    rcases ho.2 with ⟨h1, _⟩ | ⟨g', cap, cur, h1, _, hb, hnc, hcm, hcs, htk⟩
    · cases h1
    · injection h1 with h1 _ h2
      cases h1
      subst h2
      exact del_some g n c i j l w cur hb (by omega) (fun k hk => by rw [← htk, List.getElem?_take, if_pos (by omega), Array.getElem?_toList]) hll (by omega) hj hnc hcm hn

set_option maxRecDepth 100000 in
set_option maxHeartbeats 4000000 in
theorem Remove_any (b bm : Nat) (v : Value) (s : LS) (x : Int) (hx : fits x) (w : World) (h : LateV w b bm v s) : Calls Try.prog 20 #[.pointer (some ⟨b, 0, none⟩), .int .i64 x] w fun e w' => Turned w b bm v (if getB s x = true then remS s x else s) (.int .i64 (remE s x)) e w' := by
  obtain ⟨A, c, rfl, _⟩ := h.form
  obtain ⟨c0, c1, c2⟩ := h.cells
  have HH := Lib.hid h
  have HV := Lib.hid (valid_any b bm _ s w h)
  have hl := h.mp.look_ok Try.underlying3 Try.underlying48 (zeroM w) hx
  have hgb : getB s x = (mkOf s.l x).isSome := rfl
  rw [← hgb] at hl
  clear hgb
  by_cases hg : getB s x = true
  · obtain ⟨i, hi, hid⟩ := getB_at hg
    have hmk := mkOf_get h.ok hi
    rw [hid] at hmk
    rw [hmk, hg] at hl
    have HE := Lib.hid (show remE s x = 0 by unfold remE; rw [if_pos hg])
    rw [if_pos hg, HE.out]
    simp only [Option.getD_some] at hl
    have HID := Lib.hid (idx_self h.ok hi)
    have HRL := Lib.hid (remL_at h.ok hi)
    rw [hid] at HRL
    obtain ⟨m, hm⟩ : ∃ m, m = (s.l.getD i LE.zero).mk_ := ⟨_, rfl⟩
    rw [← hm] at hl HID
    obtain ⟨m1, m2⟩ := m
    unfold val2 at hl
    dsimp only at hl
    have HI := Lib.hid hi
    obtain ⟨w0, hw0⟩ : ∃ w0, w0 = w.alloc (.cells #[.int .i64 m1, .int .i64 m2] 60) := ⟨_, rfl⟩
    have F0 := Lib.hid (show Fr No w w0 by rw [hw0]; exact (Fr.refl No w).alloc _)
    have BM := Lib.hid (show Blk w0 w.heap.size 60 #[.int .i64 m1, .int .i64 m2] by rw [hw0]; exact Blk.new _ _ _)
    have HV0 := Lib.hid (h.fr F0.out (fun _ _ z => z))
    have HF := Lib.hid (find_any b bm _ s (m1, m2) w0 HV0.out)
    rw [HID.out] at HF
    obtain ⟨t0, t1⟩ := blk2 BM.out
    have HW := Lib.hid hw0
    have hlen := h.len
    clear hw0 hg hmk hid hm h
    unfold val2 at HF
    go_enter Try.func20, Try.ntmps20
    go_wp2_with fail
    refine HV.out.mono ?_
    rintro e w1 ⟨rfl, rfl⟩
    go_wp2_with fail
    rw [← HW.out]
    refine HF.out.mono ?_
    rintro e w1 ⟨rfl, hf⟩
    have HV1 := Lib.hid (HV0.out.fr hf (fun _ _ z => z))
    have F1 := Lib.hid (F0.out.then0 hf)
    have d1 := HV1.out.cells.2.1
    have d0 := HV1.out.cells.1
    clear hf
    obtain ⟨n, hn⟩ : ∃ n, n = s.l.length := ⟨_, rfl⟩
    have HN := Lib.hid hn
    rw [← hn] at d1 hi hlen
    have hw2 : IntKind.i64.wrap ((i : Int) + 1) = (i : Int) + 1 := by simp only [IntKind.wrap_i64]; omega
    have HD := Lib.hid (del_own A n c i (i + 1) (ids s.l) w1 (by rw [hn]; exact HV1.out.own) (by omega) (by omega) (by omega))
    rw [show ((i + 1 : Nat) : Int) = (i : Int) + 1 by omega] at HD
    clear hn
    go_wp2_with fail
    refine HD.out.mono ?_
    rintro e w2 ⟨rfl, ho2, hf2⟩
    have HF2 := Lib.hid hf2
    have HO2 := Lib.hid ho2
    have hne := HV1.out.ne
    have hfS : ∀ k, (Value.slice A (i + (n - (i + 1))) c).ownBlock = some k → (Value.slice A s.l.length c).ownBlock = some k := fun k hk => by rw [own_len A _ c (i + (n - (i + 1))) c]; exact hk
    have B2 := Lib.hid (HV1.out.blk.fr hf2 (fun hk => hne.2.1 b (hfS b hk) rfl))
    have M2 := Lib.hid (HV1.out.mp.fr hf2 (fun hk => hne.2.2 bm (hfS bm hk) rfl))
    have e0 := B2.out.cell 0
    have e1 := B2.out.cell 1
    have z1 := B2.out.frozen 1
    simp only [List.getElem?_toArray, List.getElem?_cons_zero, List.getElem?_cons_succ] at e0 e1
    clear ho2 hf2 c0 c1 c2 d0 d1 t0 t1
    have F3 := Lib.hid (fr_cell1 b 1 (.slice A (i + (n - (i + 1))) c) w2)
    have B3 := Lib.hid (B2.out.set_ 1 (.slice A (i + (n - (i + 1))) c))
    have O3 := Lib.hid (own_fr HO2.out F3.out (fun k hk e => hne.2.1 k (hfS k hk) e))
    obtain ⟨w4, hdel, m4, hf4⟩ := (M2.out.fr F3.out hne.1).del Try.underlying3 Try.underlying48 hx 0
    have e0' := B3.out.cell 0
    simp only [List.setIfInBounds_toArray, List.set_cons_succ, List.set_cons_zero, List.getElem?_toArray, List.getElem?_cons_zero] at e0'
    have B4 := Lib.hid (B3.out.fr hf4 (fun h => hne.1 h.symm))
    have O4 := Lib.hid (own_fr O3.out hf4 (fun k hk e => hne.2.2 k (hfS k hk) e))
    have M4 := Lib.hid m4
    have F4 := Lib.hid hf4
    have HNE := Lib.hid hne
    have HFS := Lib.hid hfS
    have HOK := Lib.hid HV1.out.ok
    clear hne hfS m4 hf4
    go_wp2_with fail
    go_ret
    refine ⟨rfl, .slice A (i + (n - (i + 1))) c, ⟨?_, ?_, ?_, ?_⟩, ?_, fun k hk => .inl (HFS.out k hk)⟩
    · have := B4.out
      simpa [remS] using this
    · have e5 : (remS s x).l.length = i + (n - (i + 1)) := by
        show (remL s.l x).length = _
        rw [HRL.out, List.length_append, List.length_take, List.length_drop, ← HN.out]; omega
      show World.ownsRow _ 0 3 1 _ (remS s x).l.length (cells .i64 (ids (remL s.l x)))
      rw [e5, HRL.out, ids_del]
      exact O4.out
    · have := M4.out
      have e6 : mkOf (remS s x).l = fun z => if z = x then none else mkOf s.l z := funext (fun z => mkOf_rem s.l x z)
      show MapF _ _ _ _ s.seq.toNat (mkOf (remS s x).l)
      rw [e6]; exact this
    · exact sub_ok HOK.out (List.filter_sublist)
    · refine Fr.trans (S := dom b bm (.slice A s.l.length c)) (T := dom b bm (.slice A s.l.length c)) ?_ (F4.out.mono (fun k hk => .inr (.inl hk))) (fun _ _ z => z)
      refine Fr.trans (S := dom b bm (.slice A s.l.length c)) (T := dom b bm (.slice A s.l.length c)) ?_ (F3.out.mono (fun k hk => .inl hk)) (fun _ _ z => z)
      exact Fr.trans (S := dom b bm (.slice A s.l.length c)) (T := dom b bm (.slice A s.l.length c)) (F1.out.mono (fun _ z => z.elim)) (HF2.out.mono (fun k hk => .inr (.inr (HFS.out k hk)))) (fun _ _ z => z)
  · have hgf : getB s x = false := by simpa using hg
    have HE := Lib.hid (show remE s x = 5 by unfold remE; rw [if_neg hg])
    rw [if_neg hg, HE.out]
    rw [hgf] at hl
    generalize (mkOf s.l x).getD (0, 0) = p at *
    obtain ⟨p1, p2⟩ := p
    unfold val2 at hl
    dsimp only at hl
    clear hg hgf h
    go_enter Try.func20, Try.ntmps20
    go_wp2_with fail
    refine HV.out.mono ?_
    rintro e w1 ⟨rfl, rfl⟩
    go_wp2
    go_ret
    exact ⟨rfl, _, HH.out.fr ((Fr.refl No _).alloc _) (fun _ _ z => z), ((Fr.refl No _).alloc _).mono (fun _ z => z.elim), fun k hk => .inl hk⟩
end Go.Proofs.Ytgkpmckbdagkcaa
