/- The document's Remove, Copy. -/
import Derived.Test.YtcjcoigjedcieaaRe
import Derived.Test.YtcjcoigjedcieaaAg
namespace Go.Proofs.Ytcjcoigjedcieaa
open Go.RowKit Go.Wk

theorem reads_pre {w : World} {B m : Nat} {A : Option Addr} {l : List IV} (h : Reads w B 4 A m (icells l)) {k : Nat} (hk : k ≤ m) : Reads w B 4 A k (icells (l.take k)) := by
  have hl := reads_ilen h
  refine ⟨by rw [icells_len, List.length_take]; omega, fun hp => ?_⟩
  obtain ⟨ad, hA, hb, hc⟩ := h.2 (by omega)
  refine ⟨ad, hA, hb, fun j u hu => hc j u ?_⟩
  rw [← icells_take l k, List.getElem?_take] at hu
  split at hu
  · exact hu
  · cases hu
set_option maxRecDepth 100000 in
set_option maxHeartbeats 8000000 in
theorem rRemove_any (r : Nat) (v : Value) (t : QS) (x : Int) (hnd : t.l.Pairwise (fun a b => a.id ≠ b.id)) (w : World) (h : RV w r v t) : Calls Try.prog 37 #[.pointer (some ⟨r, 0, none⟩), .int .i64 x] w fun e w' => RTurned w r v (remS t x) (.int .i64 (remE t x)) e w' := by
  obtain ⟨A, c, rfl, hnc⟩ := h.form
  obtain ⟨c0, c1, c2, c3, c4⟩ := h.cells
  have HH := Lib.hid h
  have HV := Lib.hid (rmade_any r _ t w h)
  have HF := Lib.hid (rfind_any r _ t x w h)
  by_cases hg : hasB t x = true
  · obtain ⟨i0, hi, hz0, hz1, hz2⟩ : ∃ i, Try.prog.info? 31 = some i ∧ i.zero = some (.agg #[.int .i64 0, .int .i64 0, .int .i64 0, .int .i64 0]) ∧ i.size = 4 ∧ i.bytes = 32 := ⟨_, rfl, rfl, rfl, rfl⟩
    rw [remE_some hg]
    have hlt : t.l.findIdx (fun e => e.id == x) < t.l.length := by
      obtain ⟨j, hj, hid⟩ := hasB_at hg
      exact List.findIdx_lt_length_of_exists ⟨t.l.getD j IV.zero, getD_mem' hj, by simpa using hid⟩
    obtain ⟨k, hk⟩ : ∃ k, k = t.l.findIdx (fun e => e.id == x) := ⟨_, rfl⟩
    have hidx : idxF (fun e => e.id == x) t.l = (k : Int) := by unfold idxF; rw [if_pos hlt, hk]
    rw [hidx] at HF
    rw [← hk] at hlt
    have hidk : (t.l.getD k IV.zero).id = x := by
      have := List.findIdx_getElem (xs := t.l) (p := fun e => e.id == x) (w := by rw [← hk]; exact hlt)
      rw [getD_get hlt]
      simpa [hk] using this
    have HCUT := Lib.hid (show remL t.l x = t.l.take k ++ t.l.drop (k + 1) by rw [← hidk]; exact rem_cut hnd hlt)
    have hn := h.n
    obtain ⟨g, q, he, _⟩ := own_some h.own (by omega)
    cases he
    have hgl := (h.own.lt g rfl).2
    obtain ⟨n, hnn⟩ : ∃ n, n = t.l.length := ⟨_, rfl⟩
    have HN := Lib.hid hnn
    rw [← hnn] at hlt hn hnc c1
    obtain ⟨A2, hrun, hrd⟩ := drop_run g n c (k + 1) (by omega) hnc (by omega)
    rw [show ((k + 1 : Nat) : Int) = (k : Int) + 1 by omega] at hrun
    have HRD := Lib.hid hrd
    have R0 := Lib.hid (show Reads w w.heap.size 4 (some ⟨g, 0, none⟩) n (icells t.l) by rw [hnn]; exact Reads.of_own h.own)
    have RP := Lib.hid (reads_pre R0.out (k := k) (by omega))
    have HB1 := Lib.hid (show (0 + k) * 32 ≤ 140737488355328 by omega)
    have HB0 := Lib.hid (show 0 + k ≤ maxLen by unfold maxLen; omega)
    have hkc : (k : Int) ≤ (c : Int) := by omega
    have hkc2 : k ≤ c := by omega
    have hk0 : decide ((k : Int) < 0) = false := by simp
    obtain ⟨mm, hmm⟩ : ∃ mm, n - (k + 1) = mm := ⟨_, rfl⟩
    obtain ⟨cc, hcc⟩ : ∃ cc, c - (k + 1) = cc := ⟨_, rfl⟩
    rw [hmm, hcc] at hrun
    rw [hmm] at HRD
    have HMM := Lib.hid hmm
    have HB3 := Lib.hid (show (k + mm) * 32 ≤ 140737488355328 by omega)
    have HB2 := Lib.hid (show k + mm ≤ maxLen by unfold maxLen; omega)
    clear hg hidk hidx hk hnd hnn hrd h hmm hcc
    go_enter Try.func37, Try.ntmps37
    go_wp2_with fail
    refine HV.out.mono ?_
    rintro e w1 ⟨rfl, rfl⟩
    go_wp2_with fail
    refine HF.out.mono ?_
    rintro e w1 ⟨rfl, rfl⟩
    go_wp2_with (at_builtin; refine wpList_append_any w rfl (.tmp 15) (.tmp 21) 26 rfl 0 31 i0 (.agg #[.int .i64 0, .int .i64 0, .int .i64 0, .int .i64 0]) 4 32 Try.underlying26 hi hz0 hz1 hz2 rfl (by omega) (.slice none 0 0) 0 [] rfl (own_nil _ _ _ _) w.heap.size (some ⟨g, 0, none⟩) k c (icells (t.l.take k)) rfl RP.out (icells_one _) HB0.out HB1.out (Nat.zero_le _) ?_)
    intro v1 w1 hown1 hg1 hloc1
    have F1 := Lib.hid (show Fr No w w1 from Fr.of_grown (S := No) hg1 (fun k hk => by cases hk))
    have O1 := Lib.hid hown1
    have HLOC := Lib.hid (show ∀ q, v1.ownBlock = some q → w.heap.size ≤ q from fun q hq => by
      rcases hloc1 with h1 | h1
      · rw [h1] at hq; cases hq
      · rw [h1] at hq; cases hq; exact Nat.le_refl _)
    have V1 := Lib.hid (HH.out.fr0 F1.out)
    obtain ⟨d0, d1, d2, d3, d4⟩ := V1.out.cells
    rw [← HN.out] at d1
    have z1 := V1.out.blk.frozen 1
    have RS := Lib.hid (HRD.out w1 w1.heap.size t.l (R0.out.fr0 F1.out))
    clear hown1 hg1 hloc1 c0 c1 c2 c3 c4
    go_wp2_with (at_builtin; refine wpList_append_any w1 rfl (.tmp 24) (.tmp 31) 26 rfl 0 31 i0 (.agg #[.int .i64 0, .int .i64 0, .int .i64 0, .int .i64 0]) 4 32 Try.underlying26 hi hz0 hz1 hz2 rfl (by omega) v1 k (icells (t.l.take k)) rfl O1.out w1.heap.size A2 mm cc (icells (t.l.drop (k + 1))) rfl RS.out (icells_one _) HB2.out HB3.out (Nat.zero_le _) ?_)
    intro v2 w2 hown2 hg2 hloc2
    rw [← icells_app, ← HCUT.out] at hown2
    have F2 := Lib.hid (show Fr No w w2 from F1.out.ownS (T := fun q => v1.ownBlock = some q) (Fr.of_grown hg2 (fun q hq => hq)) (fun q hq => HLOC.out q hq))
    have V2 := Lib.hid (HH.out.fr0 F2.out)
    have e1 := V2.out.blk.cell 1
    have y1 := V2.out.blk.frozen 1
    simp only [List.getElem?_toArray, List.getElem?_cons_zero, List.getElem?_cons_succ] at e1
    have HLOC2 := Lib.hid (show ∀ q, v2.ownBlock = some q → w.heap.size ≤ q from fun q hq => by
      rcases hloc2 with h1 | h1
      · rw [h1] at hq; exact HLOC.out q hq
      · rw [h1] at hq; cases hq; exact F1.out.size)
    have O2 := Lib.hid hown2
    have FS := Lib.hid (fr_cell1 r 1 v2 w2)
    have B3 := Lib.hid (V2.out.blk.set_ 1 v2)
    have hrl := HH.out.blk.lt
    obtain ⟨A3, c3, rfl⟩ := own_form' hown2
    clear hown2 hg2 hloc2 d0 d1 d2 d3 d4
    go_wp2
    go_ret
    have hlen : (remL t.l x).length = k + mm := by rw [HCUT.out, List.length_append, List.length_take, List.length_drop, ← HN.out]; have := HMM.out; omega
    refine ⟨rfl, .slice A3 (k + mm) c3, ⟨?_, ?_, ?_, HH.out.sz, HH.out.ad⟩, ?_, fun q hq => .inr (HLOC2.out q hq)⟩
    · have := B3.out
      simpa [remS] using this
    · show World.ownsRow _ 0 31 4 _ (remL t.l x).length (icells (remL t.l x))
      rw [hlen]
      exact own_fr O2.out FS.out (fun q hq e => by have := HLOC2.out q hq; omega)
    · show (remL t.l x).length ≤ 1024
      exact Nat.le_trans (List.filter_sublist).length_le HH.out.n
    · exact (F2.out.mono (T := domR r _) (fun _ z => z.elim)).trans (FS.out.mono (T := domR r _) (fun q hq => .inl hq)) (fun _ _ z => z)
  · rw [Bool.not_eq_true] at hg
    rw [remE_none hg, remS_none hg]
    have hidx : idxF (fun e => e.id == x) t.l = -1 := by
      have := idxF_has t.l x
      have h2 : (byId t.l x).isSome = false := hg
      rw [h2] at this
      unfold idxF at *
      split at this
      · simp at this
      · rename_i hh; rw [if_neg hh]
    rw [hidx] at HF
    clear hg hidx hnd h hnc
    go_enter Try.func37, Try.ntmps37
    go_wp2_with fail
    refine HV.out.mono ?_
    rintro e w1 ⟨rfl, rfl⟩
    go_wp2_with fail
    refine HF.out.mono ?_
    rintro e w1 ⟨rfl, rfl⟩
    go_wp2
    go_ret
    exact ⟨rfl, _, HH.out, Fr.refl _ _, fun k hk => .inl hk⟩
end Go.Proofs.Ytcjcoigjedcieaa
