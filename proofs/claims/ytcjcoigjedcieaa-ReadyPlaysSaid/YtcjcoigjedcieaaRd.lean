/- The document's Push. -/
import Derived.Test.YtcjcoigjedcieaaRc
namespace Go.Proofs.Ytcjcoigjedcieaa
open Go.RowKit Go.Wk

def rpushS (t : QS) (x p u : Int) : QS := if pushE t x p u = 0 then t.app x p u else t
theorem rpush_fin {w w1 w2 : World} {r n c : Nat} {A : Option Addr} {v' : Value} {t : QS} {x p u q : Int} (h : RV w r (.slice A t.l.length c) t) (hq : t.added + 1 = q) (hs : t.added + 1 ≤ 1000000) (hl : t.l.length + 1 ≤ 1024) (hn : n = t.l.length)
    (F1 : Fr (· = r) w w1) (B1 : Blk w1 r 83 #[.bool true, .slice A n c, .int .i64 t.size, .int .i64 t.ag, .int .i64 q]) (F2 : Fr (fun k => (Value.slice A n c).ownBlock = some k) w1 w2)
    (KO : w2.ownsRow 0 31 4 v' (n + 1) (icells t.l ++ [.int .i64 x, .int .i64 p, .int .i64 u, .int .i64 q])) (KN : ∀ k, v'.ownBlock = some k → (Value.slice A n c).ownBlock = some k ∨ w1.heap.size ≤ k) :
    RTurned w r (.slice A t.l.length c) (t.app x p u) (.int .i64 0) (.returned (.int .i64 0)) (w2.setCell ⟨r, 1, none⟩ v') := by
  subst hn
  subst hq
  have hne := h.ne
  have hr := h.blk.lt
  have hs1 := F1.size
  have B2 := B1.fr F2 (fun e => hne r e rfl)
  have FS := fr_cell1 r 1 v' w2
  have B3 := B2.set_ 1 v'
  refine ⟨rfl, v', ⟨?_, ?_, ?_, h.sz, ?_⟩, ?_, fun k hk => (KN k hk).imp_right (fun h' => Nat.le_trans hs1 h')⟩
  · simpa [QS.app] using B3
  · have := own_fr KO FS (fun k hk e => by rcases KN k hk with h1 | h1; exact hne k h1 e; omega)
    show World.ownsRow _ 0 31 4 v' (t.l ++ [_]).length (icells (t.l ++ [_]))
    rw [List.length_append, List.length_singleton, icells_app]
    exact this
  · show (t.l ++ [_]).length ≤ 1024
    rw [List.length_append, List.length_singleton]; exact hl
  · have := h.ad
    show 0 ≤ t.added + 1 ∧ t.added + 1 ≤ 1000000
    omega
  · have T : ∀ b0 : Nat, b0 < w.heap.size → domR r (.slice A t.l.length c) b0 → domR r (.slice A t.l.length c) b0 := fun _ _ z => z
    have f1 := (F1.mono (T := domR r (.slice A t.l.length c)) (fun k hk => .inl hk)).trans (F2.mono (T := domR r (.slice A t.l.length c)) (fun k hk => .inr hk)) T
    exact f1.trans (FS.mono (T := domR r (.slice A t.l.length c)) (fun k hk => .inl hk)) T

set_option maxRecDepth 100000 in
set_option maxHeartbeats 8000000 in
theorem rPush_ok (r : Nat) (v : Value) (t : QS) (x p u : Int) (hs : t.added + 1 ≤ 1000000) (w : World) (h : RV w r v t) (h1 : ¬ p < 0) (h2 : ¬ 100 < p) (h3 : ¬ u < 0) (h4 : ¬ 253402300799 < u) (h5 : hasB t x = false) (h6 : ¬ t.size ≤ t.l.length) :
    Calls Try.prog 36 #[.pointer (some ⟨r, 0, none⟩), .int .i64 x, .int .i64 p, .int .i64 u] w fun e w' => RTurned w r v (t.app x p u) (.int .i64 0) e w' := by
  obtain ⟨i0, hi, hz0, hz1, hz2⟩ : ∃ i, Try.prog.info? 31 = some i ∧ i.zero = some (.agg #[.int .i64 0, .int .i64 0, .int .i64 0, .int .i64 0]) ∧ i.size = 4 ∧ i.bytes = 32 := ⟨_, rfl, rfl, rfl, rfl⟩
  obtain ⟨A, c, rfl, _⟩ := h.form
  have HV := Lib.hid (rmade_any r _ t w h)
  have HHAS := Lib.hid (rHas_any r _ t x w h)
  rw [h5] at HHAS
  have HH := Lib.hid h
  have b1 : decide (p < 0) = false := by simp; omega
  have b2 : decide (100 < p) = false := by simp; omega
  have b3 : decide (u < 0) = false := by simp; omega
  have b4 : decide (253402300799 < u) = false := by simp; omega
  have b5 : ((t.l.length : Int) == t.size) = false := by simp; omega
  have hsz := h.sz
  have HL := Lib.hid (show t.l.length + 1 ≤ 1024 by omega)
  have hn := h.n
  have ha := h.ad
  have hw1 : IntKind.i64.wrap (t.added + 1) = t.added + 1 := by simp only [IntKind.wrap_i64]; omega
  obtain ⟨q, hq⟩ : ∃ q, t.added + 1 = q := ⟨_, rfl⟩
  have HQ := Lib.hid hq
  obtain ⟨c0, c1, c2, c3, c4⟩ := h.cells
  have HS := Lib.hid hs
  clear h h1 h2 h3 h4 h5 h6 hsz
  go_enter Try.func36, Try.ntmps36
  go_wp2_with fail
  refine HV.out.mono ?_
  rintro e w0 ⟨rfl, rfl⟩
  go_wp2_with fail
  refine HHAS.out.mono ?_
  rintro e w0 ⟨rfl, rfl⟩
  go_wp2
  go_quiet (fail)
  have Q2 := Lib.hid (HH.out.fr0 ((Fr.refl No w).drewN nq))
  have FQ := Lib.hid ((Fr.refl No w).drewN nq)
  clear c0 c1 c2 c3 c4
  generalize w.drewN nq = wq at *
  obtain ⟨c0, c1, c2, c3, c4⟩ := Q2.out.cells
  have z4 := Q2.out.blk.frozen 4
  have hbl := Q2.out.blk.lt
  obtain ⟨w1, hw1'⟩ : ∃ w1, w1 = wq.setCell ⟨r, 4, none⟩ (.int .i64 q) := ⟨_, rfl⟩
  have F1 := Lib.hid (show Fr (· = r) wq w1 by rw [hw1']; exact fr_cell1 r 4 _ wq)
  obtain ⟨n, hnn⟩ : ∃ n, n = t.l.length := ⟨_, rfl⟩
  have HN := Lib.hid hnn
  have B1 := Lib.hid (show Blk w1 r 83 #[.bool true, .slice A n c, .int .i64 t.size, .int .i64 t.ag, .int .i64 q] by
    rw [hw1', hnn]
    have := Q2.out.blk.set_ 4 (.int .i64 q)
    simpa using this)
  have O1 := Lib.hid (show w1.ownsRow 0 31 4 (.slice A n c) n (icells t.l) by rw [hnn]; exact own_fr Q2.out.own F1.out (fun k hk e => Q2.out.ne k hk e))
  have HW := Lib.hid hw1'
  clear hw1'
  go_wp2_with fail
  rw [← HW.out]
  clear c0 c1 c2 c3 c4 z4
  have d0 := B1.out.cell 1
  have d1 := B1.out.cell 4
  have z1 := B1.out.frozen 1
  have hr1 := B1.out.lt
  simp only [List.getElem?_toArray, List.getElem?_cons_zero, List.getElem?_cons_succ] at d0 d1
  have HB1 := Lib.hid (show (n + 1) * 32 ≤ 140737488355328 by omega)
  have HB0 := Lib.hid (show n + 1 ≤ maxLen by unfold maxLen; omega)
  rw [← hnn] at hn
  clear hnn
  obtain ⟨wx, hwx⟩ : ∃ wx, wx = (w1.alloc (.cells #[.int .i64 x, .int .i64 p, .int .i64 u, .int .i64 q] 31)).drew := ⟨_, rfl⟩
  have FX := Lib.hid (show Fr No w1 wx by rw [hwx]; exact ((Fr.refl No w1).alloc _).drew)
  have HO := Lib.hid (show wx.ownsRow 0 31 4 (.slice A n c) n (icells t.l) from own_fr O1.out FX.out (fun _ _ z => z))
  have HR := Lib.hid (show Reads wx wx.heap.size 4 (some ⟨w1.heap.size, 0, none⟩) 1 [.int .i64 x, .int .i64 p, .int .i64 u, .int .i64 q] by
    rw [hwx]; exact (reads_blk w1 31 [.int .i64 x, .int .i64 p, .int .i64 u, .int .i64 q] 1 4 rfl).drew)
  have HONE := Lib.hid (show ∀ y ∈ [Value.int .i64 x, .int .i64 p, .int .i64 u, .int .i64 q], y.oneCell' = true from fun y hy => by
    simp only [List.mem_cons, List.not_mem_nil, or_false] at hy
    rcases hy with rfl | rfl | rfl | rfl <;> rfl)
  have HWX := Lib.hid hwx
  rw [hwx] at HO HR
  clear hwx
  go_region_law ((refine step_append_any _ rfl (.tmp 48) (.tmp 57) 26 rfl 0 31 i0 (.agg #[.int .i64 0, .int .i64 0, .int .i64 0, .int .i64 0]) 4 32 Try.underlying26 hi hz0 hz1 hz2 rfl (by omega) (.slice A n c) n (icells t.l) (by simp [Act.eval]) HO.out _ (some ⟨w1.heap.size, 0, none⟩) 1 1 _ (by simp [Act.eval]) HR.out HONE.out HB0.out HB1.out (Nat.zero_le _) ?_; intro v' w2 hown2 hg2 hloc2; obtain ⟨A2, q2, rfl⟩ := own_form' hown2; have F2 : Fr (fun k => (Value.slice A n c).ownBlock = some k) w1 w2 := ((Fr.refl _ w1).alloc _).drew.trans (Fr.of_grown (S := fun k => (Value.slice A n c).ownBlock = some k) hg2 (fun k hk => hk)) (fun _ _ z => z); have B2 := B1.out.fr F2 (fun e => own_blk_ne O1.out B1.out (by decide) r e rfl); have g1 := B2.cell 1; have y1 := B2.frozen 1; simp only [List.getElem?_toArray, List.getElem?_cons_zero, List.getElem?_cons_succ] at g1))
  all_goals
    have HT := Lib.hid (rpush_fin (x := x) (p := p) (u := u) HH.out HQ.out HS.out HL.out HN.out ((FQ.out.mono (T := (· = r)) (fun _ z => z.elim)).trans F1.out (fun _ _ z => z)) B1.out F2 hown2 (fun k hk => by
      rcases hloc2 with h1 | h1
      · exact .inl (by rw [← h1]; exact hk)
      · rw [h1] at hk; right; cases hk; simp))
    clear hown2 hg2 hloc2
    go_wp2
    go_ret
    exact HT.out
end Go.Proofs.Ytcjcoigjedcieaa
