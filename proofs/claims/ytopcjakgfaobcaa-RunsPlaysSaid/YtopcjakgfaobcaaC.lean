/- The contracts of package runs: find, Get. -/
import Derived.Test.YtopcjakgfaobcaaB
import Derived.Laws.ResultCell
namespace Go.Proofs.Ytopcjakgfaobcaa
open Go.RowKit Go.Wk

theorem find_any (b : Nat) (D : Nat → Prop) (s : TS) (w : World) (r : Int) (h : TabAt w b D s) :
    Calls Try.prog 36 #[.pointer (some ⟨b, 0, none⟩), .int .i64 r] w fun x w' => (∃ i : Nat, Srch s.live r i ∧ x = .returned (.tuple #[.int .i64 i, .bool (decide (i < s.live.length) && decide ((s.live.getD i RV.zero).id = r))])) ∧ Fr No w w' := by
  have HV := Lib.hid (valid_any b D s w h)
  obtain ⟨v, h, _⟩ := h
  have HS := Lib.hid (bs_any b v s w r h)
  obtain ⟨A, c, rfl, _⟩ := h.form
  have c1 := h.blk.cell 1
  simp at c1
  clear h
  go_enter Try.func36, Try.ntmps36
  go_wp2_with (first
    | (go_at_call 35; refine HV.out.mono ?_; rintro e w1 ⟨rfl, rfl⟩)
    | (go_at_call 43; refine HS.out.mono ?_; rintro e w1 ⟨⟨i, hi, rfl⟩, hf⟩; have HI := Lib.hid hi; clear hi))
  go_ret2
  exact ⟨⟨i, HI.out, rfl⟩, hf⟩

/-- A run as a value. -/
def RV.agg (x : RV) : Value := .agg #[.int .i64 x.id, .int .i64 x.job, .int .i64 x.due, .int .i64 x.att, .int .i64 x.start]

/-- Where a run with this number is. -/
def TS.pos (s : TS) (r : Int) : Option Nat := s.live.findIdx? (fun x => x.id == r)
def TS.getV (s : TS) (r : Int) : RV := match s.pos r with | some i => s.live.getD i RV.zero | none => RV.zero
def TS.has (s : TS) (r : Int) : Bool := (s.pos r).isSome

theorem Srch.pos_some {s : TS} {r : Int} {i : Nat} (h : Srch s.live r i) (hi : i < s.live.length) (hr : (s.live.getD i RV.zero).id = r) : s.pos r = some i := by
  unfold TS.pos
  rw [List.findIdx?_eq_some_iff_getElem]
  refine ⟨hi, by simpa [hi] using hr, fun j hj => ?_⟩
  have := h.lo j hj
  simp only [List.getD_eq_getElem?_getD, List.getElem?_eq_getElem (show j < s.live.length by omega), Option.getD_some] at this
  simp; omega
theorem Srch.pos_none {s : TS} {r : Int} {i : Nat} (h : Srch s.live r i) (hinc : s.live.Pairwise (fun x y => x.id < y.id)) (hr : ¬ (i < s.live.length ∧ (s.live.getD i RV.zero).id = r)) : s.pos r = none := by
  unfold TS.pos
  rw [List.findIdx?_eq_none_iff]
  intro x hx
  obtain ⟨j, hj, rfl⟩ := List.mem_iff_getElem.1 hx
  have e : (s.live.getD j RV.zero) = s.live[j] := by simp [hj]
  rcases Nat.lt_or_ge j i with hlt | hge
  · have := h.lo j hlt
    rw [e] at this
    simp; omega
  · have h1 := h.hi j hge hj
    have h2 := inc_get hinc hge hj
    have h3 := h.hi i (Nat.le_refl _) (by omega)
    rw [e] at h1 h2
    have h4 : (s.live.getD i RV.zero).id ≠ r := fun q => hr ⟨by omega, q⟩
    simp; omega

/-- A variable that holds a run, behind a store of another run. -/
theorem blk_setRun {w : World} {X : Nat} {a b c d e : Value} (h : Blk w X 31 #[a, b, c, d, e]) (a' b' c' d' e' : Value) :
    Blk (((((w.setCell ⟨X, 0, none⟩ a').setCell ⟨X, 1, none⟩ b').setCell ⟨X, 2, none⟩ c').setCell ⟨X, 3, none⟩ d').setCell ⟨X, 4, none⟩ e') X 31 #[a', b', c', d', e'] :=
  ((((h.set_ 0 a').set_ 1 b').set_ 2 c').set_ 3 d').set_ 4 e'
theorem fr_setRun {S : Nat → Prop} {w w1 : World} {X : Nat} (h : Fr S w w1) (hX : w.heap.size ≤ X ∨ S X) (a' b' c' d' e' : Value) :
    Fr S w (((((w1.setCell ⟨X, 0, none⟩ a').setCell ⟨X, 1, none⟩ b').setCell ⟨X, 2, none⟩ c').setCell ⟨X, 3, none⟩ d').setCell ⟨X, 4, none⟩ e') :=
  ((((h.setCell hX a').setCell hX b').setCell hX c').setCell hX d').setCell hX e'
theorem cells5 {w : World} {X : Nat} {a b c d e : Value} (h : Blk w X 31 #[a, b, c, d, e]) :
    w.cell? ⟨X, 0, none⟩ = some a ∧ w.cell? ⟨X, 1, none⟩ = some b ∧ w.cell? ⟨X, 2, none⟩ = some c ∧ w.cell? ⟨X, 3, none⟩ = some d ∧ w.cell? ⟨X, 4, none⟩ = some e :=
  ⟨h.cell 0, h.cell 1, h.cell 2, h.cell 3, h.cell 4⟩

theorem get_any (b : Nat) (D : Nat → Prop) (s : TS) (w : World) (r : Int) (h : TabAt w b D s) :
    Calls Try.prog 22 #[.pointer (some ⟨b, 0, none⟩), .int .i64 r] w fun x w' => x = .returned (.tuple #[(s.getV r).agg, .bool (s.has r)]) ∧ Fr No w w' := by
  have HT := Lib.hid h
  have HI := Lib.hid h.ok.inc
  have HF := Lib.hid (fun w h => find_any b D s w r h)
  clear h
  go_enter Try.func22, Try.ntmps22
  go_wp2_with fail
  refine (HF.out _ (HT.out.fr0 ((Fr.refl No w).alloc _))).mono ?_
  rintro x w1 ⟨⟨i, hs, rfl⟩, hf⟩
  have hX := (Blk.new w 31 #[.int .i64 0, .int .i64 0, .int .i64 0, .int .i64 0, .int .i64 0]).fr hf (fun x => x)
  have F1 : Fr No w w1 := ((Fr.refl No w).alloc _).then0 hf
  by_cases hfd : i < s.live.length ∧ (s.live.getD i RV.zero).id = r
  · have HP := Lib.hid (hs.pos_some hfd.1 hfd.2)
    rw [show (decide (i < s.live.length) && decide ((s.live.getD i RV.zero).id = r)) = true by simpa using hfd]
    obtain ⟨v, hv, _⟩ := HT.out.fr0 F1
    obtain ⟨g, c, rfl, hg, c0', c1', c2', c3', c4'⟩ := hv.at5 hfd.1
    have c1 := hv.blk.cell 1
    simp at c1
    have hn1 := hv.ok.len
    have hn2 := hv.ok.s1
    have hlt := hfd.1
    have hD := hX.lt
    obtain ⟨x, hx⟩ : ∃ x, x = s.live.getD i RV.zero := ⟨_, rfl⟩
    rw [← hx] at c0' c1' c2' c3' c4'
    have HX := Lib.hid hx
    have d0 := hX.cell 0; have d1 := hX.cell 1; have d2 := hX.cell 2; have d3 := hX.cell 3; have d4 := hX.cell 4
    have fz := hX.frozen
    simp at d0 d1 d2 d3 d4
    clear hx hv hfd hs
    generalize s.live.length = n at *
    go_wp2
    have hB := blk_setRun hX (.int .i64 x.id) (.int .i64 x.job) (.int .i64 x.due) (.int .i64 x.att) (.int .i64 x.start)
    have FB := fr_setRun F1 (X := w.heap.size) (.inl (Nat.le_refl _)) (.int .i64 x.id) (.int .i64 x.job) (.int .i64 x.due) (.int .i64 x.att) (.int .i64 x.start)
    generalize (((((w1.setCell ⟨w.heap.size, 0, none⟩ (.int .i64 x.id)).setCell ⟨w.heap.size, 1, none⟩ (.int .i64 x.job)).setCell ⟨w.heap.size, 2, none⟩ (.int .i64 x.due)).setCell ⟨w.heap.size, 3, none⟩ (.int .i64 x.att)).setCell ⟨w.heap.size, 4, none⟩ (.int .i64 x.start)) = w2 at *
    obtain ⟨e0, e1, e2, e3, e4⟩ := cells5 hB
    clear hB d0 d1 d2 d3 d4
    refine bodyPost_ret (v := .tuple #[x.agg, .bool true]) (by rw [results_cell_tmp rfl]; unfold RV.agg; go_simp) rfl ⟨?_, FB⟩
    rw [TS.has, TS.getV, HP.out, HX.out]
    rfl
  · have HP := Lib.hid (hs.pos_none HI.out hfd)
    rw [show (decide (i < s.live.length) && decide ((s.live.getD i RV.zero).id = r)) = false by simpa using hfd]
    have fz := hX.frozen
    have hD := hX.lt
    obtain ⟨d0, d1, d2, d3, d4⟩ := cells5 hX
    clear hfd hs
    go_wp2
    have hB := blk_setRun hX (.int .i64 0) (.int .i64 0) (.int .i64 0) (.int .i64 0) (.int .i64 0)
    have FB := fr_setRun F1 (X := w.heap.size) (.inl (Nat.le_refl _)) (.int .i64 0) (.int .i64 0) (.int .i64 0) (.int .i64 0) (.int .i64 0)
    generalize (((((w1.setCell ⟨w.heap.size, 0, none⟩ (.int .i64 0)).setCell ⟨w.heap.size, 1, none⟩ (.int .i64 0)).setCell ⟨w.heap.size, 2, none⟩ (.int .i64 0)).setCell ⟨w.heap.size, 3, none⟩ (.int .i64 0)).setCell ⟨w.heap.size, 4, none⟩ (.int .i64 0)) = w2 at *
    obtain ⟨e0, e1, e2, e3, e4⟩ := cells5 hB
    clear hB d0 d1 d2 d3 d4
    refine bodyPost_ret (v := .tuple #[RV.zero.agg, .bool false]) (by rw [results_cell_tmp rfl]; unfold RV.agg RV.zero; go_simp) rfl ⟨?_, FB⟩
    rw [TS.has, TS.getV, HP.out]
    rfl
end Go.Proofs.Ytopcjakgfaobcaa
