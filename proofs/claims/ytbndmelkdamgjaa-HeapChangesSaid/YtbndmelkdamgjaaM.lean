/- What take does, apart from the program. -/
import Derived.Test.YtbndmelkdamgjaaL
namespace Go.Proofs.Ytbndmelkdamgjaa
open Go.RowKit Go.Maps Go.Wk Go.ChangeShapes Go.WideShapes Go.ChangeMaps

/-- 'm[x] = v' at a key that is there: as many entries as before. -/
theorem MapF.turn {w : World} {P : Program} {K T E : TypeId} {b n : Nat} {f : Int → Option Int} (h : MapF w P K b n f) (hn : n < maxLen) (hK : P.underlying K = some (.int .i64)) (hT : P.underlying T = some (.map K E))
    (hz : ∀ w : World, (zeroValue E).run P w = .ok (.int .i64 0) w) {x i : Int} (hx : fits x) (h1 : f x = some i) (v : Int) :
    ∃ w', (Instr.mapUpdate T (.map (some b)) (.int .i64 x) (.int .i64 v)).run P w = .ok () w' ∧ MapF w' P K b n (fun z => if z = x then some v else f z) ∧ Fr (· = b) w w' := by
  obtain ⟨D, ⟨es, clock, hb, F, hs, rfl⟩, hd⟩ := h
  obtain ⟨j1, e1, hj1, hk1, hv1⟩ := there hK hT (hz w) hb F rfl hx (by rw [(hd x hx).1, h1]; rfl) (i := i) (by rw [(hd x hx).2, h1]; rfl)
  obtain ⟨F1, hd1⟩ := turned (v := v) hK hT hb F hs hn hd hx hj1 hk1
  refine ⟨_, (ent_run (int_keyed hK) hT hb F (keyOf_int_mk hK (fits_wf hx)) hj1 hk1).2 (.int .i64 v), ⟨_, ⟨_, clock, heap_setBlock_same hb _, F1, by rw [upd_size]; exact hs, rfl⟩, hd1⟩, ?_⟩
  have hg : w.grownBy (setBlock w b (.map (upd es j1 (.int .i64 v)) clock)) (some b) := ⟨rfl, rfl, rfl, by simp [setBlock], fun i _ hi => heap_setBlock_other hb _ (fun e => hi (by rw [e]))⟩
  exact Fr.of_grown hg (fun k hk => by cases hk; rfl)
section
variable {V : Type} [Inhabited V] {l : List (En V)} {f : Int → Option Int} {g : Int} {i : Nat}
theorem OkL.cut (h : OkL l g) (hp : PlaceOf f l) (hi : i < l.length) : OkL (Proofs.Ytbndmelkdamgjaa.cut l i) g := by
  have hm := fun e => (mem_cut hp hi e).1
  refine ⟨fun e he => h.fit e (hm e he).1, fun e he => h.lo e (hm e he).1, fun e he e' he' => h.pd e (hm e he).1 e' (hm e' he').1, ?_, h.g⟩
  rw [cut_len]
  have := h.n
  omega
theorem cut_set (l : List (En V)) (i : Nat) (z : En V) : ((l.set i (l.getD (l.length - 1) default)).set (l.length - 1) z).take (l.length - 1) = Proofs.Ytbndmelkdamgjaa.cut l i := by
  unfold Proofs.Ytbndmelkdamgjaa.cut
  rw [List.take_set_of_le (Nat.le_refl _)]
theorem cut_set_last (l : List (En V)) (z : En V) : (l.set (l.length - 1) z).take (l.length - 1) = Proofs.Ytbndmelkdamgjaa.cut l (l.length - 1) := by
  unfold Proofs.Ytbndmelkdamgjaa.cut
  rw [List.take_set_of_le (Nat.le_refl _), List.take_set_of_le (Nat.le_refl _)]
theorem PlaceOf.cut_lt (h : PlaceOf f l) (hi : i < l.length - 1) :
    PlaceOf (fun z => if z = (l.getD (l.length - 1) default).id then some (i : Int) else if z = (l.getD i default).id then none else f z) (Proofs.Ytbndmelkdamgjaa.cut l i) := by
  have := h.cut (i := i) (by omega)
  have e : (fun z => if i < l.length - 1 ∧ z = (l.getD (l.length - 1) default).id then some (i : Int) else if z = (l.getD i default).id then none else f z) = (fun z => if z = (l.getD (l.length - 1) default).id then some (i : Int) else if z = (l.getD i default).id then none else f z) := by
    funext z
    simp only [hi, true_and]
  rwa [e] at this
theorem PlaceOf.cut_end (h : PlaceOf f l) (hi : 0 < l.length) :
    PlaceOf (fun z => if z = (l.getD (l.length - 1) default).id then none else f z) (Proofs.Ytbndmelkdamgjaa.cut l (l.length - 1)) := by
  have := h.cut (i := l.length - 1) (by omega)
  have e : (fun z => if l.length - 1 < l.length - 1 ∧ z = (l.getD (l.length - 1) default).id then some ((l.length - 1 : Nat) : Int) else if z = (l.getD (l.length - 1) default).id then none else f z) = (fun z => if z = (l.getD (l.length - 1) default).id then none else f z) := by
    funext z
    simp only [Nat.lt_irrefl, false_and, if_false]
  rwa [e] at this
end
/-- The row cut behind the last store. -/
theorem own_cut {V : Type} [Inhabited V] (C : Cod V) {base cap g k : Nat} {et : TypeId} {l : List (En V)} {w : World} (h : w.ownsRow base et C.s (.slice (some ⟨g, 0, none⟩) l.length cap) l.length (ecells C l)) (hk : k < l.length) (z : En V) :
    (w.setCells g (k * C.s) (ecell C z)).ownsRow base et C.s (.slice (some ⟨g, 0, none⟩) k cap) k (ecells C ((l.set k z).take k)) := by
  have a := own_less (own_put C h hk z) (Nat.le_of_lt hk)
  rwa [ecells_take] at a
end Go.Proofs.Ytbndmelkdamgjaa
