/- Maps from integers to integers, read as functions. No program stands here. -/
import Derived.Test.YtbndmelkdamgjaaRows
import Derived.Test.YtbndmelkdamgjaaPure
import Derived.Maps.OwnSet
import Derived.Maps.OwnOps
namespace Go.Wk
/-- An integer that fits. -/
def fits (x : Int) : Prop := -9223372036854775808 ≤ x ∧ x ≤ 9223372036854775807
theorem fits_wf {x : Int} (h : fits x) : (Lit.int .i64 x).wf = true := by
  unfold fits at h
  simp [Lit.wf]
  have e0 : IntKind.i64.min = -9223372036854775808 := by decide
  have e1 : IntKind.i64.max = 9223372036854775807 := by decide
  omega
end Go.Wk
namespace Go.Proofs.Ytbndmelkdamgjaa
open Go.RowKit Go.Maps Go.Wk

def datI (x : Int) : DataW Unit := .lit (.int .i64 x)
/-- How an integer reads. -/
def rdI : Value → Option (DataW Unit × List MemPlace)
  | .int .i64 a => some (datI a, [])
  | _ => none
theorem rdI_mk (x : Int) : rdI (.int .i64 x) = some (datI x, []) := rfl
theorem rdI_inv {v : Value} {z : DataW Unit × List MemPlace} (h : rdI v = some z) : ∃ x, v = .int .i64 x ∧ z = (datI x, []) := by
  unfold rdI at h
  split at h
  · cases h; exact ⟨_, rfl, rfl⟩
  · cases h
theorem datI_inj {p q : Int} (h : datI p = datI q) : p = q := by
  unfold datI at h
  injection h with h
  injection h

/-- The map in block b reads as the function f, at every key that fits; it has at most n entries. -/
def MapF (w : World) (P : Program) (K : TypeId) (b n : Nat) (f : Int → Option Int) : Prop :=
  ∃ D : DataW Unit, w.ownsMap P K rdI b n D ∧ ∀ x, fits x → Maps.has D (.int .i64 x) = (f x).isSome ∧ D.atKey (.int .i64 x) (datI 0) = datI ((f x).getD 0)

section
variable {w w' : World} {P : Program} {K T E : TypeId} {b n : Nat} {f : Int → Option Int}

theorem MapF.made (w : World) (P : Program) (K : TypeId) : MapF (w.alloc (.map #[] 0)) P K w.heap.size 0 (fun _ => none) :=
  ⟨.map [], World.ownsMap_made w P K rdI, fun _ _ => ⟨rfl, rfl⟩⟩
theorem MapF.mono (h : MapF w P K b n f) {m : Nat} (hm : n ≤ m) : MapF w P K b m f := by
  obtain ⟨D, ho, hd⟩ := h
  exact ⟨D, ho.mono hm, hd⟩
theorem MapF.lt (h : MapF w P K b n f) : b < w.heap.size := by obtain ⟨D, ho, _⟩ := h; exact ho.lt
theorem MapF.fr {S : Nat → Prop} (h : MapF w P K b n f) (hf : Fr S w w') (hS : ¬ S b) : MapF w' P K b n f := by
  have hlt := h.lt
  obtain ⟨D, ho, hd⟩ := h
  refine ⟨D, ?_, hd⟩
  obtain ⟨es, clock, hb, r⟩ := ho
  exact ⟨es, clock, (hf.block b hlt hS).trans hb, r⟩
theorem MapF.cells_ne (h : MapF w P K b n f) {g : Nat} {t : TypeId} {cs : Array Value} (hg : Blk w g t cs) : b ≠ g := fun e => by
  obtain ⟨D, ⟨es, clock, hb, _⟩, _⟩ := h
  subst e
  unfold Blk at hg
  rw [hb] at hg
  cases hg

variable (hK : P.underlying K = some (.int .i64)) (hT : P.underlying T = some (.map K E))
include hK hT

/-- 'v, ok := m[k]'. -/
theorem MapF.look_ok (h : MapF w P K b n f) (hz : (zeroValue E).run P w = .ok (.int .i64 0) w) {x : Int} (hx : fits x) :
    (Instr.lookup T (.map (some b)) (.int .i64 x) true).run P w = .ok (.tuple #[.int .i64 ((f x).getD 0), .bool (f x).isSome]) w := by
  obtain ⟨D, ho, hd⟩ := h
  obtain ⟨v, ps, hrun, hv⟩ := ho.look_ok (int_keyed hK) hT hz (rdI_mk 0) (keyOf_int_mk hK (fits_wf hx))
  obtain ⟨p, rfl, hp⟩ := rdI_inv hv
  rw [(hd x hx).2] at hp
  injection hp with hp
  rw [hrun, datI_inj hp, (hd x hx).1]
/-- 'm[k] = v'. -/
theorem MapF.put (h : MapF w P K b n f) (hn : n < maxLen) {x : Int} (hx : fits x) (p : Int) :
    ∃ w', (Instr.mapUpdate T (.map (some b)) (.int .i64 x) (.int .i64 p)).run P w = .ok () w' ∧ MapF w' P K b (n + 1) (fun z => if z = x then some p else f z) ∧ Fr (· = b) w w' := by
  obtain ⟨D, ho, hd⟩ := h
  obtain ⟨w', hrun, ho', hg⟩ := ho.update (int_keyed hK) hT hn (keyOf_int_mk hK (fits_wf hx)) (rdI_mk p)
  refine ⟨w', hrun, ⟨_, ho', fun z hz => ?_⟩, Fr.of_grown hg (fun k hk => by cases hk; rfl)⟩
  by_cases e : z = x
  · subst e
    dsimp only
    rw [if_pos rfl]
    exact ⟨has_put_same ho.isMap (show WideAt.IsKeyLit (.int .i64 z) from trivial) _, atKey_put_same ho.isMap (show WideAt.IsKeyLit (.int .i64 z) from trivial) _ _⟩
  · dsimp only
    rw [if_neg e]
    have hne : (Lit.int .i64 z) ≠ (Lit.int .i64 x) := fun h => e (by injection h)
    exact ⟨(has_put_other hne _).trans (hd z hz).1, (atKey_put_other hne _ _).trans (hd z hz).2⟩
/-- 'delete(m, k)'. -/
theorem MapF.del (h : MapF w P K b n f) {x : Int} (hx : fits x) (ty : TypeId) :
    ∃ w', (Builtin.delete_ #[T, K] ty #[.map (some b), .int .i64 x]).run P w = .ok (.tuple #[]) w' ∧ MapF w' P K b n (fun z => if z = x then none else f z) ∧ Fr (· = b) w w' := by
  obtain ⟨D, ho, hd⟩ := h
  obtain ⟨w', hrun, ho', ht⟩ := ho.drop (int_keyed hK) hT (keyOf_int_mk hK (fits_wf hx)) ty
  refine ⟨w', hrun, ⟨_, ho', fun z hz => ?_⟩, Fr.of_grown ht.grown (fun k hk => by cases hk; rfl)⟩
  by_cases e : z = x
  · subst e
    dsimp only
    rw [if_pos rfl]
    exact ⟨has_del_same, atKey_del_same _⟩
  · dsimp only
    rw [if_neg e]
    have hne : (Lit.int .i64 z) ≠ (Lit.int .i64 x) := fun h => e (by injection h)
    exact ⟨(has_del_other hne).trans (hd z hz).1, (atKey_del_other hne _).trans (hd z hz).2⟩
end
end Go.Proofs.Ytbndmelkdamgjaa
