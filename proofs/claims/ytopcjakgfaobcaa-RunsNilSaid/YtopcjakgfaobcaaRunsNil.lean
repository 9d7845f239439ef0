/- RunsNil: for every input the law returns true, and each argument reads afterwards as before. No condition. -/
import Derived.Test.YtopcjakgfaobcaaRows
import Derived.Test.YtopcjakgfaobcaaNil
import Derived.Test.YtopcjakgfaobcaaFlat
import Derived.WalkKit
import Derived.ProofKit
import Derived.OpenShut
import Derived.ShutString
import Derived.ChangeOld
import Derived.Below
import Derived.SizedLaws
namespace Go.Proofs.Ytopcjakgfaobcaa.runsNil
open Go.ChangeShapes Go.WideShapes Go.ChangeAt Go.RowKit
open Go.ChangeMaps (open_string shut_string)
set_option linter.unusedVariables false

theorem own : ownKnob Try.prog.godebug = none := by kernel_rfl
theorem laidOut : laidOutB Try.prog = true := by kernel_rfl

theorem walk (w : World) (n0 : List Int) (w0 : n0.length = 6 ∧ ∀ (i : Nat) (k : IntKind) (n : Int), ([.i64, .i64, .i64, .i64, .i64, .i64] : List IntKind)[i]? = some k → n0[i]? = some n → (Lit.int k n).wf = true) :
    Calls Try.prog 10 #[.agg (Wk.rowOf [.i64, .i64, .i64, .i64, .i64, .i64] n0).toArray] w fun e w' => e = .returned (.bool true) ∧ Below w.heap.size w w' := by
  obtain ⟨h6, _⟩ := w0
  match n0, h6 with
  | [d, j, u, a, t, r], _ => exact (runsNil_walk d j u a t r w).mono fun _ _ ⟨h, f⟩ => ⟨h, f.below⟩

set_option maxRecDepth 100000 in
theorem lifted (os : Os) (started : os.Started) (H : Type) (enc : TypeId × Value → H) :
    ReturnsInHanded {} Try.checked os 10 .any (Rows.runsNilSpec.pre6 enc Try.prog Try.f10 Rows.runsNilRow.domain false) (Rows.runsNilSpec.post enc Try.prog Try.f10 false true false false) := by
  refine returnsInHanded_of_change_sized (C := Try.checked) own started (by kernel_rfl) Try.func10
    (ChangeSpec.witness6 (enc := enc) (C := Try.checked) false ⟨#[], #[.agg #[.int .i64 0, .int .i64 0, .int .i64 0, .int .i64 0, .int .i64 0, .int .i64 0]], []⟩ 8 (by kernel_rfl) (by kernel_rfl) (by kernel_rfl) (by kernel_rfl)) ?_
  intro W base args ds gs before hval0 hW hcnd hsz0 _
  have hval : ∀ (j : Nat) t v, Try.f10.params[j]? = some t → args[j]? = some v → Value.okWide Try.prog W .any base t v := hval0
  have hW' := hW
  obtain ⟨p, q, hA0, hV, rfl, hfz, hnd⟩ := hW
  have hsz : (DataW.weightsEach Try.prog (Try.f10.params.toList ++ Rows.runsNilSpec.plain.varTypes Try.prog) (ds ++ gs)).all (· ≤ reachBytes) = true := hsz0
  clear hsz0
  have hA : DataW.TrodAll enc Try.prog W 0 (fun _ => true) true Try.f10.params.toList args.toList ds p := hA0
  rw [Try.params10] at hA hval hsz
  obtain ⟨v0, vs0, d0, ds0, p0, q0, hargs, rfl, rfl, h0, r0⟩ := trodAll_cons hA
  obtain ⟨rfl, rfl, rfl⟩ := trodAll_nil r0
  obtain rfl : args = #[v0] := by cases args; simp_all
  obtain ⟨rfl, rfl⟩ := trodVars_none hV
  have k0 := h0
  have lt0 : ∀ x ∈ p0, x.block < W.heap.size := by obtain ⟨m, hm⟩ := k0; exact DataW.trod_lt m _ _ _ hm
  obtain ⟨c0, rfl, _⟩ := okWide_struct Try.underlying42 (hval 0 42 v0 rfl rfl)
  obtain ⟨n0, w0, rfl⟩ : ∃ ns : List Int, (ns.length = 6 ∧ ∀ (i : Nat) (k : IntKind) (n : Int), ([.i64, .i64, .i64, .i64, .i64, .i64] : List IntKind)[i]? = some k → ns[i]? = some n → (Lit.int k n).wf = true) ∧ c0 = (Wk.rowOf [.i64, .i64, .i64, .i64, .i64, .i64] ns).toArray := by
    obtain ⟨fuel, hf⟩ := h0
    obtain ⟨ns, e1, e2, e3⟩ := Wk.flat_ints 6 42 [.i64, .i64, .i64, .i64, .i64, .i64] fuel _ _ (by kernel_rfl) hf
    exact ⟨ns, ⟨e1, e3⟩, by rw [Wk.rowOf, ← e2]; simp [Value.cells]⟩
  clear hA0 hval0
  refine (walk W n0 w0).mono fun e W' ⟨he, bel⟩ => ?_
  subst he
  exact ⟨_, rfl, _, _, _, [], _, [], hW', trodAll_mk1 (shut_bool Try.underlying4 _), (trodAll_cons_mk (Below.trod laidOut (by kernel_rfl) (of_decide_eq_true (by kernel_rfl)) k0 bel lt0) (trodAll_mk0)), rfl, bel.frame _, fun h => by cases h⟩

theorem over : Rows.runsNilRow.holds Try.pinned (OpenSpec.ofChange Rows.runsNilSpec) :=
  OpenClaim.holds_of_wide 10 Try.f10 rfl rfl rfl rfl rfl rfl rfl ⟨rfl, rfl, rfl, rfl, rfl⟩ rfl rfl rfl rfl rfl (by kernel_rfl) Try.func10 (by kernel_rfl)
    (of_decide_eq_true (by kernel_rfl)) (by unfold Func.isWrapper; first | (rw [if_pos (by decide +kernel)]; kernel_rfl) | (rw [if_neg (by decide +kernel)]; exact ⟨rfl, rfl⟩))
    (fun os started H enc _ => lifted os started H enc)

theorem proved : Rows.RunsNilSaid := over
#print axioms proved
end Go.Proofs.Ytopcjakgfaobcaa.runsNil
