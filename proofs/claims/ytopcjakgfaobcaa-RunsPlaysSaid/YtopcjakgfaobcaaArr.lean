/- An argument whose type is an array is an aggregate. -/
import Derived.Test.YtopcjakgfaobcaaFlat
import Derived.WideShapes
namespace Go.Wk
open Go.RowKit Go.WideShapes
theorem okWide_array {P : Program} {w : World} {r : Reach} {base : Nat} {t : TypeId} {v : Value} {m : Nat} {e : TypeId} (ht : P.underlying t = some (.array m e)) (h : Value.okWide P w r base t v) : ∃ cs, v = .agg cs ∧ True := by
  simp only [Value.okWide, ht] at h
  obtain ⟨cs, h1, _⟩ := h
  exact ⟨cs, h1, trivial⟩
end Go.Wk
