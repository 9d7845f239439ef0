/- Copy of caps. -/
import Derived.Test.YtjgjbjigghfnbaaH
import Derived.Deep.WholeRow
namespace Go.Proofs.Ytjgjbjigghfnbaa
open Go.RowKit Go.Wk

theorem CS.size (s : CS) (hm : s.most.length = 64) (hr : s.runs.length = 64) : s.cells.size = 132 := by
  unfold CS.cells; simp [hm, hr]
theorem CS.one (s : CS) : s.cells.all (·.oneCell') = true := by
  unfold CS.cells
  simp [Value.oneCell']
theorem size57 : (Try.prog.info? 57).map (·.size) = some 132 := by kernel_rfl

set_option maxRecDepth 100000 in
theorem copy_any (b : Nat) (s : CS) (w : World) (h : CapsAt w b s) :
    Calls Try.prog 22 #[.pointer (some ⟨b, 0, none⟩)] w fun e w' => e = .returned (.pointer (some ⟨w.heap.size, 0, none⟩)) ∧ CapsAt w' w.heap.size s ∧ Fr No w w' := by
  have c0 := (h.blk.cell 0).trans s.c0
  have z0 := zero57
  have hs := s.size h.ok.lm h.ok.lr
  have hi : (Try.prog.info? 57).map (·.size) = some s.cells.size := by rw [hs]; exact size57
  have hold : ZC.size = s.cells.size := by rw [hs]; exact ZC_size
  have HI := Lib.hid hi
  have HO := Lib.hid hold
  have HB := Lib.hid h
  clear hi hold hs h
  have h1 := s.one
  have H1 := Lib.hid h1
  clear h1
  go_enter Try.func22, Try.ntmps22
  go_wp2_with (first
    | (refine wpList_load_row rfl 57 (.tmp 14) rfl b rfl 57 s.cells (0, 0) _ HB.out.blk Try.underlying57 rfl HI.out ?_)
    | (refine wpList_store_row (w := w.alloc (.cells ZC 57)) rfl 57 (.tmp 3) (.tmp 15) rfl w.heap.size s.cells rfl rfl 57 ZC ?hg HI.out HO.out H1.out ?_))
  case hg => exact heap_alloc_new _ _
  go_ret
  rw [World.setRow_alloc_new]
  exact ⟨rfl, ⟨Blk.new _ _ _, HB.out.ok⟩, (Fr.refl _ _).alloc _⟩
end Go.Proofs.Ytjgjbjigghfnbaa
