/- works is true. -/
import Derived.Test.YtabajcofddhelaaSo
namespace Go.Proofs.Ytabajcofddhelaa
open Go.RowKit Go.Wk

theorem sort_works (l' : List IV) (h : SortOf 60 [⟨1, 10, 1000, 5⟩, ⟨2, 0, 400, 4⟩] l') : l' = [⟨2, 0, 400, 4⟩, ⟨1, 10, 1000, 5⟩] := by
  refine h.one ⟨[(⟨2, 0, 400, 4⟩, 1), (⟨1, 10, 1000, 5⟩, 0)], rfl, List.Perm.swap _ _ _, fun i j h1 h2 h3 => ?_⟩
  have : i = 0 ∧ j = 1 := by simp at h3; omega
  obtain ⟨rfl, rfl⟩ := this
  right
  exact ⟨by decide, .inl (by decide)⟩
theorem works_any (w : World) : Calls Try.prog 18 #[] w fun e w' => e = .returned (.bool true) ∧ Fr No w w' := by
  have K := Lib.hid (fun X => Key_any 10 1000 60 X)
  have e1 : keyK 60 ⟨0, 10, 1000, 0⟩ = 400 := by decide
  have e2 : chkE 60 [⟨0, 10, 1000, 0⟩] = 0 := by decide
  rw [e1, e2] at K
  have LV := Lib.hid (fun X => Level_any 10 1000 60 1060 X)
  have e3 : levV 60 1060 ⟨0, 10, 1000, 0⟩ = 11 := by decide
  have e4 : levE 60 1060 ⟨0, 10, 1000, 0⟩ = 0 := by decide
  rw [e3, e4] at LV
  have OV := Lib.hid (fun X => Overtake_any 10 0 60 X)
  have e5 : ovV 60 10 0 = 600 := by decide
  have e6 : ovE 60 10 0 = 0 := by decide
  rw [e5, e6] at OV
  have e7 : listE 60 [⟨1, 10, 1000, 5⟩, ⟨2, 0, 400, 4⟩] [] = 0 := by decide
  have SV := Lib.hid (fun (X : World) => Sort_any (some ⟨X.heap.size, 0, none⟩) 2 2 [⟨1, 10, 1000, 5⟩, ⟨2, 0, 400, 4⟩] 60 _ (reads2 X ⟨1, 10, 1000, 5⟩ ⟨2, 0, 400, 4⟩) (by omega))
  have E7 := Lib.hid e7
  clear e1 e2 e3 e4 e5 e6 e7
  go_enter Try.func18, Try.ntmps18
  go_wp2_with fail
  refine (K.out _).mono ?_
  rintro x w1 ⟨rfl, hf⟩
  have F1 := Lib.hid hf
  clear hf
  go_wp2_with fail
  refine (LV.out _).mono ?_
  rintro x w2 ⟨rfl, hf⟩
  have F2 := Lib.hid (F1.out.then0 hf)
  clear hf
  go_wp2_with fail
  refine (OV.out _).mono ?_
  rintro x w3 ⟨rfl, hf⟩
  have F3 := Lib.hid (F2.out.then0 hf)
  clear hf
  go_wp2_with fail
  refine (SV.out _).mono ?_
  rintro x w4 ⟨hf, ⟨h0, _⟩ | ⟨_, A, c, l', rfl, hso, hc, ho⟩⟩
  · exact absurd E7.out h0
  · have F4 := Lib.hid ((F3.out.alloc _).then0 hf)
    obtain rfl := sort_works l' hso
    obtain ⟨g, q, he, _⟩ := own_some ho (by omega)
    cases he
    obtain ⟨g', off, he, _, _, c0, _⟩ := reads_item (Reads.of_own ho) (i := 0) (by omega)
    cases he
    simp only [Nat.zero_mul, Nat.add_zero, List.getD_cons_zero] at c0
    clear hf hso ho
    go_wp2
    go_ret
    exact ⟨rfl, F4.out⟩
end Go.Proofs.Ytabajcofddhelaa
