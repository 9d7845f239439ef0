/- works is true. -/
import Derived.Test.YtcjcoigjedcieaaP
import Derived.Laws.StructEq
namespace Go.Proofs.Ytcjcoigjedcieaa
open Go.RowKit Go.Wk

theorem even_any (x : Int) (w : World) : Calls Try.prog 46 #[.int .i64 x] w fun e w' => e = .returned (.bool (x.tmod 2 == 0)) ∧ w = w' := by
  go_enter Try.func46, Try.ntmps46
  go_wp2
  go_ret
  exact ⟨rfl, rfl⟩
def wkA : QS := ⟨[⟨1, 0, 400, 1⟩], 3, 60, 1⟩
def wkB : QS := ⟨[⟨1, 0, 400, 1⟩, ⟨2, 10, 1000, 2⟩], 3, 60, 2⟩
def wkC : QS := ⟨[⟨3, 50, 2000, 3⟩, ⟨1, 0, 400, 1⟩, ⟨2, 10, 1000, 2⟩], 3, 60, 3⟩
def wkD : QS := ⟨[⟨3, 50, 2000, 3⟩, ⟨1, 0, 400, 1⟩], 3, 60, 3⟩
theorem fits_small {x : Int} (h : -1000000 ≤ x ∧ x ≤ 1000000) : fits x := by unfold fits; omega
set_option maxRecDepth 100000 in
set_option maxHeartbeats 4000000 in
theorem works_any (w : World) : Calls Try.prog 17 #[] w fun e w' => e = .returned (.bool true) ∧ Fr No w w' := by
  have N0 := Lib.hid (New_any 3 60 (by decide) (by decide) w)
  have A1 := Lib.hid (fun b D X h => Push_at b D (QS.new 3 60) X h 1 0 400 (fits_small (by decide)) (by decide))
  have A2 := Lib.hid (fun b D X h => Push_at b D wkA X h 2 10 1000 (fits_small (by decide)) (by decide))
  have A3 := Lib.hid (fun b D X h => Push_at b D wkB X h 3 50 2000 (fits_small (by decide)) (by decide))
  have A4 := Lib.hid (fun b D X h => Push_at b D wkC X h 4 5 3000 (fits_small (by decide)) (by decide))
  have A5 := Lib.hid (fun b D X h => Push_at b D wkC X h 3 5 3000 (fits_small (by decide)) (by decide))
  have A6 := Lib.hid (fun b D X h => Items_at b D wkC X h)
  have A7 := Lib.hid (fun b D X h => Pick_pure 46 #[] (fun x => x.tmod 2 == 0) b D wkC X h Try.call46 (fun x Y _ _ => even_any x Y))
  have A8 := Lib.hid (fun b D X h => Len_at b D wkD X h)
  have A9 := Lib.hid (fun b D X h => Room_at b D wkD X h)
  rw [show pushE (QS.new 3 60) 1 0 400 = 0 by decide, show pushS (QS.new 3 60) 1 0 400 = wkA by decide] at A1
  rw [show pushE wkA 2 10 1000 = 0 by decide, show pushS wkA 2 10 1000 = wkB by decide] at A2
  rw [show pushE wkB 3 50 2000 = 0 by decide, show pushS wkB 3 50 2000 = wkC by decide] at A3
  rw [show pushE wkC 4 5 3000 = 4 by decide, show pushS wkC 4 5 3000 = wkC by decide] at A4
  rw [show pushE wkC 3 5 3000 = 6 by decide, show pushS wkC 3 5 3000 = wkC by decide] at A5
  rw [show pickV (fun x => x.tmod 2 == 0) wkC = 2 by decide, show pickB (fun x => x.tmod 2 == 0) wkC = true by decide, show pickS (fun x => x.tmod 2 == 0) wkC = wkD by decide] at A7
  rw [show roomV wkD = 1 by decide] at A9
  go_enter Try.func17, Try.ntmps17
  go_wp2_with fail
  refine N0.out.mono ?_
  rintro e w1 ⟨b, D, rfl, hn⟩
  have M := Lib.hid (Mine.of hn (Fr.refl No w))
  clear hn
  go_wp2_with fail
  refine (A1.out b _ _ M.out.at_).mono ?_
  rintro e w2 ⟨rfl, ht⟩
  obtain ⟨D2, M2, _, _⟩ := M.out.next ht
  replace M := Lib.hid M2
  clear ht M2
  go_wp2_with fail
  refine (A2.out b _ _ M.out.at_).mono ?_
  rintro e w3 ⟨rfl, ht⟩
  obtain ⟨D3, M2, _, _⟩ := M.out.next ht
  replace M := Lib.hid M2
  clear ht M2
  go_wp2_with fail
  refine (A3.out b _ _ M.out.at_).mono ?_
  rintro e w4 ⟨rfl, ht⟩
  obtain ⟨D4, M2, _, _⟩ := M.out.next ht
  replace M := Lib.hid M2
  clear ht M2
  go_wp2_with fail
  refine (A4.out b _ _ M.out.at_).mono ?_
  rintro e w5 ⟨rfl, ht⟩
  obtain ⟨D5, M2, _, _⟩ := M.out.next ht
  replace M := Lib.hid M2
  clear ht M2
  go_wp2_with fail
  refine (A5.out b _ _ M.out.at_).mono ?_
  rintro e w6 ⟨rfl, ht⟩
  obtain ⟨D6, M2, _, _⟩ := M.out.next ht
  replace M := Lib.hid M2
  clear ht M2
  go_wp2_with fail
  refine (A6.out b _ _ M.out.at_).mono ?_
  rintro e w7 ⟨G, gc, rfl, ho, hgc, hf⟩
  have L6 := Lib.hid (fun k hk => M.out.at_.lt (k := k) hk)
  replace M := Lib.hid (M.out.fr0 hf)
  have HO := Lib.hid ho
  clear ho hf
  go_wp2_with fail
  refine (A7.out b _ _ M.out.at_).mono ?_
  rintro e w8 ⟨rfl, ht⟩
  obtain ⟨D8, M2, _, hf⟩ := M.out.next ht
  replace M := Lib.hid M2
  have O8 := own_fr HO.out hf (fun k hk hd => by have := (HO.out.lt k hk).1; have := L6.out k hd; omega)
  obtain ⟨g, q, he, _⟩ := own_some O8 (by decide)
  cases he
  have R := Reads.of_own O8
  obtain ⟨g', off, he, _, _, c0, c1, c2, c3⟩ := reads_item R (i := 0) (by decide)
  cases he
  obtain ⟨g', off, he, _, _, d0, _, _, _⟩ := reads_item R (i := 1) (by decide)
  cases he
  obtain ⟨g', off, he, _, _, e0, _, _, _⟩ := reads_item R (i := 2) (by decide)
  cases he
  simp only [Nat.zero_mul, Nat.zero_add, Nat.add_zero, wkC, List.getD_cons_zero, List.getD_cons_succ] at c0 c1 c2 c3 d0 e0
  have hlen : wkC.l.length = 3 := rfl
  have hlen2 : wkD.l.length = 2 := rfl
  rw [hlen2] at A8
  rw [hlen] at hgc
  rw [hlen]
  clear ht M2 hf O8 R hlen hlen2
  go_wp2_with fail
  refine (A8.out b _ _ M.out.at_).mono ?_
  rintro e w9 ⟨rfl, rfl⟩
  go_wp2_with fail
  refine (A9.out b _ _ M.out.at_).mono ?_
  rintro e w10 ⟨rfl, q, rfl⟩
  go_wp2
  go_ret
  exact ⟨rfl, M.out.fr.drewN q⟩
end Go.Proofs.Ytcjcoigjedcieaa
