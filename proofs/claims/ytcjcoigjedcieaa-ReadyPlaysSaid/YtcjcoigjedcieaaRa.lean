/- The document's one, check, Key, before, Before, at items as a queue holds them. -/
import Derived.Test.YtcjcoigjedcieaaFu
import Derived.Test.YtcjcoigjedcieaaPw
namespace Go.Proofs.Ytcjcoigjedcieaa
open Go.RowKit Go.Wk

theorem one_any (p u : Int) (hp : 0 ≤ p ∧ p ≤ 100) (hu : 0 ≤ u ∧ u ≤ 253402300799) (w : World) : Calls Try.prog 70 #[.int .i64 p, .int .i64 u] w fun e w' => e = .returned (.int .i64 0) ∧ w' = w := by
  have b1 : decide (p < 0) = false := by simp; omega
  have b2 : decide (100 < p) = false := by simp; omega
  have b3 : decide (u < 0) = false := by simp; omega
  have b4 : decide (253402300799 < u) = false := by simp; omega
  clear hp hu
  go_enter Try.func70, Try.ntmps70
  go_wp2
  go_ret
  exact ⟨rfl, rfl⟩
set_option maxRecDepth 100000 in
set_option maxHeartbeats 4000000 in
theorem rcheck_ok (A : Option Addr) (m c : Nat) (l : List IV) (y : Int) (w : World) (h : Reads w w.heap.size 4 A m (icells l)) (hl : ∀ x ∈ l, 0 ≤ x.pr ∧ x.pr ≤ 100 ∧ 0 ≤ x.since ∧ x.since ≤ 253402300799) (hy : 1 ≤ y ∧ y ≤ 68719476736) (hm : m ≤ 9223372036854775807) :
    Calls Try.prog 66 #[.int .i64 y, .slice A m c] w fun e w' => e = .returned (.int .i64 0) ∧ Fr No w w' := by
  have HR := Lib.hid h
  have HL := Lib.hid (reads_ilen h)
  have HO := Lib.hid hl
  have b1 : decide (y < 1) = false := by simp; omega
  have b2 : decide (68719476736 < y) = false := by simp; omega
  clear h hl hy
  go_enter Try.func66, Try.ntmps66
  go_wp2
  go_loopw [5, 6] (fun ev i wr => ∃ (k q : Nat), i = .int .i64 k ∧ k ≤ m ∧ ev = .int .i64 0 ∧ Hid (wr = w.drewN q)) (fun _ i _ => m - (intOf i).toNat)
  case atStart => exact ⟨0, 0, rfl, Nat.zero_le _, rfl, Lib.hid rfl⟩
  case round =>
    obtain ⟨k, q, rfl, hk, rfl, HW⟩ := hrel
    by_cases hlt : k < m
    · obtain ⟨g, off, rfl, hg, hll, c0, c1, c2, c3⟩ := reads_item HR.out hlt
      have ho := HO.out _ (getD_mem' (show k < l.length by rw [HL.out]; exact hlt))
      generalize l.getD k IV.zero = x at *
      obtain ⟨id, pr, since, seq⟩ := x
      dsimp only at c1 c2 ho
      have HONE := Lib.hid (fun X => one_any pr since ⟨ho.1, ho.2.1⟩ ⟨ho.2.2.1, ho.2.2.2⟩ X)
      have d1 : wr.cell? ⟨g, off + k * 4 + 1, none⟩ = some (.int .i64 pr) := by rw [HW.out]; exact c1
      have d2 : wr.cell? ⟨g, off + k * 4 + 2, none⟩ = some (.int .i64 since) := by rw [HW.out]; exact c2
      have hlt2 : (k : Int) < (m : Int) := by omega
      clear c0 c1 c2 c3 ho hll
      go_wp2
      go_quiet ((go_at_call 70; exact Calls.quiet_of_same (HONE.out _)))
      go_wp2
      go_roundw
      case rel => exact ⟨k + 1, q + nq, by go_num, by omega, rfl, Lib.hid (by rw [HW.out, World.drewN_drewN])⟩
      case measure => simp [intOf]; omega
    · have hlt2 : ¬ (k : Int) < (m : Int) := by omega
      go_wp2
      go_ret
      exact ⟨rfl, by rw [HW.out]; exact (Fr.refl No w).drewN _⟩
theorem rKey_any (p u y : Int) (hp : 0 ≤ p ∧ p ≤ 100) (hu : 0 ≤ u ∧ u ≤ 253402300799) (hy : 1 ≤ y ∧ y ≤ 68719476736) (w : World) : Calls Try.prog 71 #[.int .i64 p, .int .i64 u, .int .i64 y] w fun e w' => e = .returned (.tuple #[.int .i64 (u - p * y), .int .i64 0]) ∧ Fr No w w' := by
  have HC := Lib.hid (rcheck_ok (some ⟨w.heap.size, 0, none⟩) 1 1 [⟨0, p, u, 0⟩] y _ (reads_blk w 31 (icells [⟨0, p, u, 0⟩]) 1 4 rfl) (fun x hx => by rw [List.mem_singleton.1 hx]; exact ⟨hp.1, hp.2, hu.1, hu.2⟩) hy (by omega))
  have HF := Lib.hid ((Fr.refl No w).alloc (.cells #[.int .i64 0, .int .i64 p, .int .i64 u, .int .i64 0] 31))
  simp only [icells, List.flatMap_cons, List.flatMap_nil, IV.cells, List.append_nil] at HC
  obtain ⟨hb0, hb1⟩ := mul_bnd hp.1 hp.2 hy.1 hy.2
  obtain ⟨q, hq⟩ : ∃ q, p * y = q := ⟨_, rfl⟩
  rw [hq] at hb0 hb1
  rw [hq]
  have h0 := hu.1
  have h1 := hu.2
  have hw2 : wrap64 q = q := by unfold wrap64; omega
  clear hp hu hy
  go_enter Try.func71, Try.ntmps71
  go_wp2_with fail
  refine HC.out.mono ?_
  rintro e w1 ⟨rfl, hf⟩
  go_wp2
  go_ret2
  exact ⟨rfl, HF.out.then0 hf⟩
set_option maxRecDepth 100000 in
set_option maxHeartbeats 4000000 in
theorem rbefore_any (a b : IV) (y : Int) (w : World) (ha : a.Ok) (hb : b.Ok) (hy : 1 ≤ y ∧ y ≤ 68719476736) (hne : a.seq ≠ b.seq) :
    Calls Try.prog 67 #[valI a, valI b, .int .i64 y] w fun e w' => e = .returned (.bool (decide (ltM (mkI y a) (mkI y b)))) ∧ Fr No w w' := by
  have KA := Lib.hid (fun X => rKey_any a.pr a.since y ha.pr ha.since hy X)
  have KB := Lib.hid (fun X => rKey_any b.pr b.since y hb.pr hb.since hy X)
  obtain ⟨d, hd⟩ : ∃ d, d = decide (ltM (mkI y a) (mkI y b)) := ⟨_, rfl⟩
  have hcs : ((a.since - a.pr * y != b.since - b.pr * y) = true ∧ d = decide (a.since - a.pr * y < b.since - b.pr * y)) ∨ ((a.since - a.pr * y != b.since - b.pr * y) = false ∧ d = decide (a.seq < b.seq)) := by
    by_cases h1 : a.since - a.pr * y = b.since - b.pr * y
    · right
      exact ⟨by simpa using h1, by rw [hd]; exact decide_eq_decide.2 (by unfold ltM mkI keyI; dsimp only; omega)⟩
    · left
      exact ⟨by simpa using h1, by rw [hd]; exact decide_eq_decide.2 (by unfold ltM mkI keyI; dsimp only; omega)⟩
  rw [← hd]
  clear hd
  have hsq : (a.seq != b.seq) = true := by simpa using hne
  generalize a.since - a.pr * y = ka at *
  generalize b.since - b.pr * y = kb at *
  obtain ⟨aid, apr, asi, asq⟩ := a
  obtain ⟨bid, bpr, bsi, bsq⟩ := b
  unfold valI
  dsimp only at *
  obtain ⟨w0, hw0⟩ : ∃ w0, w0 = (w.alloc (.cells #[.int .i64 aid, .int .i64 apr, .int .i64 asi, .int .i64 asq] 31)).alloc (.cells #[.int .i64 bid, .int .i64 bpr, .int .i64 bsi, .int .i64 bsq] 31) := ⟨_, rfl⟩
  have F0 : Fr No w w0 := by rw [hw0]; exact ((Fr.refl No w).alloc _).alloc _
  have B3 : Blk w0 w.heap.size 31 #[.int .i64 aid, .int .i64 apr, .int .i64 asi, .int .i64 asq] := by rw [hw0]; exact (Blk.new _ _ _).alloc _
  have B4 : Blk w0 (w.heap.size + 1) 31 #[.int .i64 bid, .int .i64 bpr, .int .i64 bsi, .int .i64 bsq] := by
    rw [hw0]
    have := Blk.new (w.alloc (.cells #[.int .i64 aid, .int .i64 apr, .int .i64 asi, .int .i64 asq] 31)) 31 #[.int .i64 bid, .int .i64 bpr, .int .i64 bsi, .int .i64 bsq]
    rwa [World.size_alloc] at this
  have SK := Lib.hid (fun (X : World) (hX : Fr No w0 X) =>
    (show (X.cell? ⟨w.heap.size, 0, none⟩ = some (.int .i64 aid) ∧ X.cell? ⟨w.heap.size, 1, none⟩ = some (.int .i64 apr) ∧ X.cell? ⟨w.heap.size, 2, none⟩ = some (.int .i64 asi) ∧ X.cell? ⟨w.heap.size, 3, none⟩ = some (.int .i64 asq))
      ∧ (X.cell? ⟨w.heap.size + 1, 0, none⟩ = some (.int .i64 bid) ∧ X.cell? ⟨w.heap.size + 1, 1, none⟩ = some (.int .i64 bpr) ∧ X.cell? ⟨w.heap.size + 1, 2, none⟩ = some (.int .i64 bsi) ∧ X.cell? ⟨w.heap.size + 1, 3, none⟩ = some (.int .i64 bsq)) from
    ⟨blk4 (x := ⟨aid, apr, asi, asq⟩) (B3.fr hX (fun z => z)), blk4 (x := ⟨bid, bpr, bsi, bsq⟩) (B4.fr hX (fun z => z))⟩))
  have HW0 := Lib.hid hw0
  have HF0 := Lib.hid F0
  clear B3 B4 hw0 F0 ha hb hy hne
  rcases hcs with ⟨h1, h⟩ | ⟨h1, h⟩
  all_goals
    have HD := Lib.hid h
    clear h
    obtain ⟨⟨s1, s2, s3, s4⟩, s5, s6, s7, s8⟩ := SK.out w0 (Fr.refl No w0)
    go_enter Try.func67, Try.ntmps67
    go_wp2_with fail
    rw [← HW0.out]
    refine (KA.out _).mono ?_
    rintro e w2 ⟨rfl, hf⟩
    have F2 := Lib.hid ((Fr.refl No w0).then0 hf)
    clear s1 s2 s3 s4 s5 s6 s7 s8 hf
    obtain ⟨⟨s1, s2, s3, s4⟩, s5, s6, s7, s8⟩ := SK.out w2 F2.out
    go_wp2_with fail
    refine (KB.out _).mono ?_
    rintro e w3 ⟨rfl, hf⟩
    have F3 := Lib.hid (F2.out.then0 hf)
    clear s1 s2 s3 s4 s5 s6 s7 s8 hf
    obtain ⟨⟨s1, s2, s3, s4⟩, s5, s6, s7, s8⟩ := SK.out w3 F3.out
    go_wp2
    go_ret
    exact ⟨ret1b HD.out.symm, HF0.out.then0 F3.out⟩
set_option maxRecDepth 100000 in
set_option maxHeartbeats 4000000 in
theorem rBefore_any (a b : IV) (y : Int) (w : World) (ha : a.Ok) (hb : b.Ok) (hy : 1 ≤ y ∧ y ≤ 68719476736) (hne : a.seq ≠ b.seq) :
    Calls Try.prog 54 #[valI a, valI b, .int .i64 y] w fun e w' => e = .returned (.tuple #[.bool (decide (ltM (mkI y a) (mkI y b))), .int .i64 0]) ∧ Fr No w w' := by
  have HB := Lib.hid (fun X => rbefore_any a b y X ha hb hy hne)
  have HC := Lib.hid (fun X => rcheck_ok (some ⟨X.heap.size, 0, none⟩) 2 2 [a, b] y _ (reads_blk X 31 (icells [a, b]) 2 4 rfl) (fun x hx => by
    simp only [List.mem_cons, List.not_mem_nil, or_false] at hx
    rcases hx with rfl | rfl
    · exact ⟨ha.pr.1, ha.pr.2, ha.since.1, ha.since.2⟩
    · exact ⟨hb.pr.1, hb.pr.2, hb.since.1, hb.since.2⟩) hy (by omega))
  simp only [icells, List.flatMap_cons, List.flatMap_nil, IV.cells, List.append_nil, List.cons_append, List.nil_append] at HC
  generalize decide (ltM (mkI y a) (mkI y b)) = d at *
  obtain ⟨aid, apr, asi, asq⟩ := a
  obtain ⟨bid, bpr, bsi, bsq⟩ := b
  unfold valI at *
  dsimp only at *
  obtain ⟨w0, hw0⟩ : ∃ w0, w0 = (w.alloc (.cells #[.int .i64 aid, .int .i64 apr, .int .i64 asi, .int .i64 asq] 31)).alloc (.cells #[.int .i64 bid, .int .i64 bpr, .int .i64 bsi, .int .i64 bsq] 31) := ⟨_, rfl⟩
  have F0 : Fr No w w0 := by rw [hw0]; exact ((Fr.refl No w).alloc _).alloc _
  have B3 : Blk w0 w.heap.size 31 #[.int .i64 aid, .int .i64 apr, .int .i64 asi, .int .i64 asq] := by rw [hw0]; exact (Blk.new _ _ _).alloc _
  have B4 : Blk w0 (w.heap.size + 1) 31 #[.int .i64 bid, .int .i64 bpr, .int .i64 bsi, .int .i64 bsq] := by
    rw [hw0]
    have := Blk.new (w.alloc (.cells #[.int .i64 aid, .int .i64 apr, .int .i64 asi, .int .i64 asq] 31)) 31 #[.int .i64 bid, .int .i64 bpr, .int .i64 bsi, .int .i64 bsq]
    rwa [World.size_alloc] at this
  have hs0 : w0.heap.size = w.heap.size + 1 + 1 := by rw [hw0]; simp
  have SK := Lib.hid (fun (X : World) (hX : Fr No w0 X) =>
    (show (X.cell? ⟨w.heap.size, 0, none⟩ = some (.int .i64 aid) ∧ X.cell? ⟨w.heap.size, 1, none⟩ = some (.int .i64 apr) ∧ X.cell? ⟨w.heap.size, 2, none⟩ = some (.int .i64 asi) ∧ X.cell? ⟨w.heap.size, 3, none⟩ = some (.int .i64 asq))
      ∧ (X.cell? ⟨w.heap.size + 1, 0, none⟩ = some (.int .i64 bid) ∧ X.cell? ⟨w.heap.size + 1, 1, none⟩ = some (.int .i64 bpr) ∧ X.cell? ⟨w.heap.size + 1, 2, none⟩ = some (.int .i64 bsi) ∧ X.cell? ⟨w.heap.size + 1, 3, none⟩ = some (.int .i64 bsq)) from
    ⟨blk4 (x := ⟨aid, apr, asi, asq⟩) (B3.fr hX (fun z => z)), blk4 (x := ⟨bid, bpr, bsi, bsq⟩) (B4.fr hX (fun z => z))⟩))
  have HW0 := Lib.hid hw0
  have HF0 := Lib.hid F0
  have HC0 := Lib.hid (HC.out w0)
  rw [hs0] at HC0
  clear B3 B4 hw0 F0 ha hb hy hne hs0
  obtain ⟨⟨s1, s2, s3, s4⟩, s5, s6, s7, s8⟩ := SK.out w0 (Fr.refl No w0)
  go_enter Try.func54, Try.ntmps54
  go_wp2_with fail
  rw [← HW0.out]
  refine HC0.out.mono ?_
  rintro e w2 ⟨rfl, hf⟩
  have F2 := Lib.hid (((Fr.refl No w0).alloc _).then0 hf)
  clear s1 s2 s3 s4 s5 s6 s7 s8 hf
  obtain ⟨⟨s1, s2, s3, s4⟩, s5, s6, s7, s8⟩ := SK.out w2 F2.out
  go_wp2_with fail
  refine (HB.out _).mono ?_
  rintro e w3 ⟨rfl, hf⟩
  have F3 := Lib.hid (F2.out.then0 hf)
  clear hf
  go_wp2
  go_ret2
  exact ⟨rfl, HF0.out.then0 F3.out⟩
end Go.Proofs.Ytcjcoigjedcieaa
