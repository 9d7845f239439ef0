/- The document's caps (wakemanref25): what its functions do to a block that reads as caps. -/
import Derived.Test.YtjgjbjigghfnbaaMade
namespace Go.Proofs.Ytjgjbjigghfnbaa
open Go.RowKit Go.Wk

/-- Block g holds the numbers f 0, .., f (n - 1). -/
def RowAt (w : World) (g n : Nat) (f : Nat → Int) : Prop := ∃ cs : Array Value, Blk w g 3 cs ∧ ∀ j, j < n → cs[j]? = some (.int .i64 (f j))

/-- Block b is the document's caps in state s; its two slices lie in e and r (where there are jobs). -/
structure RefAt (w : World) (b e r : Nat) (s : CS) : Prop where
  blk : ∃ A c A' c', Blk w b 65 #[.bool true, .int .i64 s.all, .slice A s.jobs c, .slice A' s.jobs c'] ∧ (0 < s.jobs → A = some ⟨e, 0, none⟩ ∧ A' = some ⟨r, 0, none⟩)
  rows : 0 < s.jobs → e ≠ r ∧ RowAt w e s.jobs s.m ∧ RowAt w r s.jobs s.r
  ok : s.ok
  tail : ∀ j, s.jobs ≤ j → s.r j = 0

theorem RowAt.fr {S : Nat → Prop} {w w' : World} {g n : Nat} {f : Nat → Int} (h : RowAt w g n f) (hb : Fr S w w') (hs : ¬ S g) : RowAt w' g n f := by
  obtain ⟨cs, h1, h2⟩ := h; exact ⟨cs, h1.fr hb hs, h2⟩
theorem RefAt.fr {S : Nat → Prop} {w w' : World} {b e r : Nat} {s : CS} (h : RefAt w b e r s) (hf : Fr S w w') (hb : ¬ S b) (he : ¬ S e) (hr : ¬ S r) : RefAt w' b e r s := by
  obtain ⟨A, c, A', c', h1, h2⟩ := h.blk
  exact ⟨⟨A, c, A', c', h1.fr hf hb, h2⟩, fun hn => ⟨(h.rows hn).1, (h.rows hn).2.1.fr hf he, (h.rows hn).2.2.fr hf hr⟩, h.ok, h.tail⟩

theorem RefAt.open0 {w : World} {b e r : Nat} {s : CS} (h : RefAt w b e r s) : ∃ A c A' c', w.cell? ⟨b, 0, none⟩ = some (.bool true) ∧ w.cell? ⟨b, 1, none⟩ = some (.int .i64 s.all) ∧
    w.cell? ⟨b, 2, none⟩ = some (.slice A s.jobs c) ∧ w.cell? ⟨b, 3, none⟩ = some (.slice A' s.jobs c') := by
  obtain ⟨A, c, A', c', h1, _⟩ := h.blk
  exact ⟨A, c, A', c', h1.cell 0, h1.cell 1, h1.cell 2, h1.cell 3⟩
theorem RefAt.open1 {w : World} {b e r : Nat} {s : CS} (h : RefAt w b e r s) {j : Nat} (hj : j < s.jobs) : ∃ c c', w.cell? ⟨b, 0, none⟩ = some (.bool true) ∧ w.cell? ⟨b, 1, none⟩ = some (.int .i64 s.all) ∧
    w.cell? ⟨b, 2, none⟩ = some (.slice (some ⟨e, 0, none⟩) s.jobs c) ∧ w.cell? ⟨b, 3, none⟩ = some (.slice (some ⟨r, 0, none⟩) s.jobs c') ∧ w.cell? ⟨e, j, none⟩ = some (.int .i64 (s.m j)) ∧ w.cell? ⟨r, j, none⟩ = some (.int .i64 (s.r j)) := by
  obtain ⟨A, c, A', c', h1, h2⟩ := h.blk
  obtain ⟨rfl, rfl⟩ := h2 (by omega)
  obtain ⟨_, ⟨ms, hm, hm2⟩, ⟨rs, hr, hr2⟩⟩ := h.rows (by omega)
  exact ⟨c, c', h1.cell 0, h1.cell 1, h1.cell 2, h1.cell 3, (hm.cell j).trans (hm2 j hj), (hr.cell j).trans (hr2 j hj)⟩

theorem rcheck_any (b e r : Nat) (s : CS) (w : World) (job : Int) (h : RefAt w b e r s) :
    Calls Try.prog 35 #[.pointer (some ⟨b, 0, none⟩), .int .i64 job] w fun x w' => x = .returned (.int .i64 (s.err job)) ∧ w = w' := by
  obtain ⟨A, c, A', c', c0, _, c2, _⟩ := h.open0
  have hjb := h.ok.jobs
  clear h
  unfold CS.err CS.has
  generalize s.jobs = jb at *
  by_cases h0 : job < 0
  · rw [show decide (0 ≤ job ∧ job < (jb : Int)) = false by simp; omega]
    go_enter Try.func35, Try.ntmps35
    go_wp2
    go_ret
    exact ⟨rfl, rfl⟩
  · by_cases h1 : (jb : Int) ≤ job
    · rw [show decide (0 ≤ job ∧ job < (jb : Int)) = false by simp; omega]
      go_enter Try.func35, Try.ntmps35
      go_wp2
      go_ret
      exact ⟨rfl, rfl⟩
    · rw [show decide (0 ≤ job ∧ job < (jb : Int)) = true by simp; omega]
      go_enter Try.func35, Try.ntmps35
      go_wp2
      go_ret
      exact ⟨rfl, rfl⟩

theorem rused_any (b e r : Nat) (s : CS) (w : World) (job : Int) (h : RefAt w b e r s) :
    Calls Try.prog 37 #[.pointer (some ⟨b, 0, none⟩), .int .i64 job] w fun x w' => x = .returned (.tuple #[.int .i64 (s.usedV job), .int .i64 (s.err job)]) ∧ w = w' := by
  have H := Lib.hid (rcheck_any b e r s w job h)
  have hjb := h.ok.jobs
  unfold CS.usedV CS.err at *
  by_cases hh : s.has job = true
  · obtain ⟨j, rfl, hj⟩ := CS.has_nat hh
    rw [hh] at H ⊢
    obtain ⟨c, c', c0, c1, c2, c3, ce, cr⟩ := h.open1 hj
    clear h hh
    simp only [if_true, Int.toNat_natCast] at H ⊢
    generalize s.r j = rj at *
    generalize s.jobs = jb at *
    go_enter Try.func37, Try.ntmps37
    go_wp2_with (go_at_call 35; refine H.out.mono ?_; rintro e w1 ⟨rfl, rfl⟩)
    go_ret2
    exact ⟨rfl, rfl⟩
  · have hh' : s.has job = false := by simpa using hh
    rw [hh'] at H ⊢
    clear h hh hh'
    go_enter Try.func37, Try.ntmps37
    go_wp2_with (go_at_call 35; refine H.out.mono ?_; rintro e w1 ⟨rfl, rfl⟩)
    go_ret2
    exact ⟨rfl, rfl⟩

theorem CS.sum_jobs (s : CS) (ht : ∀ j, s.jobs ≤ j → s.r j = 0) : s.runs.sum = (s.runs.take s.jobs).sum := by
  have key : ∀ (l : List Int) (n : Nat), (∀ j, n ≤ j → l.getD j 0 = 0) → l.sum = (l.take n).sum := by
    intro l
    induction l with
    | nil => intro n _; simp
    | cons a l ih =>
      intro n hn
      cases n with
      | zero =>
        have h0 : a = 0 := by simpa using hn 0 (Nat.le_refl _)
        have := ih 0 (fun j _ => by simpa using hn (j + 1) (by omega))
        simp at this ⊢; omega
      | succ n =>
        have := ih n (fun j hj => by simpa using hn (j + 1) (by omega))
        simp only [List.take_succ_cons, List.sum_cons, this]
  exact key _ _ ht

theorem rtotal_any (b e r : Nat) (s : CS) (w : World) (h : RefAt w b e r s) :
    Calls Try.prog 39 #[.pointer (some ⟨b, 0, none⟩)] w fun x w' => x = .returned (.int .i64 s.total) ∧ w = w' := by
  have HR := Lib.hid h
  have hjb := h.ok.jobs
  have HT := Lib.hid (h.ok.sum.trans (s.sum_jobs h.tail))
  have HL := Lib.hid h.ok.lr
  have HB := Lib.hid (fun j => (show 0 ≤ s.r j ∧ s.r j ≤ 1000 from ⟨h.ok.r0 j, Int.le_trans (h.ok.r1 j) (h.ok.m1 j)⟩))
  obtain ⟨A, c, A', c', c0, _, _, c3⟩ := h.open0
  clear h
  obtain ⟨jb, hjobs⟩ : ∃ jb, jb = s.jobs := ⟨_, rfl⟩
  rw [← hjobs] at hjb c3
  have HJ := Lib.hid hjobs
  clear hjobs
  go_enter Try.func39, Try.ntmps39
  go_wp2
  go_loop [3, 4] (fun n i => ∃ k : Nat, k ≤ jb ∧ i = .int .i64 k ∧ ∃ x : Int, n = .int .i64 x ∧ 0 ≤ x ∧ x ≤ 1000 * k ∧ Hid (x = (s.runs.take k).sum)) (fun _ i => jb - (intOf i).toNat)
  case atStart => exact ⟨0, Nat.zero_le _, rfl, 0, rfl, by simp, by simp, by simp [Hid]⟩
  case round =>
    obtain ⟨k, hk, rfl, x, rfl, hx0, hx1, hx⟩ := hrel
    by_cases hlt : k < jb
    · obtain ⟨c1, c1', _, _, _, d3, _, dr⟩ := HR.out.open1 (j := k) (by rw [← HJ.out]; exact hlt)
      rw [← HJ.out] at d3
      have hb := HB.out k
      obtain ⟨y, hy⟩ : ∃ y, y = s.r k := ⟨_, rfl⟩
      rw [← hy] at dr hb
      have HY := Lib.hid hy
      clear hy c3
      go_wp2
      go_round
      case rel =>
        refine ⟨k + 1, by omega, by go_num, x + y, by go_num, by omega, by omega, ?_⟩
        show x + y = _
        have hl := HL.out
        have hx' : x = (s.runs.take k).sum := hx
        rw [take_snoc _ _ (by omega), List.sum_append, ← hx', HY.out]
        simp [CS.r]
      case measure => simp [intOf]; omega
    · go_wp2
      go_ret
      have hx' : x = (s.runs.take k).sum := hx
      exact ⟨ret1i (by rw [HT.out, ← HJ.out, show jb = k by omega, ← hx']), rfl⟩
end Go.Proofs.Ytjgjbjigghfnbaa
