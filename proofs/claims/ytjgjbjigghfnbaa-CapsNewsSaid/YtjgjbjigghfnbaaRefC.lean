/- The document's caps: New, Copy. -/
import Derived.Test.YtjgjbjigghfnbaaRefB
import Derived.Deep.RegionLaw
import Derived.Deep.OwnRows
import Derived.StillTailTactics
namespace Go.Proofs.Ytjgjbjigghfnbaa
open Go.RowKit Go.Wk

theorem own_nil (w : World) (base : Nat) (e : TypeId) : w.ownsRow base e 1 (.slice none 0 0) 0 [] := ⟨by simp, .inl ⟨rfl, rfl⟩⟩

theorem cells_take_at (l : List Int) (n j : Nat) (hj : j < n) (hl : n ≤ l.length) : (cells .i64 (l.take n))[j]? = some (.int .i64 (l.getD j 0)) := by
  simp [cells, hj, show j < l.length by omega]

theorem row_of_own {w : World} {base n c : Nat} {A : Option Addr} {l : List Int} (h : w.ownsRow base 3 1 (.slice A n c) n (cells .i64 (l.take n))) (hn : 0 < n) (hl : n ≤ l.length) :
    ∃ g, A = some ⟨g, 0, none⟩ ∧ base ≤ g ∧ RowAt w g n (fun j => l.getD j 0) := by
  rcases h.2 with ⟨_, h0⟩ | ⟨g, cap, cur, hv, hb, hh, _, _, _, ht⟩
  · omega
  · injection hv with ha
    refine ⟨g, ha, hb, cur, hh, fun j hj => ?_⟩
    have := cells_take_at l n j hj hl
    rw [← ht, List.getElem?_take, if_pos (by omega)] at this
    simpa using this

theorem RefAt.mk_own {w : World} {b base c c' : Nat} {A A' : Option Addr} {s : CS} (hb : Blk w b 65 #[.bool true, .int .i64 s.all, .slice A s.jobs c, .slice A' s.jobs c'])
    (h1 : w.ownsRow base 3 1 (.slice A s.jobs c) s.jobs (cells .i64 (s.most.take s.jobs))) (h2 : w.ownsRow base 3 1 (.slice A' s.jobs c') s.jobs (cells .i64 (s.runs.take s.jobs)))
    (hap : ∀ g, (Value.slice A s.jobs c).ownBlock = some g → (Value.slice A' s.jobs c').ownBlock ≠ some g) (hok : s.ok) (ht : ∀ j, s.jobs ≤ j → s.r j = 0) (hbase : base ≤ b) :
    ∃ e r, base ≤ e ∧ base ≤ r ∧ e < w.heap.size ∧ r < w.heap.size ∧ RefAt w b e r s := by
  by_cases hn : 0 < s.jobs
  · have l1 := hok.lm; have l2 := hok.lr; have l3 := hok.jobs
    obtain ⟨e, rfl, he, re⟩ := row_of_own h1 hn (by omega)
    obtain ⟨r, rfl, hr, rr⟩ := row_of_own h2 hn (by omega)
    have hne : e ≠ r := fun h => hap e rfl (by rw [h]; rfl)
    refine ⟨e, r, he, hr, ?_, ?_, ⟨⟨_, _, _, _, hb, fun _ => ⟨rfl, rfl⟩⟩, fun _ => ⟨hne, re, rr⟩, hok, ht⟩⟩
    · obtain ⟨_, q, _⟩ := re; exact q.lt
    · obtain ⟨_, q, _⟩ := rr; exact q.lt
  · exact ⟨b, b, hbase, hbase, hb.lt, hb.lt, ⟨⟨_, _, _, _, hb, fun h => absurd h hn⟩, fun h => absurd h hn, hok, ht⟩⟩

theorem RefAt.open2 {w : World} {b e r : Nat} {s : CS} (h : RefAt w b e r s) : ∃ A c A' c', Blk w b 65 #[.bool true, .int .i64 s.all, .slice A s.jobs c, .slice A' s.jobs c'] ∧
    Reads w w.heap.size 1 A s.jobs (cells .i64 (s.most.take s.jobs)) ∧ Reads w w.heap.size 1 A' s.jobs (cells .i64 (s.runs.take s.jobs)) := by
  obtain ⟨A, c, A', c', h1, h2⟩ := h.blk
  have l1 := h.ok.lm; have l2 := h.ok.lr; have l3 := h.ok.jobs
  have key : ∀ (l : List Int) (B : Option Addr) (g : Nat) (f : Nat → Int), s.jobs ≤ l.length → (0 < s.jobs → B = some ⟨g, 0, none⟩ ∧ RowAt w g s.jobs f) → (∀ j, f j = l.getD j 0) → Reads w w.heap.size 1 B s.jobs (cells .i64 (l.take s.jobs)) := by
    intro l B g f hl hB hf
    refine ⟨by simp [cells]; omega, fun hn => ?_⟩
    obtain ⟨rfl, cs, hcs, hj⟩ := hB hn
    refine ⟨_, rfl, hcs.lt, fun j u hu => ?_⟩
    have hjl : j < s.jobs := by
      rcases Nat.lt_or_ge j s.jobs with h | h
      · exact h
      · rw [List.getElem?_eq_none (by simp [cells]; omega)] at hu; cases hu
    rw [cells_take_at l _ j hjl hl, ← hf] at hu
    rw [add_plain, Nat.zero_add, hcs.cell, hj j hjl, hu]
  exact ⟨A, c, A', c', h1, key s.most A e s.m (by omega) (fun hn => ⟨(h2 hn).1, (h.rows hn).2.1⟩) (fun _ => rfl), key s.runs A' r s.r (by omega) (fun hn => ⟨(h2 hn).2, (h.rows hn).2.2⟩) (fun _ => rfl)⟩

theorem cells_one (l : List Int) : ∀ u ∈ cells .i64 l, u.oneCell' = true := ints_oneCell _ _

theorem rcopy_any (b e r : Nat) (s : CS) (w : World) (h : RefAt w b e r s) :
    Calls Try.prog 23 #[.pointer (some ⟨b, 0, none⟩)] w fun x w' => ∃ b' e' r', x = .returned (.pointer (some ⟨b', 0, none⟩)) ∧ w.heap.size ≤ b' ∧ w.heap.size ≤ e' ∧ w.heap.size ≤ r' ∧ e' < w'.heap.size ∧ r' < w'.heap.size ∧ RefAt w' b' e' r' s ∧ Fr No w w' := by
  have HR := Lib.hid h
  obtain ⟨A, c, A', c', hblk, hA, hA'⟩ := h.open2
  have c0 := hblk.cell 0
  have c1 := hblk.cell 1
  have c2 := hblk.cell 2
  have c3 := hblk.cell 3
  simp at c0 c1 c2 c3
  have hjb := h.ok.jobs
  have HB := Lib.hid hblk
  have RA := Lib.hid hA
  have RA' := Lib.hid hA'
  obtain ⟨i0, hi, hz0, hz1, hz2⟩ : ∃ i, Try.prog.info? 3 = some i ∧ i.zero = some (.int .i64 0) ∧ i.size = 1 ∧ i.bytes = 8 := ⟨_, rfl, rfl, rfl, rfl⟩
  have hbl : b < w.heap.size := hblk.lt
  clear h hblk hA hA'
  go_enter Try.func23, Try.ntmps23
  go_wp2_with fail
  obtain ⟨w1, hw1⟩ : ∃ w1, w1 = w.alloc (.cells #[.bool true, .int .i64 s.all, .slice none 0 0, .slice none 0 0] 65) := ⟨_, rfl⟩
  rw [← hw1]
  have hD : Blk w1 w.heap.size 65 #[.bool true, .int .i64 s.all, .slice none 0 0, .slice none 0 0] := by rw [hw1]; exact Blk.new _ _ _
  have F1 : Fr No w w1 := by rw [hw1]; exact (Fr.refl No w).alloc _
  have hs1 : w1.heap.size = w.heap.size + 1 := by rw [hw1]; simp
  clear hw1
  have d2 := hD.cell 2
  have k2 := ((HB.out.fr F1 (fun x => x)).cell 2)
  simp at d2 k2
  clear c0 c1 c2 c3
  have R1 : Reads w1.drew w.heap.size 1 A s.jobs (cells .i64 (s.most.take s.jobs)) := (RA.out.fr F1 (Nat.le_refl _) (fun _ _ x => x)).drew
  have HR1 := Lib.hid R1
  clear R1
  have hb1 : (0 + s.jobs) * 8 ≤ 140737488355328 := by omega
  have hb0 : 0 + s.jobs ≤ maxLen := by unfold maxLen; omega
  have HB1 := Lib.hid hb1
  have HB0 := Lib.hid hb0
  have HBS := Lib.hid (show w.heap.size ≤ w1.drew.heap.size by show _ ≤ w1.heap.size; omega)
  clear hb1 hb0
  go_region_law ((refine step_append_any _ rfl (.tmp 23) (.tmp 27) 24 rfl w.heap.size 3 i0 (.int .i64 0) 1 8 Try.underlying24 hi hz0 hz1 hz2 rfl (by omega) (.slice none 0 0) 0 [] (by simp [Act.eval]) (own_nil _ _ _) w.heap.size A s.jobs c (cells .i64 (s.most.take s.jobs)) (by simp [Act.eval]) HR1.out (cells_one _) HB0.out HB1.out HBS.out ?_; intro v' w2 hown2 hg2 hloc2; obtain ⟨A2, q2, rfl, hk1, hk2, hrd2⟩ := Reads.of_cells hown2 (Nat.le_refl _); have F2 : Fr No w1 w2 := (Fr.refl No w1).drew.trans (Fr.of_grown (S := No) hg2 (fun k hk => by cases hk)) (fun _ _ x => x); have hD2 := hD.fr F2 (fun x => x); have g2 := (hD2.cell 2); have fz2 := hD2.frozen 2; simp only [List.getElem?_toArray, List.getElem?_cons_succ, List.getElem?_cons_zero] at g2))
  all_goals
    rw [Nat.zero_add, List.nil_append] at hown2
    have hs2 : w.heap.size < w2.heap.size := hD2.lt
    have F3 : Fr No w (w2.setCell ⟨w.heap.size, 2, none⟩ (.slice A2 s.jobs q2)) := (F1.then0 F2).setCell (.inl (Nat.le_refl _)) _
    have hD3 : Blk (w2.setCell ⟨w.heap.size, 2, none⟩ (.slice A2 s.jobs q2)) w.heap.size 65 #[.bool true, .int .i64 s.all, .slice A2 s.jobs q2, .slice none 0 0] := hD2.set_ 2 _
    have hown3 : (w2.setCell ⟨w.heap.size, 2, none⟩ (.slice A2 s.jobs q2)).ownsRow w.heap.size 3 1 (.slice A2 s.jobs q2) s.jobs (cells .i64 (s.most.take s.jobs)) :=
      own_fr hown2 ((Fr.refl (· = w.heap.size) w2).setCell (.inr rfl) _) (own_blk_ne hown2 hD2 (by decide))
    generalize w2.setCell ⟨w.heap.size, 2, none⟩ (.slice A2 s.jobs q2) = w3 at *
    go_wp2_with fail
    have e3 := hD3.cell 3
    have k3 := (HB.out.fr F3 (fun x => x)).cell 3
    simp only [List.getElem?_toArray, List.getElem?_cons_succ, List.getElem?_cons_zero] at e3 k3
    have HR3 := Lib.hid ((RA'.out.fr F3 (Nat.le_refl _) (fun _ _ x => x)).drew)
    have HBS3 := Lib.hid (show w.heap.size ≤ w3.drew.heap.size by exact F3.size)
    go_region_law ((refine step_append_any _ rfl (.tmp 35) (.tmp 39) 24 rfl w.heap.size 3 i0 (.int .i64 0) 1 8 Try.underlying24 hi hz0 hz1 hz2 rfl (by omega) (.slice none 0 0) 0 [] (by simp [Act.eval]) (own_nil _ _ _) w.heap.size A' s.jobs c' (cells .i64 (s.runs.take s.jobs)) (by simp [Act.eval]) HR3.out (cells_one _) HB0.out HB1.out HBS3.out ?_; intro v' w4 hown4 hg4 hloc4; obtain ⟨A4, q4, rfl, hk3, hk4, hrd4⟩ := Reads.of_cells hown4 (Nat.le_refl _); have F4 : Fr No w3 w4 := (Fr.refl No w3).drew.trans (Fr.of_grown (S := No) hg4 (fun k hk => by cases hk)) (fun _ _ x => x); have hD4 := hD3.fr F4 (fun x => x); have g4 := (hD4.cell 3); have fz4 := hD4.frozen 3; simp only [List.getElem?_toArray, List.getElem?_cons_succ, List.getElem?_cons_zero] at g4))
    all_goals
      go_wp2
      go_ret
      rw [Nat.zero_add, List.nil_append] at hown4
      rw [Nat.zero_add] at hloc4
      have hown5 : (w4.setCell ⟨w.heap.size, 3, none⟩ (.slice A4 s.jobs q4)).ownsRow w.heap.size 3 1 (.slice A4 s.jobs q4) s.jobs (cells .i64 (s.runs.take s.jobs)) :=
        own_fr hown4 ((Fr.refl (· = w.heap.size) w4).setCell (.inr rfl) _) (own_blk_ne hown4 hD4 (by decide))
      have hown5' : (w4.setCell ⟨w.heap.size, 3, none⟩ (.slice A4 s.jobs q4)).ownsRow w.heap.size 3 1 (.slice A2 s.jobs q2) s.jobs (cells .i64 (s.most.take s.jobs)) :=
        own_fr (own_fr hown3 F4 (fun _ _ x => x)) ((Fr.refl (· = w.heap.size) w4).setCell (.inr rfl) _) (own_blk_ne hown3 hD3 (by decide))
      obtain ⟨e', r', he', hr', he2, hr2, hRR⟩ := RefAt.mk_own (hD4.set_ 3 (.slice A4 s.jobs q4)) hown5' hown5 (fun g hg hg' => by
        have hlt : g < w3.heap.size := by
          rcases hown3.2 with ⟨h, _⟩ | ⟨g', cap, cur, h, _, hh, _⟩
          · injection h with h; subst h; simp [Value.ownBlock] at hg
          · injection h with h; subst h
            have hgg : g' = g := by simpa [Value.ownBlock] using hg
            subst hgg
            exact (Array.getElem?_eq_some_iff.1 hh).1
        rcases hloc4 with h | h
        · rw [h] at hg'; cases hg'
        · rw [h] at hg'; injection hg' with hg'
          have : w3.heap.size = g := hg'
          omega) HR.out.ok HR.out.tail (Nat.le_refl _)
      exact ⟨_, e', r', rfl, Nat.le_refl _, he', hr', he2, hr2, hRR, (F3.then0 F4).setCell (.inl (Nat.le_refl _)) _⟩
end Go.Proofs.Ytjgjbjigghfnbaa
