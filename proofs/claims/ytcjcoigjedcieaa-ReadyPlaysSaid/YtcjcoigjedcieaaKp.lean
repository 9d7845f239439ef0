/- ReadyKeeps: the walk. -/
import Derived.Test.YtcjcoigjedcieaaTk
import Derived.Laws.EntriesVeiled
namespace Go.Proofs.Ytcjcoigjedcieaa
open Go.RowKit Go.Wk

theorem yes30 (i : Int) (hi : 0 ≤ i ∧ i ≤ 100000) (x : IV) (b : Nat) (w : World) (hc : w.cell? ⟨b, 0, none⟩ = some (.int .i64 i)) (hb : b < w.heap.size) : Calls Try.prog 30 #[valI x, .pointer (some ⟨b, 0, none⟩)] w fun e w' => e = .returned (.bool (x.id == 1000 + i)) ∧ Fr No w w' := by
  obtain ⟨x1, x2, x3, x4⟩ := x
  unfold valI
  dsimp only
  have h0 := hi.1
  have h1 := hi.2
  have F := Lib.hid ((Fr.refl No w).alloc (.cells #[.int .i64 x1, .int .i64 x2, .int .i64 x3, .int .i64 x4] 31))
  clear hi
  go_enter Try.func30, Try.ntmps30
  go_wp2
  go_ret
  exact ⟨rfl, F.out⟩
theorem yes31 (x : Int) (w : World) : Calls Try.prog 31 #[.int .i64 x] w fun e w' => e = .returned (.bool true) ∧ w = w' := by
  go_enter Try.func31, Try.ntmps31
  go_wp2
  go_ret
  exact ⟨rfl, rfl⟩
theorem yes32 (x : Int) (w : World) : Calls Try.prog 32 #[.int .i64 x] w fun e w' => e = .returned (.bool true) ∧ w = w' := by
  go_enter Try.func32, Try.ntmps32
  go_wp2
  go_ret
  exact ⟨rfl, rfl⟩
/-- Pick with a function that says yes takes the first. -/
theorem pick_yes {s : QS} (h : 0 < s.l.length) : pickV (fun _ => true) s = (s.l.getD 0 IV.zero).id ∧ pickB (fun _ => true) s = true ∧ pickS (fun _ => true) s = ⟨s.l.drop 1, s.size, s.ag, s.added⟩ := by
  have e : pickN (fun _ => true) s.l = 0 := pickN_eq (Nat.zero_le _) (fun j hj => by omega) (fun _ => rfl)
  refine ⟨by unfold pickV; rw [e, if_pos h], by unfold pickB; rw [e]; simpa using h, by unfold pickS; rw [e, if_pos h]; unfold QS.cut; simp⟩
theorem head_of {s : QS} (h : 0 < s.l.length) : headV s = (s.l.getD 0 IV.zero).id ∧ headB s = true := by
  have hne : s.l ≠ [] := fun e => by rw [e] at h; simp at h
  exact ⟨by unfold headV; rw [if_neg hne], by unfold headB; cases hs : s.l with | nil => exact absurd hs hne | cons a l => rfl⟩

/-- The queue while others are added and the first are taken out. -/
structure KeepI (s : QS) (a : Int) (m k : Nat) : Prop where
  ok : s.ok
  size : s.size = 120
  ag : s.ag = a
  added : s.added = m + k
  len : s.l.length = m
  ids : ∀ e ∈ s.l, (0 ≤ e.id ∧ e.id < 1000) ∨ (1000 ≤ e.id ∧ e.id < 1000 + k)
theorem KeepI.push {s : QS} {a : Int} {m k : Nat} (h : KeepI s a m k) (hm : m ≤ 60) (hk : k < 60) {p u : Int} (hp : 0 ≤ p ∧ p ≤ 100) (hu : 0 ≤ u ∧ u ≤ 253402300799) :
    pushE s (1000 + k) p u = 0 ∧ pushS s (1000 + k) p u = s.add (1000 + k) p u ∧ (s.add (1000 + k) p u).ok ∧ (s.add (1000 + k) p u).l.length = m + 1 ∧
      (∃ i, i ≤ m ∧ idxF (fun x => x.id == 1000 + (k : Int)) (s.add (1000 + k) p u).l = (i : Int) ∧ icells s.l = delL (icells (s.add (1000 + k) p u).l) (i * 4) ((i + 1) * 4)) ∧
      KeepI ⟨(s.add (1000 + k) p u).l.drop 1, s.size, s.ag, s.added + 1⟩ a m (k + 1) := by
  have hb : byId s.l (1000 + k) = none := byId_none fun e he => by have := h.ids e he; omega
  have hB : hasB s (1000 + k) = false := by unfold hasB; rw [hb]; rfl
  have hE : pushE s (1000 + k) p u = 0 := by
    unfold pushE
    rw [if_neg (by omega), if_neg (by omega), hB, if_neg (by simp), if_neg (by rw [h.size, h.len]; omega)]
  have hok : (s.add (1000 + k) p u).ok := add_ok h.ok (by unfold fits; omega) hp hu hb (by rw [h.size, h.len]; omega) (by rw [h.added]; omega)
  have hl : (s.add (1000 + k) p u).l.length = m + 1 := by show (insQ _ _ _).length = _; rw [insQ_len, h.len]
  refine ⟨hE, by unfold pushS; rw [if_pos hE], hok, hl, ⟨idx s.ag s.l (mkI s.ag ⟨1000 + k, p, u, s.added + 1⟩), ?_, ?_, ?_⟩, ?_⟩
  · have := idx_le s.ag s.l (mkI s.ag ⟨1000 + k, p, u, s.added + 1⟩)
    rw [h.len] at this
    exact this
  · generalize hi : idx s.ag s.l (mkI s.ag ⟨1000 + k, p, u, s.added + 1⟩) = i
    have hil : i ≤ s.l.length := by rw [← hi]; exact idx_le _ _ _
    have e1 : (s.add (1000 + k) p u).l = s.l.take i ++ ⟨1000 + k, p, u, s.added + 1⟩ :: s.l.drop i := by rw [← hi]; rfl
    have e2 : (s.add (1000 + k) p u).l.findIdx (fun x => x.id == 1000 + (k : Int)) = i := by
      rw [e1, List.findIdx_append]
      have hno : (s.l.take i).findIdx (fun x => x.id == 1000 + (k : Int)) = (s.l.take i).length := by
        rw [List.findIdx_eq_length]
        intro z hz
        have := h.ids z (List.mem_of_mem_take hz)
        simp; omega
      rw [hno, if_neg (Nat.lt_irrefl _), List.findIdx_cons]
      simp
      omega
    unfold idxF
    rw [e2, hl, if_pos (by have := h.len; omega)]
  · generalize hi : idx s.ag s.l (mkI s.ag ⟨1000 + k, p, u, s.added + 1⟩) = i
    have hil : i ≤ s.l.length := by rw [← hi]; exact idx_le _ _ _
    have e1 : (s.add (1000 + k) p u).l = s.l.take i ++ ⟨1000 + k, p, u, s.added + 1⟩ :: s.l.drop i := by rw [← hi]; rfl
    have e3 := icells_cut (s.add (1000 + k) p u) i
    rw [← e3]
    congr 1
    unfold QS.cut
    dsimp only
    rw [e1]
    have hlt : (s.l.take i).length = i := by rw [List.length_take]; omega
    have e4 : (s.l.take i ++ (⟨1000 + (k : Int), p, u, s.added + 1⟩ : IV) :: s.l.drop i).drop (i + 1) = s.l.drop i := by
      have := List.drop_length_add_append (i := 1) (l₁ := s.l.take i) (l₂ := (⟨1000 + (k : Int), p, u, s.added + 1⟩ : IV) :: s.l.drop i)
      rw [hlt] at this
      rw [this]; rfl
    rw [e4, List.take_left' hlt, List.take_append_drop]
  · refine ⟨?_, h.size, h.ag, by show s.added + 1 = _; rw [h.added]; omega, by show ((s.add (1000 + k) p u).l.drop 1).length = m; rw [List.length_drop, hl]; omega, fun e he => ?_⟩
    · exact sub_ok hok (List.drop_sublist 1 _)
    · rcases insQ_mem.1 (List.mem_of_mem_drop he) with rfl | he
      · right; dsimp only; omega
      · have := h.ids e he; omega
end Go.Proofs.Ytcjcoigjedcieaa
