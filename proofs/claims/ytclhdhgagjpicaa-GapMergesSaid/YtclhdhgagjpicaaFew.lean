/- The laws' few: lists that are looked at. -/
import Derived.Test.YtclhdhgagjpicaaA
namespace Go.Proofs.Ytclhdhgagjpicaa
open Go.RowKit Go.Wk

theorem few1 (A : Option Addr) (n c : Nat) (w : World) : Calls Try.prog 46 #[.slice A n c] w fun e w' => e = .returned (.bool (decide (700 < (n : Int)))) ∧ w = w' := by
  go_enter Try.func46, Try.ntmps46
  go_wp2
  go_ret
  exact ⟨rfl, rfl⟩
def big (s : SL) : Bool := decide (700 < s.n)
def IdxOf (ss : List SL) (w : World) (e : Ending) (w' : World) : Prop := ∃ i : Int, e = .returned (.int .i64 i) ∧ decide (0 ≤ i) = ss.any big ∧ w = w'
theorem idx_any (g k c : Nat) (ss : List SL) (w : World) (hk : k ≤ 1000) (hl : ss.length = k) (h : ∀ i, i < k → w.cell? ⟨g, i, none⟩ = some (.slice (ss.getD i SL.nil).A (ss.getD i SL.nil).n (ss.getD i SL.nil).c)) :
    Calls Try.prog 55 #[.slice (some ⟨g, 0, none⟩) k c, .func (.func 46) #[] #[]] w fun e w' => IdxOf ss w e w' := by
  have HH := Lib.hid h
  have HL := Lib.hid hl
  clear h hl
  go_enter Try.func55, Try.ntmps55
  go_wp2
  go_loopw [8] (fun i wr => ∃ q : Nat, i = .int .i64 q ∧ q ≤ k ∧ w = wr ∧ Hid ((ss.take q).any big = false)) (fun i _ => k - (intOf i).toNat)
  case atStart => exact ⟨0, rfl, Nat.zero_le _, rfl, Lib.hid rfl⟩
  case round =>
    obtain ⟨q, rfl, hq, rfl, HM⟩ := hrel
    by_cases hlt : q < k
    · have hc := HH.out q hlt
      have HS := Lib.hid (any_take_succ (p := big) SL.nil (show q < ss.length by rw [HL.out]; exact hlt))
      rw [HM.out] at HS
      generalize ss.getD q SL.nil = s at *
      obtain ⟨A0, n0, c0, l0⟩ := s
      dsimp only at hc
      by_cases hb : 700 < (n0 : Int)
      · have HF := Lib.hid (few1 A0 n0 c0 w)
        rw [show decide (700 < (n0 : Int)) = true by simpa using hb] at HF
        have HE := Lib.hid (show ss.any big = true from by
          have h1 : (ss.take (q + 1)).any big = true := by rw [HS.out]; simp [big]; omega
          obtain ⟨x, hx, hp⟩ := List.any_eq_true.1 h1
          exact List.any_eq_true.2 ⟨x, List.mem_of_mem_take hx, hp⟩)
        clear hb
        go_wp2_with (go_at_call 46; refine HF.out.mono ?_; rintro e w1 ⟨rfl, rfl⟩)
        go_ret
        exact ⟨q, rfl, by rw [HE.out]; simp, rfl⟩
      · have HF := Lib.hid (few1 A0 n0 c0 w)
        rw [show decide (700 < (n0 : Int)) = false by simpa using hb] at HF
        have HE := Lib.hid (show (ss.take (q + 1)).any big = false from by rw [HS.out]; simp [big]; omega)
        clear hb
        go_wp2_with (go_at_call 46; refine HF.out.mono ?_; rintro e w1 ⟨rfl, rfl⟩)
        go_roundw
        case rel => exact ⟨q + 1, by go_num, by omega, (by trivial), HE⟩
        case measure => simp [intOf]; omega
    · have HE := Lib.hid (show ss.any big = false by have := HM.out; rwa [List.take_of_length_le (by rw [HL.out]; omega)] at this)
      clear HM
      go_wp2
      go_ret
      exact ⟨-1, rfl, by rw [HE.out]; decide, rfl⟩
theorem few_any (g k c : Nat) (ss : List SL) (w : World) (hk : k ≤ 1000) (hl : ss.length = k) (h : ∀ i, i < k → w.cell? ⟨g, i, none⟩ = some (.slice (ss.getD i SL.nil).A (ss.getD i SL.nil).n (ss.getD i SL.nil).c)) :
    Calls Try.prog 20 #[.slice (some ⟨g, 0, none⟩) k c] w fun e w' => e = .returned (.bool (!ss.any big)) ∧ w = w' := by
  have HI := Lib.hid (idx_any g k c ss w hk hl h)
  have HC : Hid (Calls Try.prog 45 #[.slice (some ⟨g, 0, none⟩) k c, .func (.func 46) #[] #[]] w fun e w' => e = .returned (.bool (ss.any big)) ∧ w = w') := by
    refine Lib.hid ?_
    clear h hl
    go_enter Try.func45, Try.ntmps45
    go_wp2_with (go_at_call 55; refine HI.out.mono ?_; rintro e w1 ⟨i, rfl, hi, rfl⟩; have HII := Lib.hid hi; clear hi)
    go_ret
    exact ⟨ret1b (by rw [← HII.out]), rfl⟩
  clear h hl HI
  generalize ss.any big = b at *
  go_enter Try.func20, Try.ntmps20
  go_wp2_with (go_at_call 45; refine HC.out.mono ?_; rintro e w1 ⟨rfl, rfl⟩)
  go_ret
  exact ⟨rfl, rfl⟩
theorem few1_any (A : Option Addr) (n c : Nat) (w : World) : Calls Try.prog 20 #[.slice (some ⟨w.heap.size, 0, none⟩) 1 1] (w.alloc (.cells #[.slice A n c] 25)) fun e w' => e = .returned (.bool (!decide (700 < n))) ∧ w.alloc (.cells #[.slice A n c] 25) = w' :=
  (few_any w.heap.size 1 1 [⟨A, n, c, []⟩] _ (by omega) rfl (fun i hi => by
    obtain rfl : i = 0 := by omega
    exact (Blk.new w 25 #[.slice A n c]).cell 0)).mono fun e w' ⟨he, hw⟩ => ⟨by rw [he]; simp [big], hw⟩
theorem few2_any (A A' : Option Addr) (n c n' c' : Nat) (w : World) : Calls Try.prog 20 #[.slice (some ⟨w.heap.size, 0, none⟩) 2 2] (w.alloc (.cells #[.slice A n c, .slice A' n' c'] 25)) fun e w' => e = .returned (.bool (!(decide (700 < n) || decide (700 < n')))) ∧ w.alloc (.cells #[.slice A n c, .slice A' n' c'] 25) = w' :=
  (few_any w.heap.size 2 2 [⟨A, n, c, []⟩, ⟨A', n', c', []⟩] _ (by omega) rfl (fun i hi => by
    rcases (show i = 0 ∨ i = 1 by omega) with rfl | rfl
    · exact (Blk.new w 25 #[.slice A n c, .slice A' n' c']).cell 0
    · exact (Blk.new w 25 #[.slice A n c, .slice A' n' c']).cell 1)).mono fun e w' ⟨he, hw⟩ => ⟨by rw [he]; simp [big], hw⟩
end Go.Proofs.Ytclhdhgagjpicaa
