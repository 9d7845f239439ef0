/- The contracts of package gap: valid, check, window. -/
import Derived.Test.YtclhdhgagjpicaaRow
import Derived.Test.YtclhdhgagjpicaaChecked
namespace Go.Proofs.Ytclhdhgagjpicaa
open Go.RowKit Go.Wk

def vld (t : Int) : Bool := decide (0 ≤ t ∧ t ≤ 253402300799)
def many (l : List Int) : Bool := decide (100000 < l.length)
def inv (l : List Int) : Bool := l.any (fun t => !vld t)
/-- Among the first k times one is not later than the one before it. -/
def ob (l : List Int) : Nat → Bool
  | 0 => false
  | k + 1 => ob l k || (decide (0 < k) && decide (l.getD k 0 ≤ l.getD (k - 1) 0))
def ord (l : List Int) : Bool := ob l l.length
def chk (ls : List (List Int)) : Int := if ls.any many then 12 else if ls.any inv then 14 else if ls.any ord then 8 else 0
def ordE (b : Bool) : Int := if b then 8 else 0

theorem valid_any (t : Int) (w : World) : Calls Try.prog 42 #[.int .i64 t] w fun e w' => e = .returned (.bool (vld t)) ∧ w = w' := by
  have hh : ¬ 0 ≤ t ∨ (0 ≤ t ∧ t ≤ 253402300799) ∨ (0 ≤ t ∧ ¬ t ≤ 253402300799) := by omega
  rcases hh with h1 | ⟨h1, h2⟩ | ⟨h1, h2⟩
  all_goals
    go_enter Try.func42, Try.ntmps42
    go_wp2
    go_ret
    exact ⟨ret1b (by simp [vld]; omega), rfl⟩

/-- A slice of times in memory. -/
structure SL where
  A : Option Addr
  n : Nat
  c : Nat
  l : List Int
def SL.nil : SL := ⟨none, 0, 0, []⟩
instance : Inhabited SL := ⟨SL.nil⟩

theorem any_take_succ {α : Type} [Inhabited α] {p : α → Bool} {l : List α} {i : Nat} (d : α) (h : i < l.length) : (l.take (i + 1)).any p = ((l.take i).any p || p (l.getD i d)) := by
  rw [List.take_succ_eq_append_getElem h, List.any_append]
  simp [h]

theorem check_any (g k c B : Nat) (ss : List SL) (w : World) (hk : k ≤ 1000) (hl : ss.length = k) (h : ∀ i, i < k → w.cell? ⟨g, i, none⟩ = some (.slice (ss.getD i SL.nil).A (ss.getD i SL.nil).n (ss.getD i SL.nil).c) ∧ Reads w B 1 (ss.getD i SL.nil).A (ss.getD i SL.nil).n ((ss.getD i SL.nil).l.map (Value.int .i64))) :
    Calls Try.prog 41 #[.slice (some ⟨g, 0, none⟩) k c] w fun e w' => e = .returned (.int .i64 (chk (ss.map (·.l)))) ∧ w = w' := by
  have HH := Lib.hid h
  have HL := Lib.hid hl
  have HLS := Lib.hid (show (ss.map (·.l)).length = k by simpa using hl)
  clear h hl
  obtain ⟨ls, hls⟩ : ∃ ls, ls = ss.map (·.l) := ⟨_, rfl⟩
  rw [← hls] at HLS ⊢
  have HG := Lib.hid (show ∀ i, i < k → ls.getD i [] = (ss.getD i SL.nil).l from fun i hi => by rw [hls]; simp [show i < ss.length by rw [HL.out]; exact hi])
  clear hls
  go_enter Try.func41, Try.ntmps41
  go_wp2
  go_loopw [12] (fun i wr => ∃ q : Nat, i = .int .i64 q ∧ q ≤ k ∧ w = wr ∧ Hid ((ls.take q).any many = false)) (fun i _ => k - (intOf i).toNat)
  case atStart => exact ⟨0, rfl, Nat.zero_le _, rfl, Lib.hid rfl⟩
  case round =>
    obtain ⟨q, rfl, hq, rfl, HM⟩ := hrel
    by_cases hlt : q < k
    · obtain ⟨hc, hrd⟩ := HH.out q hlt
      have HS := Lib.hid (any_take_succ (p := many) [] (show q < ls.length by rw [HLS.out]; exact hlt))
      rw [HM.out, HG.out q hlt] at HS
      have hn := hrd.length_ints
      generalize ss.getD q SL.nil = s at *
      clear hrd
      by_cases hm : 100000 < s.n
      · have HE := Lib.hid (show ls.any many = true from by
          have h1 : (ls.take (q + 1)).any many = true := by rw [HS.out]; simp [many, hn, hm]
          obtain ⟨x, hx, hp⟩ := List.any_eq_true.1 h1
          exact List.any_eq_true.2 ⟨x, List.mem_of_mem_take hx, hp⟩)
        clear hn
        go_wp2
        go_ret
        refine ⟨?_, rfl⟩
        unfold chk
        rw [if_pos HE.out]
        rfl
      · have HE := Lib.hid (show (ls.take (q + 1)).any many = false from by rw [HS.out]; simp [many, hn]; omega)
        clear hn
        go_wp2
        go_roundw
        case rel => exact ⟨q + 1, by go_num, by omega, (by trivial), HE⟩
        case measure => simp [intOf]; omega
    · have HMF := Lib.hid (show ls.any many = false by have := HM.out; rwa [List.take_of_length_le (by rw [HLS.out]; omega)] at this)
      clear HM
      go_wp2
      go_loopw [3, 22] (fun ev i wr => ∃ q : Nat, i = .int .i64 q ∧ q ≤ k ∧ w = wr ∧ ev = .int .i64 (ordE ((ls.take q).any ord)) ∧ Hid ((ls.take q).any inv = false)) (fun _ i _ => k - (intOf i).toNat)
      case atStart => exact ⟨0, rfl, Nat.zero_le _, rfl, rfl, Lib.hid rfl⟩
      case round =>
        obtain ⟨q2, rfl, hq2, rfl, rfl, HI⟩ := hrel
        by_cases hlt2 : q2 < k
        · obtain ⟨hc, hrd⟩ := HH.out q2 hlt2
          have HS := Lib.hid (any_take_succ (p := inv) [] (show q2 < ls.length by rw [HLS.out]; exact hlt2))
          have HO := Lib.hid (any_take_succ (p := ord) [] (show q2 < ls.length by rw [HLS.out]; exact hlt2))
          have HMEM := Lib.hid (show (ss.getD q2 SL.nil).l ∈ ls from by
            rw [← HG.out q2 hlt2, show ls.getD q2 [] = ls[q2]'(by rw [HLS.out]; exact hlt2) by simp [show q2 < ls.length by rw [HLS.out]; exact hlt2]]
            exact List.getElem_mem _)
          rw [HI.out, HG.out q2 hlt2] at HS
          rw [HG.out q2 hlt2] at HO
          have HN := Lib.hid hrd.length_ints
          have HRD := Lib.hid hrd
          have hn1 : (ss.getD q2 SL.nil).n ≤ 100000 := by
            have h1 := List.any_eq_false.1 HMF.out _ HMEM.out
            simp only [many, decide_eq_true_eq] at h1
            rw [HN.out] at h1
            omega
          generalize (ls.take q2).any ord = eb at *
          generalize ss.getD q2 SL.nil = s at *
          clear hrd
          obtain ⟨A0, n0, c0, l0⟩ := s
          dsimp only at hc hn1 HS HO HMEM HN HRD
          go_wp2
          go_loopw [3, 28] (fun ev i wr => ∃ j : Nat, i = .int .i64 j ∧ j ≤ n0 ∧ w = wr ∧ ev = .int .i64 (ordE (eb || ob l0 j)) ∧ Hid ((l0.take j).any (fun t => !vld t) = false)) (fun _ i _ => n0 - (intOf i).toNat)
          case atStart => exact ⟨0, rfl, Nat.zero_le _, rfl, by simp [ob], Lib.hid rfl⟩
          case round =>
            obtain ⟨j, rfl, hj, rfl, rfl, HJ⟩ := hrel
            by_cases hlt3 : j < n0
            · obtain ⟨b, off, rfl, hb, hcj⟩ := HRD.out.int_at hlt3
              have HT := Lib.hid (any_take_succ (p := fun t => !vld t) (0 : Int) (show j < l0.length by rw [HN.out]; exact hlt3))
              rw [HJ.out] at HT
              have HOB := Lib.hid (show ob l0 (j + 1) = (ob l0 j || (decide (0 < j) && decide (l0.getD j 0 ≤ l0.getD (j - 1) 0))) from rfl)
              have HMT := Lib.hid (show l0.getD j 0 ∈ l0 from by
                rw [show l0.getD j 0 = l0[j]'(by rw [HN.out]; exact hlt3) by simp [show j < l0.length by rw [HN.out]; exact hlt3]]
                exact List.getElem_mem _)
              obtain ⟨t, ht⟩ : ∃ t, t = l0.getD j 0 := ⟨_, rfl⟩
              rw [← ht] at hcj HT HOB HMT
              cases hv : vld t with
              | false =>
                have HE := Lib.hid (show ls.any inv = true from List.any_eq_true.2 ⟨_, HMEM.out, List.any_eq_true.2 ⟨t, HMT.out, by rw [hv]; rfl⟩⟩)
                have HV := Lib.hid (valid_any t w)
                rw [hv] at HV
                clear ht HMT
                go_wp2_with (go_at_call 42; refine HV.out.mono ?_; rintro e w1 ⟨rfl, rfl⟩)
                go_ret
                refine ⟨?_, rfl⟩
                unfold chk
                rw [if_neg (by rw [HMF.out]; simp), if_pos HE.out]
                rfl
              | true =>
                have HV := Lib.hid (valid_any t w)
                rw [hv] at HV HT
                have HT1 := Lib.hid (show (l0.take (j + 1)).any (fun t => !vld t) = false by rw [HT.out]; rfl)
                clear ht HMT HT
                by_cases hj0 : 0 < j
                · obtain ⟨b', off', hA', _, hcp⟩ := HRD.out.int_at (k := j - 1) (by omega)
                  injection hA' with hA'
                  injection hA' with hA1 hA2
                  subst hA1
                  subst hA2
                  generalize l0.getD (j - 1) 0 = u at *
                  have hjn : ((j : Int) - 1).toNat = j - 1 := by omega
                  have hj1 : (0 : Int) ≤ (j : Int) - 1 := by omega
                  have hj2 : (j : Int) - 1 < (n0 : Int) := by omega
                  have hj3 : (0 : Int) < (j : Int) := by omega
                  by_cases hle : t ≤ u
                  · have HR := Lib.hid (show ordE (eb || ob l0 (j + 1)) = 8 by rw [HOB.out]; simp [hj0, hle, ordE])
                    go_wp2_with (go_at_call 42; refine HV.out.mono ?_; rintro e w1 ⟨rfl, rfl⟩)
                    go_roundw
                    case rel => exact ⟨j + 1, by go_num, by omega, (by trivial), by rw [HR.out], HT1⟩
                    case measure => simp [intOf]; omega
                  · have HR := Lib.hid (show ob l0 (j + 1) = ob l0 j by rw [HOB.out]; simp [hle])
                    go_wp2_with (go_at_call 42; refine HV.out.mono ?_; rintro e w1 ⟨rfl, rfl⟩)
                    go_roundw
                    case rel => exact ⟨j + 1, by go_num, by omega, (by trivial), by rw [HR.out], HT1⟩
                    case measure => simp [intOf]; omega
                · have HR := Lib.hid (show ob l0 (j + 1) = ob l0 j by rw [HOB.out]; simp [hj0])
                  have hj4 : ¬ (0 : Int) < (j : Int) := by omega
                  go_wp2_with (go_at_call 42; refine HV.out.mono ?_; rintro e w1 ⟨rfl, rfl⟩)
                  go_roundw
                  case rel => exact ⟨j + 1, by go_num, by omega, (by trivial), by rw [HR.out], HT1⟩
                  case measure => simp [intOf]; omega
            · have hjn : j = n0 := by omega
              have HR := Lib.hid (show ob l0 j = ord l0 by unfold ord; rw [HN.out, hjn])
              have HS1 := Lib.hid (show (ls.take (q2 + 1)).any inv = false from by
                rw [HS.out]
                have := HJ.out
                rw [List.take_of_length_le (by rw [HN.out]; omega)] at this
                exact this)
              clear hjn HJ
              go_wp2
              go_roundw
              case rel => exact ⟨q2 + 1, by go_num, by omega, (by trivial), by rw [HO.out, HR.out], HS1⟩
              case measure => simp [intOf]; omega
        · have HIF := Lib.hid (show ls.any inv = false by have := HI.out; rwa [List.take_of_length_le (by rw [HLS.out]; omega)] at this)
          rw [show (ls.take q2) = ls from List.take_of_length_le (by rw [HLS.out]; omega)]
          clear HI
          go_wp2
          go_ret
          refine ⟨?_, rfl⟩
          unfold chk
          rw [if_neg (by rw [HMF.out]; simp), if_neg (by rw [HIF.out]; simp)]
          rfl

def one (A : Option Addr) (n c : Nat) (l : List Int) : SL := ⟨A, n, c, l⟩
theorem check1_any (A : Option Addr) (n c B : Nat) (l : List Int) (w : World) (h : Reads w B 1 A n (l.map (Value.int .i64))) (hB : B ≤ w.heap.size) :
    Calls Try.prog 41 #[.slice (some ⟨w.heap.size, 0, none⟩) 1 1] (w.alloc (.cells #[.slice A n c] 25)) fun e w' => e = .returned (.int .i64 (chk [l])) ∧ w.alloc (.cells #[.slice A n c] 25) = w' :=
  check_any w.heap.size 1 1 B [⟨A, n, c, l⟩] _ (by omega) rfl (fun i hi => by
    obtain rfl : i = 0 := by omega
    exact ⟨(Blk.new w 25 #[.slice A n c]).cell 0, h.alloc hB _⟩)
theorem check2_any (A A' : Option Addr) (n c n' c' B : Nat) (l l' : List Int) (w : World) (h : Reads w B 1 A n (l.map (Value.int .i64))) (h' : Reads w B 1 A' n' (l'.map (Value.int .i64))) (hB : B ≤ w.heap.size) :
    Calls Try.prog 41 #[.slice (some ⟨w.heap.size, 0, none⟩) 2 2] (w.alloc (.cells #[.slice A n c, .slice A' n' c'] 25)) fun e w' => e = .returned (.int .i64 (chk [l, l'])) ∧ w.alloc (.cells #[.slice A n c, .slice A' n' c'] 25) = w' :=
  check_any w.heap.size 2 2 B [⟨A, n, c, l⟩, ⟨A', n', c', l'⟩] _ (by omega) rfl (fun i hi => by
    rcases (show i = 0 ∨ i = 1 by omega) with rfl | rfl
    · exact ⟨(Blk.new w 25 #[.slice A n c, .slice A' n' c']).cell 0, h.alloc hB _⟩
    · exact ⟨(Blk.new w 25 #[.slice A n c, .slice A' n' c']).cell 1, h'.alloc hB _⟩)

/-- The errors of a list and the length of a window. -/
def wnd (l : List Int) (v : Int) : Int := if chk [l] ≠ 0 then chk [l] else if v < 1 ∨ 68719476736 < v then 2 else 0
theorem window_any (A : Option Addr) (n c B : Nat) (l : List Int) (v : Int) (w : World) (h : Reads w B 1 A n (l.map (Value.int .i64))) (hB : B ≤ w.heap.size) :
    Calls Try.prog 40 #[.slice A n c, .int .i64 v] w fun e w' => e = .returned (.int .i64 (wnd l v)) ∧ Fr No w w' := by
  have HC := Lib.hid (check1_any A n c B l w h hB)
  have HF := Lib.hid ((Fr.refl No w).alloc (.cells #[.slice A n c] 25))
  clear h
  unfold wnd
  generalize chk [l] = k at *
  by_cases hk : k = 0
  · subst hk
    simp only [ne_eq, not_true_eq_false, if_false]
    rcases (show v < 1 ∨ (¬ v < 1 ∧ 68719476736 < v) ∨ (¬ v < 1 ∧ ¬ 68719476736 < v) by omega) with h1 | ⟨h1, h2⟩ | ⟨h1, h2⟩
    all_goals
      simp only [h1, true_or, false_or, if_true]
      try simp only [h2, if_true, if_false]
      go_enter Try.func40, Try.ntmps40
      go_wp2_with (go_at_call 41; refine HC.out.mono ?_; rintro e w1 ⟨rfl, rfl⟩)
      go_ret
      exact ⟨rfl, HF.out⟩
  · simp only [ne_eq, hk, not_false_eq_true, if_true]
    have hkb : (k != 0) = true := by simpa using hk
    go_enter Try.func40, Try.ntmps40
    go_wp2_with (go_at_call 41; refine HC.out.mono ?_; rintro e w1 ⟨rfl, rfl⟩)
    go_ret
    exact ⟨rfl, HF.out⟩
end Go.Proofs.Ytclhdhgagjpicaa
