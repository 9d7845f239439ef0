/- The contracts of slices.Index, Contains, IsSorted, and of the laws' inside. -/
import Derived.Test.YtclhdhgagjpicaaPl
namespace Go.Proofs.Ytclhdhgagjpicaa
open Go.RowKit Go.Wk

def IdxI (l : List Int) (t : Int) (w : World) (e : Ending) (w' : World) : Prop := ∃ i : Int, e = .returned (.int .i64 i) ∧ decide (0 ≤ i) = decide (t ∈ l) ∧ w = w'
theorem index_any (A : Option Addr) (n c B : Nat) (l : List Int) (t : Int) (w : World) (hn : n ≤ 9223372036854775807) (h : Reads w B 1 A n (l.map (Value.int .i64))) :
    Calls Try.prog 50 #[.slice A n c, .int .i64 t] w fun e w' => IdxI l t w e w' := by
  have HR := Lib.hid h
  have HN := Lib.hid h.length_ints
  have HY := Lib.hid (fun i (hi : i < n) (he : l.getD i 0 = t) => show decide (t ∈ l) = true by rw [← he]; exact decide_eq_true (getD_mem (by rw [HN.out]; exact hi)))
  have HNO := Lib.hid (fun (hh : ∀ i, i < n → ¬ l.getD i 0 = t) => show decide (t ∈ l) = false from decide_eq_false (fun hm => by
    obtain ⟨i, hi, he⟩ := mem_getD hm
    exact hh i (by rw [← HN.out]; exact hi) he))
  clear h
  go_enter Try.func50, Try.ntmps50
  go_wp2
  go_loopw [8] (fun i wr => ∃ k : Nat, i = .int .i64 k ∧ k ≤ n ∧ w = wr ∧ Hid (∀ j, j < k → ¬ l.getD j 0 = t)) (fun i _ => n - (intOf i).toNat)
  case atStart => exact ⟨0, rfl, Nat.zero_le _, rfl, Lib.hid (fun j hj => absurd hj (by omega))⟩
  case round =>
    obtain ⟨k, rfl, hk, rfl, HA⟩ := hrel
    by_cases hlt : k < n
    · obtain ⟨b, off, rfl, hb, hc⟩ := HR.out.int_at hlt
      obtain ⟨x, hx⟩ : ∃ x, x = l.getD k 0 := ⟨_, rfl⟩
      rw [← hx] at hc
      have HX := Lib.hid hx
      clear hx
      by_cases he : x = t
      · have HYY := Lib.hid (HY.out k hlt (by rw [← HX.out]; exact he))
        have hb2 : (t == x) = true := by simpa using he.symm
        clear he
        go_wp2
        go_ret
        exact ⟨k, rfl, by rw [HYY.out]; simp, rfl⟩
      · have HA2 := Lib.hid (show ∀ j, j < k + 1 → ¬ l.getD j 0 = t from fun j hj => by
          rcases (show j < k ∨ j = k by omega) with h | rfl
          · exact HA.out j h
          · rw [← HX.out]; exact he)
        have hb2 : (t == x) = false := by simpa using fun h : t = x => he h.symm
        clear he
        go_wp2
        go_roundw
        case rel => exact ⟨k + 1, by go_num, by omega, (by trivial), HA2⟩
        case measure => simp [intOf]; omega
    · have HYY := Lib.hid (HNO.out (fun i hi => HA.out i (by omega)))
      go_wp2
      go_ret
      exact ⟨-1, rfl, by rw [HYY.out]; decide, rfl⟩
theorem contains_any (A : Option Addr) (n c B : Nat) (l : List Int) (t : Int) (w : World) (hn : n ≤ 9223372036854775807) (h : Reads w B 1 A n (l.map (Value.int .i64))) :
    Calls Try.prog 25 #[.slice A n c, .int .i64 t] w fun e w' => e = .returned (.bool (decide (t ∈ l))) ∧ w = w' := by
  have HI := Lib.hid (index_any A n c B l t w hn h)
  clear h
  go_enter Try.func25, Try.ntmps25
  go_wp2_with (go_at_call 50; refine HI.out.mono ?_; rintro e w1 ⟨i, rfl, hi, rfl⟩; have HII := Lib.hid hi; clear hi)
  go_ret
  exact ⟨ret1b (by rw [← HII.out]), rfl⟩

theorem sorted_yes (A : Option Addr) (n c B : Nat) (l : List Int) (w : World) (hn : n ≤ 9223372036854775807) (h : Reads w B 1 A n (l.map (Value.int .i64))) (hi : Inc l) :
    Calls Try.prog 33 #[.slice A n c] w fun e w' => e = .returned (.bool true) ∧ Fr No w w' := by
  have HR := Lib.hid h
  have HN := Lib.hid h.length_ints
  have HI := Lib.hid hi
  clear h
  go_enter Try.func33, Try.ntmps33
  go_wp2
  go_loopw [3] (fun i wr => ∃ (k : Int) (m : Nat), i = .int .i64 k ∧ -1 ≤ k ∧ k < n ∧ wr = w.drewN m) (fun i _ => (intOf i).toNat)
  case atStart => exact ⟨(n : Int) - 1, 0, rfl, by omega, by omega, rfl⟩
  case round =>
    obtain ⟨k, m, rfl, hk0, hk, rfl⟩ := hrel
    by_cases hlt : 0 < k
    · obtain ⟨j, rfl⟩ : ∃ j : Nat, k = (j : Int) + 1 := ⟨(k - 1).toNat, by omega⟩
      obtain ⟨b, off, rfl, hb, hc1⟩ := HR.out.int_at (k := j + 1) (by omega)
      obtain ⟨b', off', hbb, _, hc0⟩ := HR.out.int_at (k := j) (by omega)
      injection hbb with hbb
      injection hbb with hb1 hb2
      subst hb1
      subst hb2
      have hlt2 := HI.out.lt (show j < j + 1 by omega) (by rw [HN.out]; omega)
      generalize l.getD j 0 = x at *
      generalize l.getD (j + 1) 0 = y at *
      have HLS := Lib.hid (fun w => (less_any y x w).mono (R' := fun e w2 => e = .returned (.bool (decide (y < x))) ∧ w2 = w) fun _ _ ⟨h1, h2⟩ => ⟨h1, h2.symm⟩)
      have hd : decide (y < x) = false := decide_eq_false (by omega)
      have h1 : (0 : Int) ≤ (j : Int) := by omega
      have h2 : (j : Int) < (n : Int) := by omega
      have h3 : (j : Int) + 1 < (n : Int) := by omega
      have h4 : ((j : Int) + 1).toNat = j + 1 := by omega
      have h5 : IntKind.i64.wrap ((j : Int) + 1 - 1) = (j : Int) := by simp only [IntKind.wrap_i64]; omega
      have h6 : IntKind.i64.wrap (j : Int) = (j : Int) := by simp only [IntKind.wrap_i64]; omega
      have h7 : (0 : Int) ≤ (j : Int) + 1 := by omega
      rw [hd] at HLS
      clear hd
      obtain ⟨wm, HWM⟩ : ∃ wm : World, Hid (wm = w.drewN m) := ⟨_, Lib.hid rfl⟩
      rw [← HWM.out]
      have d1 : wm.cell? ⟨b, off + (j + 1), none⟩ = some (.int .i64 y) := by rw [HWM.out]; exact hc1
      have d0 : wm.cell? ⟨b, off + j, none⟩ = some (.int .i64 x) := by rw [HWM.out]; exact hc0
      clear hc1 hc0
      go_wp2
      go_quiet ((go_at_call 51; exact Calls.quiet_of_same (HLS.out _)))
      go_wp2
      go_roundw
      case rel => exact ⟨j, m + nq, by go_num, by omega, by omega, by rw [HWM.out, World.drewN_drewN]⟩
      case measure => simp [intOf]
    · go_wp2
      go_ret
      exact ⟨rfl, (Fr.refl No w).drewN _⟩

/-- How many times of a list are in a window. -/
def insN (l : List Int) (a v : Int) : Nat := (l.filter (fun t => decide (a ≤ t ∧ t < a + v))).length
theorem insN_succ {l : List Int} (a v : Int) {k : Nat} (h : k < l.length) : insN (l.take (k + 1)) a v = if a ≤ l.getD k 0 ∧ l.getD k 0 < a + v then insN (l.take k) a v + 1 else insN (l.take k) a v := by
  unfold insN
  rw [take_snoc l k h, List.filter_append, List.length_append]
  by_cases hc : a ≤ l.getD k 0 ∧ l.getD k 0 < a + v
  · rw [if_pos hc, List.filter_cons_of_pos (by simpa using hc)]; simp
  · rw [if_neg hc, List.filter_cons_of_neg (by simpa using hc)]; simp
theorem insN_le (l : List Int) (a v : Int) : insN l a v ≤ l.length := List.length_filter_le _ _
theorem inside_any (A : Option Addr) (n c B : Nat) (l : List Int) (a v : Int) (w : World) (hn : n ≤ 1000000) (h : Reads w B 1 A n (l.map (Value.int .i64))) (hg : Good l) (ha0 : -1000000 ≤ a) (ha1 : a ≤ 253402300799) (hv0 : 0 ≤ v) (hv1 : v ≤ 68719476736) :
    Calls Try.prog 24 #[.slice A n c, .int .i64 a, .int .i64 v] w fun e w' => e = .returned (.int .i64 (insN l a v)) ∧ w = w' := by
  have HR := Lib.hid h
  have HN := Lib.hid h.length_ints
  have HG := Lib.hid hg
  clear h hg
  go_enter Try.func24, Try.ntmps24
  go_wp2
  go_loopw [7, 12] (fun q i wr => ∃ k : Nat, i = .int .i64 k ∧ k ≤ n ∧ w = wr ∧ q = .int .i64 (insN (l.take k) a v)) (fun _ i _ => n - (intOf i).toNat)
  case atStart => exact ⟨0, rfl, Nat.zero_le _, rfl, rfl⟩
  case round =>
    obtain ⟨k, rfl, hk, rfl, rfl⟩ := hrel
    by_cases hlt : k < n
    · obtain ⟨b, off, rfl, hb, hc⟩ := HR.out.int_at hlt
      have hv := HG.out.val k (by rw [HN.out]; exact hlt)
      have HS := Lib.hid (insN_succ a v (show k < l.length by rw [HN.out]; exact hlt))
      have hle : insN (l.take k) a v ≤ 1000000 := by
        have h1 := insN_le (l.take k) a v
        have h2 := List.length_take_le k l
        omega
      obtain ⟨hva, hvb⟩ := hv
      have hl1 : (k : Int) < (n : Int) := by omega
      generalize l.getD k 0 = t at *
      generalize insN (l.take k) a v = s at *
      by_cases h1 : a ≤ t
      · by_cases h2 : t - a < v
        · rw [if_pos ⟨h1, by omega⟩] at HS
          go_wp2
          go_roundw
          case rel => exact ⟨k + 1, by go_num, by omega, (by trivial), by rw [HS.out]; go_num⟩
          case measure => simp [intOf]; omega
        · rw [if_neg (by omega)] at HS
          go_wp2
          go_roundw
          case rel => exact ⟨k + 1, by go_num, by omega, (by trivial), by rw [HS.out]⟩
          case measure => simp [intOf]; omega
      · rw [if_neg (by omega)] at HS
        go_wp2
        go_roundw
        case rel => exact ⟨k + 1, by go_num, by omega, (by trivial), by rw [HS.out]⟩
        case measure => simp [intOf]; omega
    · rw [show l.take k = l from List.take_of_length_le (by rw [HN.out]; omega)]
      go_wp2
      go_ret
      exact ⟨rfl, rfl⟩
end Go.Proofs.Ytclhdhgagjpicaa
