/- The contracts of slices.Max, slices.Clone and gap.Even. -/
import Derived.Test.YtclhdhgagjpicaaG
namespace Go.Proofs.Ytclhdhgagjpicaa
open Go.RowKit Go.Wk

/-- The greatest number. -/
def maxL : List Int → Int
  | [] => 0
  | a :: l => l.foldl max a
theorem max_any (A : Option Addr) (n c B : Nat) (l : List Int) (w : World) (h : Reads w B 1 A n (l.map (Value.int .i64))) (h0 : 0 < n) (hn : n ≤ 9223372036854775807) :
    Calls Try.prog 30 #[.slice A n c] w fun e w' => e = .returned (.int .i64 (maxL l)) ∧ w = w' := by
  have HR := Lib.hid h
  have HN := Lib.hid h.length_ints
  obtain ⟨b, off, rfl, hb, hc0⟩ := h.int_at h0
  rw [Nat.add_zero] at hc0
  clear h
  have HM := Lib.hid (show ∀ k, k < n → 0 < k → maxL (l.take (k + 1)) = max (maxL (l.take k)) (l.getD k 0) from fun k hk h1 => by
    rw [take_snoc l k (by rw [HN.out]; exact hk)]
    match hl : l.take k with
    | [] => have := congrArg List.length hl; simp [HN.out] at this; omega
    | a :: t => simp [maxL])
  have HM1 := Lib.hid (show maxL (l.take 1) = l.getD 0 0 from by
    rw [take_snoc l 0 (by rw [HN.out]; exact h0)]; rfl)
  have HMF := Lib.hid (show l.take n = l from List.take_of_length_le (by rw [HN.out]; exact Nat.le_refl _))
  have hn1 : ¬ n = 0 := by omega
  have hn2 : decide ((n : Int) < 1) = false := by simp; omega
  go_enter Try.func30, Try.ntmps30
  go_wp2
  go_loopw [3, 4] (fun m i wr => ∃ k : Nat, i = .int .i64 k ∧ k ≤ n ∧ 0 < k ∧ w = wr ∧ m = .int .i64 (maxL (l.take k))) (fun _ i _ => n - (intOf i).toNat)
  case atStart => exact ⟨1, rfl, h0, by omega, rfl, by rw [HM1.out]; simp⟩
  case round =>
    obtain ⟨k, rfl, hk, hk0, rfl, rfl⟩ := hrel
    by_cases hlt : k < n
    · obtain ⟨b', off', hbb, _, hc⟩ := HR.out.int_at hlt
      injection hbb with hbb
      injection hbb with hb1 hb2
      subst hb1
      subst hb2
      have HS := Lib.hid (HM.out k hlt hk0)
      generalize l.getD k 0 = t at *
      generalize maxL (l.take k) = m at *
      by_cases hmt : m ≤ t
      all_goals
        go_wp2
        go_roundw
        case rel => exact ⟨k + 1, by go_num, by omega, by omega, (by trivial), by rw [HS.out]; congr 1; omega⟩
        case measure => simp [intOf]; omega
    · have hkn : k = n := by omega
      rw [hkn, HMF.out]
      clear hk hk0 hlt hkn
      go_wp2
      go_ret
      exact ⟨rfl, rfl⟩

theorem ints_one (l : List Int) : ∀ v ∈ l.map (Value.int .i64), v.oneCell' = true := fun v hv => by
  obtain ⟨x, _, rfl⟩ := List.mem_map.1 hv
  rfl

theorem own_cap {w : World} {base size n c : Nat} {e : TypeId} {A : Option Addr} {xs : List Value} (h : w.ownsRow base e size (.slice A n c) n xs) : n ≤ c := by
  rcases h.2 with ⟨h1, h0⟩ | ⟨g, cap, cur, h1, _, _, h4, _⟩
  · injection h1 with _ h2 h3
    omega
  · injection h1 with _ _ h3
    omega

/-- What Clone leaves: a slice of the call's own with the same numbers. -/
def Cloned (w : World) (n : Nat) (l : List Int) (x : Ending) (w' : World) : Prop := ∃ A c, x = .returned (.slice A n c) ∧ w'.ownsRow w.heap.size 2 1 (.slice A n c) n (cells .i64 l) ∧ n ≤ c ∧ Fr No w w'

theorem clone_any (A : Option Addr) (n c : Nat) (l : List Int) (w : World) (h : Reads w w.heap.size 1 A n (l.map (Value.int .i64))) (hn : n ≤ 1000000) :
    Calls Try.prog 34 #[.slice A n c] w fun x w' => Cloned w n l x w' := by
  obtain ⟨i0, hi, hz0, hz1, hz2⟩ : ∃ i, Try.prog.info? 2 = some i ∧ i.zero = some (.int .i64 0) ∧ i.size = 1 ∧ i.bytes = 8 := ⟨_, rfl, rfl, rfl, rfl⟩
  rcases A with _ | ad
  · have heq := fun w => Lib.run_eql_slice_nil (P := Try.prog) w 25 2 none n c 0 0 Try.underlying25
    have hn0 : n = 0 := by
      rcases Nat.eq_zero_or_pos n with h0 | h0
      · exact h0
      · obtain ⟨ad, hA, _⟩ := h.2 h0
        cases hA
    subst hn0
    have hx : l = [] := List.eq_nil_of_length_eq_zero (by simpa using h.1)
    go_enter Try.func34, Try.ntmps34
    go_wp2
    go_ret
    exact ⟨none, 0, rfl, by rw [hx]; exact own_nil _ _ _ _, Nat.le_refl _, Fr.refl _ _⟩
  · have o1 : (w.alloc (.cells #[] 2)).ownsRow w.heap.size 2 1 (.slice (some ⟨w.heap.size, 0, none⟩) 0 0) 0 [] := ⟨rfl, .inr ⟨w.heap.size, 0, #[], rfl, Nat.le_refl _, Blk.new w 2 #[], Nat.le_refl _, Nat.zero_le _, rfl, rfl⟩⟩
    have O1 := Lib.hid o1
    have R1 := Lib.hid (h.alloc (Nat.le_refl _) (.cells #[] 2))
    have HB1 := Lib.hid (show (0 + n) * 8 ≤ 140737488355328 by omega)
    have HB0 := Lib.hid (show 0 + n ≤ maxLen by unfold maxLen; omega)
    have heq := fun w => Lib.run_eql_slice_nil (P := Try.prog) w 25 2 (some ad) n c 0 0 Try.underlying25
    clear h o1
    go_enter Try.func34, Try.ntmps34
    go_wp2_with (at_builtin; refine wpList_append_any (w.alloc (.cells #[] 2)) rfl (.tmp 5) (.tmp 6) 25 rfl w.heap.size 2 i0 (.int .i64 0) 1 8 Try.underlying25 hi hz0 hz1 hz2 rfl (by omega) (.slice (some ⟨w.heap.size, 0, none⟩) 0 0) 0 [] rfl O1.out w.heap.size (some ad) n c (l.map (Value.int .i64)) rfl R1.out (ints_one _) HB0.out HB1.out (by simp) ?_)
    intro v' w2 hown2 hg2 hloc2
    obtain ⟨A2, q2, rfl⟩ := own_form' hown2
    have F2 : Fr No w w2 := ((Fr.refl No w).alloc (.cells #[] 2)).own (Fr.of_grown (S := (· = w.heap.size)) hg2 (fun k hk => by simpa [Value.ownBlock] using hk.symm)) (Nat.le_refl _)
    have hq := own_cap hown2
    go_wp2
    go_ret
    exact ⟨A2, q2, by simp, by simpa [cells] using hown2, hq, F2⟩

def evenB (l : List Int) : Bool := decide (gapL l ≠ [] ∧ minL (gapL l) = maxL (gapL l))
def evenV (l : List Int) : Int := if evenB l = true then (gapL l).getD 0 0 else 0
theorem even_any (A : Option Addr) (n c B : Nat) (l : List Int) (w : World) (h : Reads w B 1 A n (l.map (Value.int .i64))) (hB : B ≤ w.heap.size) :
    Calls Try.prog 28 #[.slice A n c] w fun e w' => e = .returned (.tuple #[.int .i64 (evenV l), .bool (evenB l), .int .i64 (chk [l])]) ∧ Fr No w w' := by
  have HG := Lib.hid (gaps_any A n c B l w h hB)
  have HK := Lib.hid (show gapL l ≠ [] → chk [l] = 0 from fun hne => by
    by_cases hk : chk [l] = 0
    · exact hk
    · unfold gapL at hne
      rw [if_neg hk] at hne
      exact absurd rfl hne)
  have HL := Lib.hid (show (gapL l).length ≤ 100000 from by
    unfold gapL
    by_cases hk : chk [l] = 0
    · rw [if_pos hk, gapsL_len]
      have := (chk_ok hk l (by simp)).len
      omega
    · rw [if_neg hk]; exact Nat.zero_le _)
  unfold evenV evenB
  clear h
  generalize gapL l = g at *
  generalize chk [l] = k at *
  by_cases hg : g = []
  · subst hg
    go_enter Try.func28, Try.ntmps28
    go_wp2_with fail
    refine HG.out.mono ?_
    rintro e w1 ⟨A', c', rfl, ho, hf⟩
    go_wp2
    go_ret3
    exact ⟨by simp, hf⟩
  · have hkk := HK.out hg
    subst hkk
    have hlp := List.length_pos_iff.2 hg
    have hlb : (((g.length : Nat) : Int) == 0) = false := by simpa using hg
    have hlp2 : (0 : Int) < (g.length : Int) := by omega
    by_cases he : minL g = maxL g
    · have hd : decide (g ≠ [] ∧ minL g = maxL g) = true := by simp [hg, he]
      rw [hd, if_pos rfl]
      have HE := Lib.hid he
      obtain ⟨v0, hv0⟩ : ∃ v0, v0 = g.getD 0 0 := ⟨_, rfl⟩
      rw [← hv0]
      have HV0 := Lib.hid hv0
      clear hd he hv0
      go_enter Try.func28, Try.ntmps28
      go_wp2_with fail
      refine HG.out.mono ?_
      rintro e w1 ⟨A', c', rfl, ho, hf⟩
      have HR := Lib.hid (Reads.of_own ho)
      have HM := Lib.hid (min_any A' g.length c' w1.heap.size g w1 (Reads.of_own ho) hlp (by have := HL.out; omega))
      have HX := Lib.hid (max_any A' g.length c' w1.heap.size g w1 (Reads.of_own ho) hlp (by have := HL.out; omega))
      rw [← HE.out] at HX
      obtain ⟨b, off, rfl, hb, hc0⟩ := HR.out.int_at (k := 0) hlp
      rw [Nat.add_zero, ← HV0.out] at hc0
      clear ho
      go_wp2_with fail
      refine HM.out.mono ?_
      rintro e _ ⟨rfl, rfl⟩
      go_wp2_with fail
      refine HX.out.mono ?_
      rintro e _ ⟨rfl, rfl⟩
      go_wp2
      go_ret3
      exact ⟨rfl, hf⟩
    · have hd : decide (g ≠ [] ∧ minL g = maxL g) = false := by simp [he]
      rw [hd, if_neg (by simp)]
      have hne : (minL g != maxL g) = true := by simpa using he
      clear hd he
      go_enter Try.func28, Try.ntmps28
      go_wp2_with fail
      refine HG.out.mono ?_
      rintro e w1 ⟨A', c', rfl, ho, hf⟩
      have HM := Lib.hid (min_any A' g.length c' w1.heap.size g w1 (Reads.of_own ho) hlp (by have := HL.out; omega))
      have HX := Lib.hid (max_any A' g.length c' w1.heap.size g w1 (Reads.of_own ho) hlp (by have := HL.out; omega))
      clear ho
      go_wp2_with fail
      refine HM.out.mono ?_
      rintro e _ ⟨rfl, rfl⟩
      go_wp2_with fail
      refine HX.out.mono ?_
      rintro e _ ⟨rfl, rfl⟩
      go_wp2
      go_ret3
      exact ⟨rfl, hf⟩
end Go.Proofs.Ytclhdhgagjpicaa
