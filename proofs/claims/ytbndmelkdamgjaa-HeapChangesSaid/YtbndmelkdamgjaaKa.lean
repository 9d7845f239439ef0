/- slices.Index, Contains; clear; the rest of a slice of numbers; two heaps of integers. -/
import Derived.Test.YtbndmelkdamgjaaSp
import Derived.Lib.SliceRun
namespace Go.Proofs.Ytbndmelkdamgjaa.So
open Go.RowKit Go.Wk

/-- Where a number is found. -/
def IxR (S : List Int) (x : Int) (e : Ending) : Prop := (x ∉ S ∧ e = .returned (.int .i64 (-1))) ∨ ∃ i : Nat, i < S.length ∧ S.getD i 0 = x ∧ e = .returned (.int .i64 i)
theorem index_any (A : Option Addr) (n c B : Nat) (S : List Int) (x : Int) (w : World) (h : Reads w B 1 A n (S.map (Value.int .i64))) (hn : n ≤ 1000000) : Calls Try.prog 79 #[.slice A n c, .int .i64 x] w fun e w' => IxR S x e ∧ w' = w := by
  have HR := Lib.hid h
  have HL := Lib.hid h.length_ints
  clear h
  go_enter Try.func79, Try.ntmps79
  go_wp2
  go_loopw [8] (fun iv wr => ∃ i : Nat, iv = .int .i64 i ∧ i ≤ n ∧ wr = w ∧ Hid (∀ j, j < i → S.getD j 0 ≠ x)) (fun iv _ => n - (intOf iv).toNat)
  case atStart => exact ⟨0, rfl, Nat.zero_le _, rfl, Lib.hid (fun j hj => by omega)⟩
  case round =>
    obtain ⟨i, rfl, hi, rfl, HI⟩ := hrel
    by_cases hlt : i < n
    · obtain ⟨b, off, rfl, hb, x0⟩ := HR.out.int_at hlt
      have hlt2 : (i : Int) < (n : Int) := by omega
      by_cases hx : S.getD i 0 = x
      · have HX := Lib.hid hx
        rw [hx] at x0
        have hxx : (x == x) = true := by simp
        clear hx
        go_wp2
        go_ret
        exact ⟨.inr ⟨i, by rw [HL.out]; exact hlt, HX.out, rfl⟩, by first | rfl | trivial⟩
      · have HX := Lib.hid (show ∀ j, j < i + 1 → S.getD j 0 ≠ x from fun j hj => by
          by_cases e : j = i
          · subst e; exact hx
          · exact HI.out j (by omega))
        generalize S.getD i 0 = z at *
        have hxx : (x == z) = false := by simpa using fun e : x = z => hx e.symm
        clear hx
        go_wp2
        go_roundw
        case rel => exact ⟨i + 1, by go_num, by omega, by first | rfl | trivial, HX⟩
        case measure => simp [intOf]; omega
    · obtain rfl : i = n := by omega
      go_wp2
      go_ret
      refine ⟨.inl ⟨fun hc => ?_, rfl⟩, by first | rfl | trivial⟩
      obtain ⟨j, hj, he⟩ := List.getElem_of_mem hc
      exact HI.out j (by rw [← HL.out]; exact hj) (by simpa [hj] using he)
theorem contains_any (A : Option Addr) (n c B : Nat) (S : List Int) (x : Int) (w : World) (h : Reads w B 1 A n (S.map (Value.int .i64))) (hn : n ≤ 1000000) : Calls Try.prog 50 #[.slice A n c, .int .i64 x] w fun e w' => e = .returned (.bool (decide (x ∈ S))) ∧ w' = w := by
  have HA := Lib.hid (index_any A n c B S x w h hn)
  obtain ⟨t, ht⟩ : ∃ t, t = decide (x ∈ S) := ⟨_, rfl⟩
  rw [← ht]
  have HT := Lib.hid ht
  clear h ht
  go_enter Try.func50, Try.ntmps50
  go_wp2_with fail
  refine HA.out.mono ?_
  rintro e w1 ⟨hr, rfl⟩
  rcases hr with ⟨hx, rfl⟩ | ⟨i, hi, hid, rfl⟩
  · obtain rfl : t = false := HT.out.trans (by simpa using hx)
    clear hx HT
    go_wp2
    go_ret
    exact ⟨rfl, by first | rfl | trivial⟩
  · have hm : x ∈ S := by
      rw [← hid]
      have : S.getD i 0 = S[i] := by simp [hi]
      rw [this]; exact List.getElem_mem _
    obtain rfl : t = true := HT.out.trans (by simpa using hm)
    have h0 : (0 : Int) ≤ (i : Int) := by omega
    clear hid hi HT hm
    go_wp2
    go_ret
    exact ⟨rfl, by first | rfl | trivial⟩
theorem zero3 (w : World) : (zeroValue 3).run Try.prog w = .ok (.int .i64 0) w := by kernel_rfl
/-- clear of a row of the call's own turns that row alone. -/
theorem clear_own {W : World} {base n q : Nat} {A : Option Addr} {xs : List Int} (h : W.ownsRow base 3 1 (.slice A n q) n (cells .i64 xs)) :
    ∃ W', (∀ ty, (Builtin.clear_ #[39] ty #[.slice A n q]).run Try.prog W = .ok (.tuple #[]) W') ∧ Fr (fun k => (Value.slice A n q).ownBlock = some k) W W' := by
  rcases Nat.eq_zero_or_pos n with h0 | h0
  · subst h0
    exact ⟨W, fun ty => by cases A <;> simp [Builtin.clear_, run_underlying Try.underlying39], Fr.refl _ _⟩
  · rcases h.2 with ⟨_, h1⟩ | ⟨g, cap, cur, hv, hb, hh, hnc, _, hsz, _⟩
    · omega
    · injection hv with hA _ hq
      subst hA
      subst hq
      refine ⟨_, fun ty => Lib.run_clear_slice W 39 3 ty (.int .i64 0) Try.underlying39 zero3 rfl rfl g 0 n q h0 (fun j hj => ?_) (fun j hj => ?_), fr_setCells (by rfl) _ _ (Fr.refl _ _)⟩
      · have : (Blk W g 3 cur) := hh
        rw [Nat.zero_add, this.cell]
        simp; omega
      · have : (Blk W g 3 cur) := hh
        exact this.frozen _
/-- The rest of a slice of numbers from j on. -/
theorem drop_runI (A : Option Addr) (n c j : Nat) (hj : j ≤ n) (hc : n ≤ c) (_hm : n ≤ 1000000000) : ∃ A', (∀ W, (Instr.slice 39 (.slice A n c) (some (.int .i64 j)) none none).run Try.prog W = .ok (.slice A' (n - j) (c - j)) W) ∧
    ∀ (w : World) (B : Nat) (l : List Int), Reads w B 1 A n (l.map (Value.int .i64)) → Reads w B 1 A' (n - j) ((l.drop j).map (Value.int .i64)) := by
  have h1 : (j : Int) ≤ (n : Int) := by omega
  rcases A with _ | ⟨g, off, spot⟩
  · refine ⟨none, fun W => ?_, fun w B l hr => ?_⟩
    · by_cases h : c = j
      · subst h
        go_simp
      · go_simp
    · have := hr.cut hj hc
      rw [Nat.mul_one, ← List.map_drop] at this
      split at this <;> exact this
  · by_cases h : c = j
    · refine ⟨some ⟨g, off, spot⟩, fun W => ?_, fun w B l hr => ?_⟩
      · subst h
        go_simp
      · have := hr.cut hj hc
        rw [if_pos h, Nat.mul_one, ← List.map_drop] at this
        exact this
    · refine ⟨some ((⟨g, off, spot⟩ : Addr).add j), fun W => ?_, fun w B l hr => ?_⟩
      · go_simp
      · have := hr.cut hj hc
        rw [if_neg h, Nat.mul_one, ← List.map_drop, Option.map_some] at this
        exact this
theorem take_runI (A : Option Addr) (n c j : Nat) (hj : j ≤ n) (hc : n ≤ c) : ∀ W, (Instr.slice 39 (.slice A n c) none (some (.int .i64 j)) none).run Try.prog W = .ok (.slice A j c) W := by
  have h1 : (j : Int) ≤ (c : Int) := by omega
  intro W
  go_simp
/-- Two heaps of the call's own, apart; K is apart from both. -/
structure Two (f : Nat) (bf : Int → Int → Bool) (w wr : World) (b1 b2 : Nat) (K D1 D2 : Nat → Prop) (s1 s2 : List (En Int)) (g1 g2 : Int) : Prop where
  a : IH f bf wr b1 D1 s1 g1
  b : IH f bf wr b2 D2 s2 g2
  fr : Fr No w wr
  o1 : ∀ k, D1 k → Els w K k
  o2 : ∀ k, D2 k → Els w K k
  ap : ∀ k, D1 k → ¬ D2 k
  kl : ∀ k, K k → k < wr.heap.size
section
variable {f : Nat} {bf : Int → Int → Bool} {w wr w1 : World} {b1 b2 : Nat} {K D1 D2 : Nat → Prop} {s1 s2 : List (En Int)} {g1 g2 : Int}
theorem Two.fr0 (T : Two f bf w wr b1 b2 K D1 D2 s1 s2 g1 g2) (hf : Fr No wr w1) : Two f bf w w1 b1 b2 K D1 D2 s1 s2 g1 g2 := ⟨T.a.fr0 hf, T.b.fr0 hf, T.fr.then0 hf, T.o1, T.o2, T.ap, fun k hk => Nat.lt_of_lt_of_le (T.kl k hk) hf.size⟩
theorem newE {D D' K : Nat → Prop} {w wr : World} (h : ∀ k, D' k → D k ∨ wr.heap.size ≤ k) (ho : ∀ k, D k → Els w K k) (hm : w.heap.size ≤ wr.heap.size) (hk : ∀ k, K k → k < wr.heap.size) : ∀ k, D' k → Els w K k := fun k h1 => by
  rcases h k h1 with h2 | h2
  · exact ho k h2
  · exact ⟨by omega, fun hc => by have := hk k hc; omega⟩
theorem Two.turn1 (T : Two f bf w wr b1 b2 K D1 D2 s1 s2 g1 g2) {s' : List (En Int)} {g' : Int} (h : TurnI f bf wr b1 D1 s' g' w1) : (∃ D, Two f bf w w1 b1 b2 K D D2 s' s2 g' g2) ∧ Fr (Els w K) wr w1 := by
  obtain ⟨D, h, hf, hd⟩ := h
  refine ⟨⟨D, h, T.b.fr hf (fun k hk hc => T.ap k hc hk), T.fr.ownS hf (fun k hk => (T.o1 k hk).1), newE hd T.o1 T.fr.size T.kl, T.o2, fun k hk hc => ?_, fun k hk => Nat.lt_of_lt_of_le (T.kl k hk) hf.size⟩, hf.mono T.o1⟩
  rcases hd k hk with h2 | h2
  · exact T.ap k h2 hc
  · have := T.b.lt hc; omega
theorem Two.turn2 (T : Two f bf w wr b1 b2 K D1 D2 s1 s2 g1 g2) {s' : List (En Int)} {g' : Int} (h : TurnI f bf wr b2 D2 s' g' w1) : (∃ D, Two f bf w w1 b1 b2 K D1 D s1 s' g1 g') ∧ Fr (Els w K) wr w1 := by
  obtain ⟨D, h, hf, hd⟩ := h
  refine ⟨⟨D, T.a.fr hf T.ap, h, T.fr.ownS hf (fun k hk => (T.o2 k hk).1), T.o1, newE hd T.o2 T.fr.size T.kl, fun k hk hc => ?_, fun k hk => Nat.lt_of_lt_of_le (T.kl k hk) hf.size⟩, hf.mono T.o2⟩
  rcases hd k hc with h2 | h2
  · exact T.ap k hk h2
  · have := T.a.lt hk; omega
/-- What turns only blocks that are new since then leaves both. -/
theorem Two.frN (T : Two f bf w wr b1 b2 K D1 D2 s1 s2 g1 g2) {S : Nat → Prop} (hf : Fr S wr w1) (hS : ∀ k, S k → w.heap.size ≤ k ∧ ¬ D1 k ∧ ¬ D2 k) : Two f bf w w1 b1 b2 K D1 D2 s1 s2 g1 g2 :=
  ⟨T.a.fr hf (fun k hk hc => (hS k hc).2.1 hk), T.b.fr hf (fun k hk hc => (hS k hc).2.2 hk), T.fr.ownS hf (fun k hk => (hS k hk).1), T.o1, T.o2, T.ap, fun k hk => Nat.lt_of_lt_of_le (T.kl k hk) hf.size⟩
end
end Go.Proofs.Ytbndmelkdamgjaa.So
