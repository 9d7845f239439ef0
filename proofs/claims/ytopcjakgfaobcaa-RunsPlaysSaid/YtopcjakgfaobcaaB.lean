/- The contracts of package runs: the search. -/
import Derived.Test.YtopcjakgfaobcaaA
namespace Go.Proofs.Ytopcjakgfaobcaa
open Go.RowKit Go.Wk

/-- A run of the table, in memory, cell by cell. -/
theorem TabV.at5 {w : World} {b : Nat} {v : Value} {s : TS} (h : TabV w b v s) {i : Nat} (hi : i < s.live.length) : ∃ g c, v = .slice (some ⟨g, 0, none⟩) s.live.length c ∧ g < w.heap.size ∧
    w.cell? ⟨g, i * 5, none⟩ = some (.int .i64 (s.live.getD i RV.zero).id) ∧ w.cell? ⟨g, i * 5 + 1, none⟩ = some (.int .i64 (s.live.getD i RV.zero).job) ∧ w.cell? ⟨g, i * 5 + 2, none⟩ = some (.int .i64 (s.live.getD i RV.zero).due) ∧
    w.cell? ⟨g, i * 5 + 3, none⟩ = some (.int .i64 (s.live.getD i RV.zero).att) ∧ w.cell? ⟨g, i * 5 + 4, none⟩ = some (.int .i64 (s.live.getD i RV.zero).start) := by
  obtain ⟨g, c, hv, hg, hc⟩ := h.at_ hi
  exact ⟨g, c, hv, hg, hc 0 _ rfl, hc 1 _ rfl, hc 2 _ rfl, hc 3 _ rfl, hc 4 _ rfl⟩

def cmpI (x y : Int) : Int := if x < y then -1 else if y < x then 1 else 0
theorem cmp_any' (x y : Int) (w : World) : Calls Try.prog 45 #[.int .i64 x, .int .i64 y] w fun e w' => e = .returned (.int .i64 (cmpI x y)) ∧ w = w' := cmp_any x y w
theorem cmpI_lt {x y : Int} (h : x < y) : cmpI x y = -1 := by simp [cmpI, h]
theorem cmpI_eq {x y : Int} (h : x = y) : cmpI x y = 0 := by simp [cmpI, h]
theorem cmpI_gt {x y : Int} (h : y < x) : cmpI x y = 1 := by simp [cmpI, h]; omega
theorem cmpf_any (a b c d e r : Int) (w : World) : Calls Try.prog 44 #[.agg #[.int .i64 a, .int .i64 b, .int .i64 c, .int .i64 d, .int .i64 e], .int .i64 r] w fun x w' => x = .returned (.int .i64 (cmpI a r)) ∧ Fr No w w' := by
  go_enter Try.func44, Try.ntmps44
  go_wp2_with (go_at_call 45; refine (cmp_any' a r _).mono ?_; rintro x w1 ⟨rfl, rfl⟩)
  go_ret
  exact ⟨rfl, (Fr.refl _ _).alloc _⟩

/-- What the search says of a list in order. -/
structure Srch (l : List RV) (r : Int) (i : Nat) : Prop where
  le : i ≤ l.length
  lo : ∀ k, k < i → (l.getD k RV.zero).id < r
  hi : ∀ k, i ≤ k → k < l.length → r ≤ (l.getD k RV.zero).id

theorem inc_get {l : List RV} (h : l.Pairwise (fun x y => x.id < y.id)) {i j : Nat} (hij : i ≤ j) (hj : j < l.length) : (l.getD i RV.zero).id ≤ (l.getD j RV.zero).id := by
  rcases Nat.lt_or_ge i j with hlt | hge
  · have := List.pairwise_iff_getElem.1 h i j (by omega) hj hlt
    simp [hj, show i < l.length by omega]
    omega
  · have : i = j := by omega
    subst this
    exact Int.le_refl _

theorem bs_any (b : Nat) (v : Value) (s : TS) (w : World) (r : Int) (h : TabV w b v s) :
    Calls Try.prog 43 #[v, .int .i64 r, .func (.func 44) #[] #[]] w fun x w' => (∃ i : Nat, Srch s.live r i ∧ x = .returned (.tuple #[.int .i64 i, .bool (decide (i < s.live.length) && decide ((s.live.getD i RV.zero).id = r))])) ∧ Fr No w w' := by
  have HT := Lib.hid h
  obtain ⟨A, c, rfl, _⟩ := h.form
  have hn1 := h.ok.len
  have hn2 := h.ok.s1
  have HI := Lib.hid h.ok.inc
  obtain ⟨n, hn⟩ : ∃ n, n = s.live.length := ⟨_, rfl⟩
  rw [← hn] at hn1 ⊢
  have HN := Lib.hid hn
  have hn3 : n ≤ 1000 := by omega
  clear h hn hn1 hn2
  go_enter Try.func43, Try.ntmps43
  go_wp2
  go_loopw [9, 10] (fun i j wr => ∃ k m : Nat, i = .int .i64 k ∧ j = .int .i64 m ∧ k ≤ m ∧ m ≤ n ∧ Hid ((∀ q, q < k → (s.live.getD q RV.zero).id < r) ∧ ∀ q, m ≤ q → q < n → r ≤ (s.live.getD q RV.zero).id) ∧ Fr No w wr) (fun i j _ => (intOf j).toNat - (intOf i).toNat)
  case atStart => exact ⟨0, n, rfl, rfl, Nat.zero_le _, Nat.le_refl _, ⟨fun q h => by omega, fun q h1 h2 => by omega⟩, Fr.refl _ _⟩
  case round =>
    obtain ⟨k, m, rfl, rfl, hkm, hmn, hq, hF⟩ := hrel
    by_cases hlt : k < m
    · obtain ⟨q, hq2⟩ : ∃ q : Nat, (k + m) / 2 = q := ⟨_, rfl⟩
      have hh : ((k : Int) + (m : Int)) / 2 = (q : Int) := by omega
      have hqk : k ≤ q := by omega
      have hqm : q < m := by omega
      have HW := Lib.hid (HT.out.fr hF (fun _ _ x => x))
      obtain ⟨g, c1, hv, hg, c0', c1', c2', c3', c4'⟩ := HW.out.at5 (i := q) (by have := HN.out; omega)
      rw [← HN.out] at hv
      obtain ⟨rfl, rfl⟩ : A = some ⟨g, 0, none⟩ ∧ c = c1 := by injection hv with h1 _ h2; exact ⟨h1, h2⟩
      obtain ⟨x, hx⟩ : ∃ x, x = s.live.getD q RV.zero := ⟨_, rfl⟩
      rw [← hx] at c0' c1' c2' c3' c4'
      have HX := Lib.hid hx
      clear hx hv hq2
      rcases Int.lt_or_le x.id r with hid | hid
      · have HC := Lib.hid (cmpI_lt hid)
        go_wp2_with (go_at_call 44; refine (cmpf_any x.id x.job x.due x.att x.start r _).mono ?_; rintro y w1 ⟨rfl, hf1⟩; rw [HC.out])
        go_roundw
        case rel =>
          refine ⟨q + 1, m, by go_num, rfl, by omega, hmn, ⟨fun p hp => ?_, hq.2⟩, hF.then0 hf1⟩
          have := inc_get HI.out (i := p) (j := q) (by omega) (by have := HN.out; omega)
          rw [← HX.out] at this
          omega
        case measure => simp [intOf]; omega
      · obtain ⟨y0, hy0, hy1⟩ : ∃ y0, cmpI x.id r = y0 ∧ ¬ y0 < 0 := by
          rcases Int.lt_or_le r x.id with h | h
          · exact ⟨1, cmpI_gt h, by omega⟩
          · exact ⟨0, cmpI_eq (by omega), by omega⟩
        have HC := Lib.hid hy0
        clear hy0
        go_wp2_with (go_at_call 44; refine (cmpf_any x.id x.job x.due x.att x.start r _).mono ?_; rintro y w1 ⟨rfl, hf1⟩; rw [HC.out])
        go_roundw
        case rel =>
          refine ⟨k, q, rfl, rfl, by omega, by omega, ⟨hq.1, fun p hp hpn => ?_⟩, hF.then0 hf1⟩
          have := inc_get HI.out (i := q) (j := p) hp (by have := HN.out; omega)
          rw [← HX.out] at this
          omega
        case measure => simp [intOf]; omega
    · have hs : Srch s.live r k := ⟨by have := HN.out; omega, hq.1, fun p hp hpn => hq.2 p (by omega) (by have := HN.out; omega)⟩
      by_cases hkn : k < n
      · have HW := Lib.hid (HT.out.fr hF (fun _ _ x => x))
        obtain ⟨g, c1, hv, hg, c0', c1', c2', c3', c4'⟩ := HW.out.at5 (i := k) (by have := HN.out; omega)
        rw [← HN.out] at hv
        obtain ⟨rfl, rfl⟩ : A = some ⟨g, 0, none⟩ ∧ c = c1 := by injection hv with h1 _ h2; exact ⟨h1, h2⟩
        obtain ⟨x, hx⟩ : ∃ x, x = s.live.getD k RV.zero := ⟨_, rfl⟩
        rw [← hx] at c0' c1' c2' c3' c4'
        have HX := Lib.hid hx
        clear hx hv
        obtain ⟨y0, hy0, hy1⟩ : ∃ y0, cmpI x.id r = y0 ∧ (y0 == 0) = decide (x.id = r) := by
          rcases (show x.id < r ∨ x.id = r ∨ r < x.id by omega) with h | h | h
          · exact ⟨-1, cmpI_lt h, by rw [show decide (x.id = r) = false by simp; omega]; rfl⟩
          · exact ⟨0, cmpI_eq h, by rw [show decide (x.id = r) = true by simpa using h]; rfl⟩
          · exact ⟨1, cmpI_gt h, by rw [show decide (x.id = r) = false by simp; omega]; rfl⟩
        have HC := Lib.hid hy0
        have HS := Lib.hid hs
        clear hy0 hs
        go_wp2_with (go_at_call 44; refine (cmpf_any x.id x.job x.due x.att x.start r _).mono ?_; rintro y w1 ⟨rfl, hf1⟩; rw [HC.out])
        go_ret2
        refine ⟨⟨k, HS.out, ?_⟩, hF.then0 hf1⟩
        refine ret2b ?_
        rw [← HX.out, show decide (k < n) = true by simpa using hkn, Bool.true_and]
        try exact hy1
      · have HS := Lib.hid hs
        clear hs
        go_wp2
        go_ret2
        refine ⟨⟨k, HS.out, ?_⟩, hF⟩
        refine ret2b ?_
        rw [show decide (k < n) = false by simpa using hkn, Bool.false_and]
end Go.Proofs.Ytopcjakgfaobcaa
