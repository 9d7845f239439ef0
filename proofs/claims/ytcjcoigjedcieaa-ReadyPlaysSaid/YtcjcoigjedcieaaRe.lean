/- The document's Push, every way; Remove; Copy. -/
import Derived.Test.YtcjcoigjedcieaaRd
namespace Go.Proofs.Ytcjcoigjedcieaa
open Go.RowKit Go.Wk

theorem rPush_any (r : Nat) (v : Value) (t : QS) (x p u : Int) (hs : t.added + 1 ≤ 1000000) (hls : (t.l.length : Int) ≤ t.size) (w : World) (h : RV w r v t) :
    Calls Try.prog 36 #[.pointer (some ⟨r, 0, none⟩), .int .i64 x, .int .i64 p, .int .i64 u] w fun e w' => RTurned w r v (rpushS t x p u) (.int .i64 (pushE t x p u)) e w' := by
  have HAS := Lib.hid (show rpushS t x p u = if pushE t x p u = 0 then t.app x p u else t from rfl)
  have HV := Lib.hid (rmade_any r v t w h)
  have HH := Lib.hid h
  rcases pushE_cases t x p u with ⟨h1, he⟩ | ⟨h1, h2, he⟩ | ⟨h1, h2, h3, he⟩ | ⟨h1, h2, h3, h4, he⟩ | ⟨h1, h2, h3, h4, h5, he⟩ | ⟨h1, h2, h3, h4, h5, h6, he⟩ | ⟨h1, h2, h3, h4, h5, h6, he⟩
  case inr.inr.inr.inr.inr.inr =>
    rw [if_pos he] at HAS
    rw [he, HAS.out]
    exact rPush_ok r v t x p u hs w h h1 h2 h3 h4 h5 h6
  case inl =>
    rw [he, if_neg (by omega)] at HAS
    rw [he, HAS.out]
    have b1 : decide (p < 0) = true := by simp; omega
    clear h he h1 hls hs
    go_enter Try.func36, Try.ntmps36
    go_wp2_with fail
    refine HV.out.mono ?_
    rintro e w0 ⟨rfl, rfl⟩
    go_wp2
    go_ret
    exact ⟨rfl, _, HH.out, Fr.refl _ _, fun k hk => .inl hk⟩
  case inr.inl =>
    rw [he, if_neg (by omega)] at HAS
    rw [he, HAS.out]
    have b1 : decide (p < 0) = false := by simp; omega
    have b2 : decide (100 < p) = true := by simp; omega
    clear h he h1 h2 hls hs
    go_enter Try.func36, Try.ntmps36
    go_wp2_with fail
    refine HV.out.mono ?_
    rintro e w0 ⟨rfl, rfl⟩
    go_wp2
    go_ret
    exact ⟨rfl, _, HH.out, Fr.refl _ _, fun k hk => .inl hk⟩
  case inr.inr.inl =>
    rw [he, if_neg (by omega)] at HAS
    rw [he, HAS.out]
    have b1 : decide (p < 0) = false := by simp; omega
    have b2 : decide (100 < p) = false := by simp; omega
    have b3 : decide (u < 0) = true := by simp; omega
    clear h he h1 h2 h3 hls hs
    go_enter Try.func36, Try.ntmps36
    go_wp2_with fail
    refine HV.out.mono ?_
    rintro e w0 ⟨rfl, rfl⟩
    go_wp2
    go_ret
    exact ⟨rfl, _, HH.out, Fr.refl _ _, fun k hk => .inl hk⟩
  case inr.inr.inr.inl =>
    rw [he, if_neg (by omega)] at HAS
    rw [he, HAS.out]
    have b1 : decide (p < 0) = false := by simp; omega
    have b2 : decide (100 < p) = false := by simp; omega
    have b3 : decide (u < 0) = false := by simp; omega
    have b4 : decide (253402300799 < u) = true := by simp; omega
    clear h he h1 h2 h3 h4 hls hs
    go_enter Try.func36, Try.ntmps36
    go_wp2_with fail
    refine HV.out.mono ?_
    rintro e w0 ⟨rfl, rfl⟩
    go_wp2
    go_ret
    exact ⟨rfl, _, HH.out, Fr.refl _ _, fun k hk => .inl hk⟩
  case inr.inr.inr.inr.inl =>
    rw [he, if_neg (by omega)] at HAS
    rw [he, HAS.out]
    have HHAS := Lib.hid (rHas_any r _ t x w h)
    rw [h5] at HHAS
    have b1 : decide (p < 0) = false := by simp; omega
    have b2 : decide (100 < p) = false := by simp; omega
    have b3 : decide (u < 0) = false := by simp; omega
    have b4 : decide (253402300799 < u) = false := by simp; omega
    clear h he h1 h2 h3 h4 h5 hls hs
    go_enter Try.func36, Try.ntmps36
    go_wp2_with fail
    refine HV.out.mono ?_
    rintro e w0 ⟨rfl, rfl⟩
    go_wp2_with fail
    refine HHAS.out.mono ?_
    rintro e w0 ⟨rfl, rfl⟩
    go_wp2
    go_ret
    exact ⟨rfl, _, HH.out, Fr.refl _ _, fun k hk => .inl hk⟩
  case inr.inr.inr.inr.inr.inl =>
    rw [he, if_neg (by omega)] at HAS
    rw [he, HAS.out]
    have HHAS := Lib.hid (rHas_any r _ t x w h)
    rw [h5] at HHAS
    obtain ⟨A, c, rfl, _⟩ := h.form
    obtain ⟨c0, c1, c2, c3, c4⟩ := h.cells
    have b1 : decide (p < 0) = false := by simp; omega
    have b2 : decide (100 < p) = false := by simp; omega
    have b3 : decide (u < 0) = false := by simp; omega
    have b4 : decide (253402300799 < u) = false := by simp; omega
    have b5 : ((t.l.length : Int) == t.size) = true := by simp; omega
    have hn := h.n
    clear h he h1 h2 h3 h4 h5 h6 hls hs
    go_enter Try.func36, Try.ntmps36
    go_wp2_with fail
    refine HV.out.mono ?_
    rintro e w0 ⟨rfl, rfl⟩
    go_wp2_with fail
    refine HHAS.out.mono ?_
    rintro e w0 ⟨rfl, rfl⟩
    go_wp2
    go_quiet (fail)
    go_wp2
    go_ret
    exact ⟨rfl, _, HH.out.fr0 ((Fr.refl No _).drewN nq), ((Fr.refl No _).drewN nq).mono (fun _ z => z.elim), fun k hk => .inl hk⟩

theorem rem_cut {l : List IV} (hp : l.Pairwise (fun a b => a.id ≠ b.id)) {i : Nat} (hi : i < l.length) : remL l (l.getD i IV.zero).id = l.take i ++ l.drop (i + 1) := by
  rw [getD_get hi]
  have hsp : l = l.take i ++ l[i] :: l.drop (i + 1) := by
    rw [← List.drop_eq_getElem_cons hi, List.take_append_drop]
  unfold remL
  conv => lhs; arg 2; rw [hsp]
  rw [List.filter_append, List.filter_cons_of_neg (by simp)]
  rw [List.pairwise_iff_getElem] at hp
  congr 1
  · rw [List.filter_eq_self]
    intro a ha
    obtain ⟨j, hj, rfl⟩ := List.mem_iff_getElem.1 ha
    rw [List.length_take] at hj
    rw [List.getElem_take]
    have := hp j i (by omega) hi (by omega)
    simpa using this
  · rw [List.filter_eq_self]
    intro a ha
    obtain ⟨j, hj, rfl⟩ := List.mem_iff_getElem.1 ha
    rw [List.length_drop] at hj
    rw [List.getElem_drop]
    have := hp i (i + 1 + j) hi (by omega) (by omega)
    simpa using fun h => this h.symm
/-- The rest of a slice from j on. -/
theorem drop_run (g n c j : Nat) (hj : j ≤ n) (hc : n ≤ c) (_hm : n ≤ 1000000) : ∃ A', (∀ W, (Instr.slice 26 (.slice (some ⟨g, 0, none⟩) n c) (some (.int .i64 j)) none none).run Try.prog W = .ok (.slice A' (n - j) (c - j)) W) ∧
    ∀ (w : World) (B : Nat) (l : List IV), Reads w B 4 (some ⟨g, 0, none⟩) n (icells l) → Reads w B 4 A' (n - j) (icells (l.drop j)) := by
  have h1 : (j : Int) ≤ (n : Int) := by omega
  by_cases h : c = j
  · refine ⟨some ⟨g, 0, none⟩, fun W => ?_, fun w B l hr => ?_⟩
    · subst h
      go_simp
    · have := hr.cut hj hc
      rw [if_pos h, icells_drop] at this
      exact this
  · refine ⟨some ⟨g, j * 4, none⟩, fun W => ?_, fun w B l hr => ?_⟩
    · go_simp
    · have := hr.cut hj hc
      rw [if_neg h, icells_drop, Option.map_some, add_plain, Nat.zero_add] at this
      exact this
end Go.Proofs.Ytcjcoigjedcieaa
