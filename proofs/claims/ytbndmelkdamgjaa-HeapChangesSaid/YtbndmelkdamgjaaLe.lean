/- HeapLeaves: the walk. -/
import Derived.Test.YtbndmelkdamgjaaLc
namespace Go.Proofs.Ytbndmelkdamgjaa.So
open Go.RowKit Go.Wk

/-- A part of a slice of numbers. -/
theorem mid_runI (A : Option Addr) (n c i j : Nat) (hij : i ≤ j) (hj : j ≤ n) (hc : n ≤ c) (_hm : n ≤ 1000000000) : ∃ A', (∀ W, (Instr.slice 39 (.slice A n c) (some (.int .i64 i)) (some (.int .i64 j)) none).run Try.prog W = .ok (.slice A' (j - i) (c - i)) W) ∧
    ∀ (w : World) (B : Nat) (l : List Int), Reads w B 1 A n (l.map (Value.int .i64)) → Reads w B 1 A' (j - i) (((l.take j).drop i).map (Value.int .i64)) := by
  have h1 : (i : Int) ≤ (j : Int) := by omega
  have h2 : (j : Int) ≤ (c : Int) := by omega
  rcases A with _ | ⟨g, off, spot⟩
  · refine ⟨none, fun W => ?_, fun w B l hr => ?_⟩
    · by_cases h : c = i
      · subst h
        go_simp
      · go_simp
    · have := (reads_cut hr hj).cut hij (Nat.le_trans hj hc)
      rw [Nat.mul_one, ← List.map_drop] at this
      split at this <;> exact this
  · by_cases h : c = i
    · refine ⟨some ⟨g, off, spot⟩, fun W => ?_, fun w B l hr => ?_⟩
      · subst h
        go_simp
      · have := (reads_cut hr hj).cut hij (Nat.le_trans hj hc)
        rw [if_pos h, Nat.mul_one, ← List.map_drop] at this
        exact this
    · refine ⟨some ((⟨g, off, spot⟩ : Addr).add i), fun W => ?_, fun w B l hr => ?_⟩
      · go_simp
      · have := (reads_cut hr hj).cut hij (Nat.le_trans hj hc)
        rw [if_neg h, Nat.mul_one, ← List.map_drop, Option.map_some] at this
        exact this
theorem del_idx : ∀ (s : List (En Int)) (k : Nat), (ids s).Nodup → k < s.length → (ids s).eraseIdx k = ids (del ((ids s).getD k 0) s)
  | [], k, _, h => by simp at h
  | a :: t, 0, hn, _ => by
    have := del_head (V := Int) hn
    have e : (ids (a :: t)).getD 0 0 = a.id := rfl
    rw [e, this]; rfl
  | a :: t, k + 1, hn, h => by
    have hn2 : a.id ∉ ids t ∧ (ids t).Nodup := List.nodup_cons.1 hn
    have hk : k < t.length := by simpa using h
    have ih := del_idx t k hn2.2 hk
    have e : (ids (a :: t)).getD (k + 1) 0 = (ids t).getD k 0 := rfl
    have hm : (ids t).getD k 0 ∈ ids t := by
      have hk2 : k < (ids t).length := by simpa [ids] using hk
      have : (ids t).getD k 0 = (ids t)[k] := by simp [hk2]
      rw [this]; exact List.getElem_mem _
    have hne : a.id ≠ (ids t).getD k 0 := fun e2 => hn2.1 (by rw [e2]; exact hm)
    rw [e]
    have e3 : del ((ids t).getD k 0) (a :: t) = a :: del ((ids t).getD k 0) t := by
      unfold del
      rw [List.filter_cons_of_pos (by simpa using hne)]
    rw [e3]
    have e4 : ids (a :: t) = a.id :: ids t := rfl
    rw [e4, List.eraseIdx_cons_succ, ih]
    rfl
theorem blk_same (A : Option Addr) (n c n' c' : Nat) : BlkOf (.slice A n c) = BlkOf (.slice A n' c') := by
  funext k
  unfold BlkOf
  cases A <;> rfl
/-- Which entries stand behind the first one, of the same value. -/
def Run (s : List (En Int)) (v : Int) (e : Nat) : Prop := ∀ q, 1 ≤ q → q < e → (s.getD q default).v = v
/-- Where the pushed entry goes. -/
theorem run_ins {a : En Int} {t : List (En Int)} {g : Int} {e : Nat} (hs : Sorted ltI (a :: t)) (hp : ∀ x ∈ t, x.p < g) (he : 1 ≤ e) (hel : e ≤ (a :: t).length) (hr : Run (a :: t) a.v e) (hx : e = (a :: t).length ∨ ((a :: t).getD e default).v ≠ a.v) :
    ids (ins ltI ⟨a.id, a.v, g⟩ t) = ((ids (a :: t)).take e).drop 1 ++ (ids (a :: t)).take 1 ++ (ids (a :: t)).drop e := by
  obtain ⟨ha, hst⟩ := List.pairwise_cons.1 hs
  obtain ⟨q, rfl⟩ : ∃ q, e = q + 1 := ⟨e - 1, by omega⟩
  have hql : q ≤ t.length := by simpa using hel
  have h := ins_split (bf := ltI) ⟨a.id, a.v, g⟩ (t.take q) (t.drop q) (fun x hx2 => by
    obtain ⟨i, hi, rfl⟩ := List.getElem_of_mem hx2
    rw [List.length_take] at hi
    have hv := hr (i + 1) (by omega) (by omega)
    have e1 : ((a :: t).getD (i + 1) default) = t[i] := by simp [show i < t.length by omega]
    rw [e1] at hv
    rw [List.getElem_take, fst_true]
    right
    refine ⟨by unfold ltI; rw [hv]; simp, ?_⟩
    exact hp _ (List.getElem_mem _)) (fun x u hxu => by
    have hlt : q < t.length := by
      have := congrArg List.length hxu
      rw [List.length_drop] at this
      simp at this
      omega
    have e1 : x = t[q] := by
      have := List.drop_eq_getElem_cons hlt
      rw [hxu] at this
      injection this
    rcases hx with hx | hx
    · simp at hx; omega
    · have e2 : ((a :: t).getD (q + 1) default) = t[q] := by simp [hlt]
      rw [e2, ← e1] at hx
      have hm : x ∈ t := by rw [e1]; exact List.getElem_mem _
      have h2 := ha x hm
      rw [fst_true] at h2
      rw [fst_false]
      unfold ltI at h2 ⊢
      simp only [decide_eq_true_eq, decide_eq_false_iff_not] at h2 ⊢
      omega)
  rw [List.take_append_drop] at h
  rw [h]
  simp [ids, List.map_take, List.map_drop]
end Go.Proofs.Ytbndmelkdamgjaa.So
