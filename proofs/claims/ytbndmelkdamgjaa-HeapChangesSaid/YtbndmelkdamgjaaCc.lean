/- HeapChanges: values that change, and the order. -/
import Derived.Test.YtbndmelkdamgjaaCb
import Derived.Test.YtbndmelkdamgjaaLc
import Derived.Test.YtbndmelkdamgjaaFp
namespace Go.Proofs.Ytbndmelkdamgjaa.So
open Go.RowKit Go.Wk

/-- The values ls, and the heap's entries in order. -/
structure ChS (ls : List Int) (N : Nat) (s : List (En Int)) (g : Int) : Prop where
  so : Sorted ltI s
  nd : (ids s).Nodup
  ln : s.length = N
  lsn : ls.length = N
  ent : ∀ e ∈ s, e.v = ls.getD (100 - e.id).toNat 0 ∧ 0 ≤ 100 - e.id ∧ 100 - e.id < N ∧ e.p < g
  all : ∀ i : Nat, i < N → (100 - (i : Int)) ∈ ids s
  wf : ∀ x ∈ ls, 0 ≤ x ∧ x ≤ 255
theorem ids_stF (ys : List Int) (N : Nat) : (ids (stF ys N)).Perm (ids0 N) := by
  have h := (stF_perm ys N).map Prod.fst
  rw [tagged_map, List.map_map] at h
  exact h
theorem ids0_nodup (N : Nat) : (ids0 N).Nodup := by
  unfold ids0
  rw [List.nodup_iff_pairwise_ne, List.pairwise_map]
  exact (List.pairwise_lt_range (n := N)).imp (fun h => by omega)
theorem ChS.start {ys : List Int} {N : Nat} (hl : ys.length = N) (hw : ∀ x ∈ ys, 0 ≤ x ∧ x ≤ 255) : ChS ys N (stF ys N) N := by
  have h := okF ys N
  refine ⟨h.so, (ids_stF ys N).nodup_iff.2 (ids0_nodup N), h.ln, hl, fun e he => ?_, fun i hi => (ids_stF ys N).mem_iff.2 ?_, hw⟩
  · have := h.ent e he
    rw [this.2.1, show 100 - (100 - e.p) = e.p by omega]
    exact ⟨this.1, this.2.2.1, this.2.2.2, this.2.2.2⟩
  · unfold ids0
    exact List.mem_map.2 ⟨i, List.mem_range.2 hi, rfl⟩
theorem del_nd {s : List (En Int)} (x : Int) (h : (ids s).Nodup) : (ids (del x s)).Nodup := by
  rw [ids_del]; exact h.filter _
theorem ins_nd {e : En Int} {s : List (En Int)} (h : (ids s).Nodup) (hn : e.id ∉ ids s) : (ids (ins ltI e s)).Nodup := by
  have := (ins_perm e s).map (·.id)
  exact this.nodup_iff.2 (List.nodup_cons.2 ⟨hn, h⟩)
theorem ChS.step {ls : List Int} {N : Nat} {s : List (En Int)} {g : Int} (h : ChS ls N s g) {i : Nat} (hi : i < N) {v : Int} (hv : 0 ≤ v ∧ v ≤ 255) : ChS (ls.set i v) N (ins ltI ⟨100 - i, v, g⟩ (del (100 - (i : Int)) s)) (g + 1) := by
  have hd : ∀ e ∈ del (100 - (i : Int)) s, e ∈ s ∧ e.id ≠ 100 - (i : Int) := fun e he => (mem_del _ _ _).1 he
  refine ⟨ins_sorted weak_lt _ _ (del_sorted _ h.so) (fun a ha => by have := (h.ent a (hd a ha).1).2.2.2; dsimp only; omega), ins_nd (del_nd _ h.nd) (ids_del_not _ _), ?_, by rw [List.length_set, h.lsn], fun e he => ?_, fun q hq => ?_, fun x hx => ?_⟩
  · rw [ins_len, del_len h.nd (h.all i hi), h.ln]; omega
  · rcases (mem_ins _ e _).1 he with rfl | he
    · dsimp only
      rw [show 100 - (100 - (i : Int)) = (i : Int) by omega, Int.toNat_natCast]
      refine ⟨?_, by omega, by omega, by omega⟩
      simp [show i < ls.length by rw [h.lsn]; exact hi]
    · obtain ⟨h1, h2⟩ := hd e he
      have h3 := h.ent e h1
      refine ⟨?_, h3.2.1, h3.2.2.1, by omega⟩
      rw [h3.1]
      have hne : i ≠ (100 - e.id).toNat := by omega
      simp [hne]
  · have h1 := h.all q hq
    unfold ids
    rw [List.mem_map]
    by_cases e : (100 - (q : Int)) = 100 - (i : Int)
    · exact ⟨⟨100 - i, v, g⟩, (mem_ins _ _ _).2 (.inl rfl), e.symm⟩
    · obtain ⟨a, ha, h2⟩ := List.mem_map.1 h1
      exact ⟨a, (mem_ins _ _ _).2 (.inr ((mem_del _ _ _).2 ⟨ha, by rw [h2]; exact e⟩)), h2⟩
  · rcases List.mem_or_eq_of_mem_set hx with h1 | h1
    · exact h.wf x h1
    · rw [h1]; exact hv
/-- All up to k are no greater. -/
def Low (d : List (En Int)) (v : Int) (k : Nat) : Prop := ∀ q, q < k → (d.getD q default).v ≤ v
theorem low_ins {d : List (En Int)} {x v g : Int} {k : Nat} (hp : ∀ e ∈ d, e.p < g) (hk : k ≤ d.length) (hl : Low d v k) (hx : k = d.length ∨ v < (d.getD k default).v) :
    ids (ins ltI ⟨x, v, g⟩ d) = (ids d).take k ++ x :: (ids d).drop k := by
  have h := ins_split (bf := ltI) ⟨x, v, g⟩ (d.take k) (d.drop k) (fun y hy => by
    obtain ⟨i, hi, rfl⟩ := List.getElem_of_mem hy
    rw [List.length_take] at hi
    have hv := hl i (by omega)
    have e1 : d.getD i default = d[i] := by simp [show i < d.length by omega]
    rw [e1] at hv
    rw [List.getElem_take, fst_true]
    unfold ltI
    dsimp only
    have := hp d[i] (List.getElem_mem _)
    simp only [decide_eq_true_eq, decide_eq_false_iff_not]
    omega) (fun y u hyu => by
    have hlt : k < d.length := by
      have := congrArg List.length hyu
      rw [List.length_drop] at this
      simp at this
      omega
    have e1 : y = d[k] := by
      have := List.drop_eq_getElem_cons hlt
      rw [hyu] at this
      injection this
    rcases hx with hx | hx
    · omega
    · have e2 : d.getD k default = d[k] := by simp [hlt]
      rw [e2, ← e1] at hx
      rw [fst_false]
      unfold ltI
      dsimp only
      simp only [decide_eq_true_eq, decide_eq_false_iff_not]
      omega)
  rw [List.take_append_drop] at h
  rw [h]
  simp [ids, List.map_take, List.map_drop]
theorem insL_cells (l : List Int) (k : Nat) (x : Int) : insL (cells .i64 l) k (.int .i64 x) = cells .i64 (l.take k ++ x :: l.drop k) := by simp [insL, cells, List.map_take, List.map_drop]
/-- Rows of different types lie apart. -/
theorem rows_ne {w : World} {b1 b2 n1 n2 s1 s2 : Nat} {e1 e2 : TypeId} {v1 v2 : Value} {x1 x2 : List Value} (h1 : w.ownsRow b1 e1 s1 v1 n1 x1) (h2 : w.ownsRow b2 e2 s2 v2 n2 x2) (hne : e1 ≠ e2) : ∀ k, v1.ownBlock = some k → v2.ownBlock ≠ some k := by
  intro k hk hk2
  rcases h1.2 with ⟨rfl, _⟩ | ⟨g, cap, cur, rfl, _, hb, _⟩
  · simp [Value.ownBlock] at hk
  · have : g = k := by simpa [Value.ownBlock] using hk
    subst this
    exact own_blk_ne h2 (show Blk w g e1 cur from hb) (Ne.symm hne) g hk2 rfl
theorem OwnI_down {f : Nat} {bf : Int → Int → Bool} {w w0 w1 : World} {b : Nat} {K : Nat → Prop} {s : List (En Int)} {g : Int} (h : OwnI f bf w0 w1 b K s g) (hf : Fr No w w0) : OwnI f bf w w1 b K s g := by
  obtain ⟨D, h, hd, hk, h2⟩ := h
  exact ⟨D, h, fun k hk2 => ⟨Nat.le_trans hf.size (hd k hk2).1, (hd k hk2).2⟩, hk, hf.then0 h2⟩
/-- What HeapChanges holds. -/
structure ChI (w wr : World) (b : Nat) (AL : Option Addr) (cL N : Nat) (AO : Option Addr) (cO : Nat) (ls : List Int) (s : List (En Int)) (g : Int) : Prop where
  h : OwnI 39 ltI w wr b (fun k => BlkOf (.slice AL N cL) k ∨ BlkOf (.slice AO N cO) k) s g
  l : wr.ownsRow w.heap.size 5 1 (.slice AL N cL) N (cells .u8 ls)
  o : wr.ownsRow w.heap.size 3 1 (.slice AO N cO) N (cells .i64 (ids s))
  p : ChS ls N s g
abbrev kTwo : List IntKind := [.u8, .u8]
theorem two_at {bytes : Nat} {w : World} {A : Option Addr} {n c : Nat} {es : List (List Int)} (h : RowF kTwo bytes w A n c es) {k : Nat} (hk : k < n) :
    ∃ b off a v, A = some ⟨b, off, none⟩ ∧ b < w.heap.size ∧ (0 ≤ a ∧ a ≤ 255) ∧ (0 ≤ v ∧ v ≤ 255) ∧ w.cell? ⟨b, off + k * 2, none⟩ = some (.int .u8 a) ∧ w.cell? ⟨b, off + k * 2 + 1, none⟩ = some (.int .u8 v) := by
  obtain ⟨b, off, hA, hb, hl, hw, hc⟩ := h.at_ (by decide) hk
  generalize es.getD k [] = l at *
  match l, hl with
  | [a, v], _ =>
    have h0 := hw 0 .u8 a rfl rfl
    have h1 := hw 1 .u8 v rfl rfl
    simp [Lit.wf] at h0 h1
    exact ⟨b, off, a, v, hA, hb, ⟨h0.1, h0.2⟩, ⟨h1.1, h1.2⟩, hc 0 _ rfl, hc 1 _ rfl⟩
end Go.Proofs.Ytbndmelkdamgjaa.So
