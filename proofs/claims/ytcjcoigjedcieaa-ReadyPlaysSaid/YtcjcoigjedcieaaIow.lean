/- slices.Insert of one item, at a row of the queue's own. -/
import Derived.Test.YtcjcoigjedcieaaIgr
namespace Go.Proofs.Ytcjcoigjedcieaa
open Go.RowKit Go.Wk

/-- A list with one more at a place. -/
def insI (l : List IV) (i : Nat) (x : IV) : List IV := l.take i ++ x :: l.drop i
theorem icells_cons (x : IV) (l : List IV) : icells (x :: l) = x.cells ++ icells l := by simp [icells]
theorem icells_ins (l : List IV) (i : Nat) (x : IV) : icells (insI l i x) = insC (icells l) (i * 4) x.cells := by
  unfold insI insC
  rw [icells_app, icells_cons, icells_take, icells_drop, List.append_assoc]
theorem insI_len (l : List IV) {i : Nat} (x : IV) (hi : i ≤ l.length) : (insI l i x).length = l.length + 1 := by
  unfold insI; rw [List.length_append, List.length_cons, List.length_take, List.length_drop]; omega
theorem insI_end (l : List IV) (x : IV) (i : Nat) (hi : i = l.length) : icells (insI l i x) = icells l ++ icells [x] := by
  subst hi; unfold insI; rw [List.take_length, List.drop_length, icells_app]
/-- What Insert leaves. -/
def Inserted (w : World) (v0 : Value) (n : Nat) (xs : List Value) (e : Ending) (w' : World) : Prop := ∃ A c, e = .returned (.slice A (n + 1) c) ∧ w'.ownsRow 0 31 4 (.slice A (n + 1) c) (n + 1) xs ∧ Fr (fun k => v0.ownBlock = some k) w w' ∧ (∀ k, (Value.slice A (n + 1) c).ownBlock = some k → v0.ownBlock = some k ∨ w.heap.size ≤ k)

set_option maxHeartbeats 2000000 in
set_option maxRecDepth 100000 in
theorem ins_any (A : Option Addr) (n c i vb : Nat) (x : IV) (l : List IV) (w : World) (ho : w.ownsRow 0 31 4 (.slice A n c) n (icells l)) (hv : Blk w vb 31 #[.int .i64 x.id, .int .i64 x.pr, .int .i64 x.since, .int .i64 x.seq]) (hne : ∀ k, (Value.slice A n c).ownBlock = some k → k ≠ vb) (hi : i ≤ n) (hn : n ≤ 100000) :
    Calls Try.prog 47 #[.slice A n c, .int .i64 i, .slice (some ⟨vb, 0, none⟩) 1 1] w (Inserted w (.slice A n c) n (icells (insI l i x))) := by
  have hll : (icells l).length = n * 4 := ho.1
  have hl : l.length = n := by rw [icells_len] at hll; omega
  have hvx : ∀ j v, x.cells[j]? = some v → w.cell? ⟨vb, j, none⟩ = some v := fun j v hj => by
    rw [hv.cell]
    rw [← hj]
    match j with
    | 0 => rfl
    | 1 => rfl
    | 2 => rfl
    | 3 => rfl
    | _ + 4 => rfl
  have hone1 : ∀ v ∈ x.cells, v.oneCell' = true := fun v hv => icells_one [x] v (by simpa [icells] using hv)
  by_cases hin : i = n
  · subst hin
    obtain ⟨i0, hi0, hz0, hz1, hz2⟩ : ∃ i, Try.prog.info? 31 = some i ∧ i.zero = some (.agg #[.int .i64 0, .int .i64 0, .int .i64 0, .int .i64 0]) ∧ i.size = 4 ∧ i.bytes = 32 := ⟨_, rfl, rfl, rfl, rfl⟩
    have O := Lib.hid ho
    have hR : Reads w w.heap.size 4 (some ⟨vb, 0, none⟩) 1 (icells [x]) := ⟨rfl, fun _ => ⟨_, rfl, hv.lt, fun j u hu => by
      rw [add_plain, Nat.zero_add]
      exact hvx j u (by simpa [icells] using hu)⟩⟩
    have R := Lib.hid hR
    have HE := Lib.hid (insI_end l x i hl.symm)
    have hil := Lib.hid (show i ≤ c from own_cap ho)
    clear ho hv hR hll hvx hone1
    by_cases hci : c = i
    · subst hci
      go_enter Try.func47, Try.ntmps47
      go_wp2_with (at_builtin; refine wpList_append_any w rfl (.tmp 23) (.tmp 24) 26 rfl 0 31 i0 (.agg #[.int .i64 0, .int .i64 0, .int .i64 0, .int .i64 0]) 4 32 Try.underlying26 hi0 hz0 hz1 hz2 rfl (by omega) (.slice A c c) c _ rfl O.out w.heap.size _ 1 1 (icells [x]) rfl R.out (icells_one _) (by unfold maxLen; omega) (by omega) (by omega) ?_)
      intro v' w2 hown2 hg2 hloc2
      obtain ⟨A2, q2, rfl⟩ := own_form' hown2
      go_wp2
      go_ret
      refine ⟨A2, q2, by simp, by rw [HE.out]; exact hown2, Fr.of_grown hg2 (fun k hk => hk), fun k hk => ?_⟩
      rcases hloc2 with h | h
      · left; rw [← h]; exact hk
      · right; rw [h] at hk; injection hk with hk; omega
    · have hci2 := hci
      go_enter Try.func47, Try.ntmps47
      go_wp2_with (at_builtin; refine wpList_append_any w rfl (.tmp 23) (.tmp 24) 26 rfl 0 31 i0 (.agg #[.int .i64 0, .int .i64 0, .int .i64 0, .int .i64 0]) 4 32 Try.underlying26 hi0 hz0 hz1 hz2 rfl (by omega) (.slice A i c) i _ rfl O.out w.heap.size _ 1 1 (icells [x]) rfl R.out (icells_one _) (by unfold maxLen; omega) (by omega) (by omega) ?_)
      intro v' w2 hown2 hg2 hloc2
      obtain ⟨A2, q2, rfl⟩ := own_form' hown2
      go_wp2
      go_ret
      refine ⟨A2, q2, by simp, by rw [HE.out]; exact hown2, Fr.of_grown hg2 (fun k hk => hk), fun k hk => ?_⟩
      rcases hloc2 with h | h
      · left; rw [← h]; exact hk
      · right; rw [h] at hk; injection hk with hk; omega
  · have hlt : i < n := by omega
    obtain ⟨g, q, he, _⟩ := own_some ho (by omega)
    cases he
    rw [icells_ins]
    rcases ho.2 with ⟨h1, _⟩ | ⟨g', cap, cur, h1, _, hb, hnc, hcm, hcs, htk⟩
    · cases h1
    · injection h1 with h1 _ h2
      cases h1
      subst h2
      have hB : Blk w g 31 cur := hb
      have hgv : g ≠ vb := hne g rfl
      have hct : ∀ j v, (icells l)[j]? = some v → w.cell? ⟨g, j, none⟩ = some v := fun j v hj => by
        have hj2 : j < n * 4 := by have := (List.getElem?_eq_some_iff.1 hj).1; omega
        rw [hB.cell, ← Array.getElem?_toList]
        rw [← htk, List.getElem?_take, if_pos (by omega)] at hj
        exact hj
      have hcur : ∀ j, j < n * 4 → cur[j]? = (icells l)[j]? := fun j hj => by
        rw [← htk, List.getElem?_take, if_pos (by omega), Array.getElem?_toList]
      by_cases hr : n + 1 ≤ c
      · refine (ins_shift g n c i vb 1 (icells l) x.cells w hlt hr (by simpa [maxLen] using hcm) (Ne.symm hgv) hll rfl hct (fun j hj => by rw [hB.cell, Array.getElem?_eq_getElem (by omega)]; rfl) (fun j _ => hB.frozen j) hvx (icells_one l) hone1 _ _ _ _ (blk_shape hv) (blk_shape hB) (by omega) (hv.frozen 0) (hv.frozen _)).mono ?_
        rintro e w' ⟨rfl, rfl⟩
        have hB2 := blk_setCells x.cells _ (i * 4) _ (blk_setCells ((icells l).drop (i * 4)) cur ((i + 1) * 4) w.drew hB)
        refine ⟨some ⟨g, 0, none⟩, c, rfl, ⟨by rw [insC_len _ _ _ (by omega), hll]; show n * 4 + 4 = _; omega, .inr ⟨g, c, _, rfl, Nat.zero_le _, hB2, hr, hcm, by rw [setL_size, setL_size]; exact hcs, ?_⟩⟩, ?_, fun k hk => .inl hk⟩
        · have := ins_row cur (icells l) x.cells (n * 4) (i * 4) 4 hll rfl (by omega) (by omega) (fun j hj => hcur j (by omega))
          rw [show i * 4 + 4 = (i + 1) * 4 by omega, show n * 4 + 4 = (n + 1) * 4 by omega] at this
          exact this
        · exact fr_setCells (S := fun k => some g = some k) rfl _ _ (fr_setCells (S := fun k => some g = some k) rfl _ _ (Fr.refl _ w).drew)
      · refine (ins_grow g n c i vb 1 (icells l) x.cells w hlt hnc (by omega) (by omega) hll rfl hct hvx (icells_one l) hone1 hB.lt hv.lt).mono ?_
        rintro e w' ⟨G, ROW, g1, g2, g3, g4, rfl, rfl⟩
        have hB2 := blk_setCells ((icells l).drop (i * 4)) _ ((i + 1) * 4) _ ((blk_setCells x.cells ROW (i * 4) _ (show Blk (w.alloc (.cells ROW 31)).drew w.heap.size 31 ROW from Blk.new w 31 ROW)).drew)
        refine ⟨some ⟨w.heap.size, 0, none⟩, G, rfl, ⟨by rw [insC_len _ _ _ (by omega), hll]; show n * 4 + 4 = _; omega, .inr ⟨_, G, _, rfl, Nat.zero_le _, hB2, g1, g2, by rw [setL_size, setL_size]; omega, ?_⟩⟩, ?_, fun k hk => .inr ?_⟩
        · have := ins_row2 ROW (icells l) x.cells (n * 4) (i * 4) 4 hll rfl (by omega) (by omega) g4
          rw [show i * 4 + 4 = (i + 1) * 4 by omega, show n * 4 + 4 = (n + 1) * 4 by omega] at this
          exact this
        · refine Fr.ownS (T := (· = w.heap.size)) ((Fr.refl _ w).alloc (.cells ROW 31)) ?_ (fun b hb => by omega)
          exact fr_setCells (S := (· = w.heap.size)) rfl _ _ (fr_setCells (S := (· = w.heap.size)) rfl _ _ (Fr.refl _ _).drew).drew
        · have : w.heap.size = k := by simpa [Value.ownBlock] using hk
          omega
end Go.Proofs.Ytcjcoigjedcieaa
