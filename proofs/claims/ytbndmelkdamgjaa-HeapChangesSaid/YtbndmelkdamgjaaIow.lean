/- slices.Insert of one number, at a row of the list's own. -/
import Derived.Test.YtbndmelkdamgjaaIgr
namespace Go.Proofs.Ytbndmelkdamgjaa.So
open Go.RowKit Go.Wk

theorem insL_end (l : List Value) (u : Value) (i : Nat) (hi : i = l.length) : insL l i u = l ++ [u] := by
  subst hi; unfold insL; rw [List.take_length, List.drop_length]
/-- What Insert leaves. -/
def Inserted (w : World) (v0 : Value) (n : Nat) (xs : List Value) (e : Ending) (w' : World) : Prop := ∃ A c, e = .returned (.slice A (n + 1) c) ∧ w'.ownsRow 0 3 1 (.slice A (n + 1) c) (n + 1) xs ∧ Fr (fun k => v0.ownBlock = some k) w w' ∧ (∀ k, (Value.slice A (n + 1) c).ownBlock = some k → v0.ownBlock = some k ∨ w.heap.size ≤ k)

set_option maxHeartbeats 1000000 in
set_option maxRecDepth 100000 in
theorem insert_any (A : Option Addr) (n c i vb : Nat) (x : Int) (l : List Int) (w : World) (ho : w.ownsRow 0 3 1 (.slice A n c) n (cells .i64 l)) (hv : Blk w vb 3 #[.int .i64 x]) (hne : ∀ k, (Value.slice A n c).ownBlock = some k → k ≠ vb) (hi : i ≤ n) (hn : n ≤ 100000) :
    Calls Try.prog 56 #[.slice A n c, .int .i64 i, .slice (some ⟨vb, 0, none⟩) 1 1] w (Inserted w (.slice A n c) n (insL (cells .i64 l) i (.int .i64 x))) := by
  have hll : (cells .i64 l).length = n := by have := ho.1; omega
  by_cases hin : i = n
  · subst hin
    obtain ⟨i0, hi0, hz0, hz1, hz2⟩ : ∃ i, Try.prog.info? 3 = some i ∧ i.zero = some (.int .i64 0) ∧ i.size = 1 ∧ i.bytes = 8 := ⟨_, rfl, rfl, rfl, rfl⟩
    have O := Lib.hid ho
    have hR : Reads w w.heap.size 1 (some ⟨vb, 0, none⟩) 1 [.int .i64 x] := ⟨rfl, fun _ => ⟨_, rfl, hv.lt, fun j u hu => by
      match j, hu with
      | 0, hu =>
        rw [add_plain, hv.cell]
        exact hu⟩⟩
    have R := Lib.hid hR
    have HE := Lib.hid (insL_end (cells .i64 l) (.int .i64 x) i hll.symm)
    have hil := Lib.hid (show i ≤ c from own_cap ho)
    clear ho hv hR hll
    by_cases hci : c = i
    · subst hci
      go_enter Try.func56, Try.ntmps56
      go_wp2_with (at_builtin; refine wpList_append_any w rfl (.tmp 23) (.tmp 24) 39 rfl 0 3 i0 (.int .i64 0) 1 8 Try.underlying39 hi0 hz0 hz1 hz2 rfl (by omega) (.slice A c c) c _ rfl O.out w.heap.size _ 1 1 [.int .i64 x] rfl R.out (fun u hu => by rw [List.mem_singleton.1 hu]; rfl) (by unfold maxLen; omega) (by omega) (by omega) ?_)
      intro v' w2 hown2 hg2 hloc2
      obtain ⟨A2, q2, rfl⟩ := own_form' hown2
      go_wp2
      go_ret
      refine ⟨A2, q2, by simp, by rw [HE.out]; exact hown2, Fr.of_grown hg2 (fun k hk => hk), fun k hk => ?_⟩
      rcases hloc2 with h | h
      · left; rw [← h]; exact hk
      · right; rw [h] at hk; injection hk with hk; omega
    · have hci2 := hci
      go_enter Try.func56, Try.ntmps56
      go_wp2_with (at_builtin; refine wpList_append_any w rfl (.tmp 23) (.tmp 24) 39 rfl 0 3 i0 (.int .i64 0) 1 8 Try.underlying39 hi0 hz0 hz1 hz2 rfl (by omega) (.slice A i c) i _ rfl O.out w.heap.size _ 1 1 [.int .i64 x] rfl R.out (fun u hu => by rw [List.mem_singleton.1 hu]; rfl) (by unfold maxLen; omega) (by omega) (by omega) ?_)
      intro v' w2 hown2 hg2 hloc2
      obtain ⟨A2, q2, rfl⟩ := own_form' hown2
      go_wp2
      go_ret
      refine ⟨A2, q2, by simp, by rw [HE.out]; exact hown2, Fr.of_grown hg2 (fun k hk => hk), fun k hk => ?_⟩
      rcases hloc2 with h | h
      · left; rw [← h]; exact hk
      · right; rw [h] at hk; injection hk with hk; omega
  · have hlt : i < n := by omega
    obtain ⟨g, q, he, _⟩ := own_some ho (by omega)
    cases he
    rcases ho.2 with ⟨h1, _⟩ | ⟨g', cap, cur, h1, _, hb, hnc, hcm, hcs, htk⟩
    · cases h1
    · injection h1 with h1 _ h2
      cases h1
      subst h2
      have hB : Blk w g 3 cur := hb
      have hgv : g ≠ vb := hne g rfl
      have hct : ∀ j v, (cells .i64 l)[j]? = some v → w.cell? ⟨g, j, none⟩ = some v := fun j v hj => by
        have hj2 : j < n := by have := (List.getElem?_eq_some_iff.1 hj).1; omega
        rw [hB.cell, ← Array.getElem?_toList]
        rw [← htk, List.getElem?_take, if_pos (by omega)] at hj
        exact hj
      have hcur : ∀ j, j < n → cur[j]? = (cells .i64 l)[j]? := fun j hj => by
        rw [← htk, List.getElem?_take, if_pos (by omega), Array.getElem?_toList]
      have hone : ∀ v ∈ cells .i64 l, v.oneCell' = true := fun v hv => by
        simp only [cells, List.mem_map] at hv
        obtain ⟨z, _, rfl⟩ := hv
        rfl
      have hvc : w.cell? ⟨vb, 0, none⟩ = some (.int .i64 x) := hv.cell 0
      by_cases hr : n + 1 ≤ c
      · refine (ins_shift g n c i vb 1 (cells .i64 l) (.int .i64 x) w hlt hr (by simpa [maxLen] using hcm) (Ne.symm hgv) hll hct (fun j hj => by rw [hB.cell, Array.getElem?_eq_getElem (by omega)]; rfl) (fun j _ => hB.frozen j) hvc hone rfl _ _ _ _ (blk_shape hv) (blk_shape hB) (by omega) (hv.frozen 0) (hv.frozen _)).mono ?_
        rintro e w' ⟨rfl, rfl⟩
        have hB2 := blk_setCells [.int .i64 x] _ i _ (blk_setCells ((cells .i64 l).drop i) cur (i + 1) w.drew hB)
        refine ⟨some ⟨g, 0, none⟩, c, rfl, ⟨by rw [insL_len _ _ _ (by omega), hll]; omega, .inr ⟨g, c, _, rfl, Nat.zero_le _, hB2, hr, hcm, by rw [setL_size, setL_size]; exact hcs, ?_⟩⟩, ?_, fun k hk => .inl hk⟩
        · rw [Nat.mul_one]
          exact ins_row cur (cells .i64 l) n i _ hll hi (by omega) (fun j hj => hcur j (by omega))
        · exact fr_setCells (S := fun k => some g = some k) rfl _ _ (fr_setCells (S := fun k => some g = some k) rfl _ _ (Fr.refl _ w).drew)
      · refine (ins_grow g n c i vb 1 (cells .i64 l) (.int .i64 x) w hlt hnc (by omega) (by omega) hll hct hvc hone rfl hB.lt hv.lt).mono ?_
        rintro e w' ⟨G, ROW, g1, g2, g3, g4, rfl, rfl⟩
        have hB2 := blk_setCells ((cells .i64 l).drop i) _ (i + 1) _ ((blk_setCells [.int .i64 x] ROW i _ (show Blk (w.alloc (.cells ROW 3)).drew w.heap.size 3 ROW from Blk.new w 3 ROW)).drew)
        refine ⟨some ⟨w.heap.size, 0, none⟩, G, rfl, ⟨by rw [insL_len _ _ _ (by omega), hll]; omega, .inr ⟨_, G, _, rfl, Nat.zero_le _, hB2, g1, g2, by rw [setL_size, setL_size]; omega, ?_⟩⟩, ?_, fun k hk => .inr ?_⟩
        · rw [Nat.mul_one]
          exact ins_row2 ROW (cells .i64 l) n i _ hll hi (by omega) g4
        · refine Fr.ownS (T := (· = w.heap.size)) ((Fr.refl _ w).alloc (.cells ROW 3)) ?_ (fun b hb => by omega)
          exact fr_setCells (S := (· = w.heap.size)) rfl _ _ (fr_setCells (S := (· = w.heap.size)) rfl _ _ (Fr.refl _ _).drew).drew
        · have : w.heap.size = k := by simpa [Value.ownBlock] using hk
          omega
end Go.Proofs.Ytbndmelkdamgjaa.So
