/- slices.Insert of one number into a row of the list's own. -/
import Derived.Test.YtbndmelkdamgjaaKa
import Derived.Shelf.Spec.SlicesInsertGrow
namespace Go.Proofs.Ytbndmelkdamgjaa.So
open Go.RowKit Go.Wk

def setL (cs : Array Value) : Nat → List Value → Array Value
  | _, [] => cs
  | o, v :: r => setL (cs.setIfInBounds o v) (o + 1) r
theorem setL_size : ∀ (vs : List Value) (cs : Array Value) (o : Nat), (setL cs o vs).size = cs.size
  | [], _, _ => rfl
  | v :: r, cs, o => by rw [setL, setL_size r]; simp
theorem setL_get : ∀ (vs : List Value) (cs : Array Value) (o j : Nat), o + vs.length ≤ cs.size → (setL cs o vs)[j]? = if o ≤ j ∧ j < o + vs.length then vs[j - o]? else cs[j]?
  | [], cs, o, j, _ => by simp [setL]; intro h1 h2; omega
  | v :: r, cs, o, j, h => by
    simp only [List.length_cons] at h
    rw [setL, setL_get r (cs.setIfInBounds o v) (o + 1) j (by simp; omega), Array.getElem?_setIfInBounds]
    simp only [List.length_cons]
    rcases (show j < o ∨ j = o ∨ (o < j ∧ j < o + (r.length + 1)) ∨ o + (r.length + 1) ≤ j by omega) with h1 | h1 | h1 | h1
    · rw [if_neg (by omega), if_neg (by omega), if_neg (by omega)]
    · subst h1
      rw [if_neg (by omega), if_pos rfl, if_pos (by omega), if_pos (by omega), Nat.sub_self]
      rfl
    · rw [if_pos (by omega), if_pos (by omega), show j - o = (j - (o + 1)) + 1 by omega, List.getElem?_cons_succ]
    · rw [if_neg (by omega), if_neg (by omega), if_neg (by omega)]
theorem blk_setCells {g : Nat} {t : TypeId} : ∀ (vs : List Value) (cs : Array Value) (o : Nat) (w : World), Blk w g t cs → Blk (w.setCells g o vs) g t (setL cs o vs)
  | [], _, _, _, h => h
  | v :: r, cs, o, _, h => blk_setCells r (cs.setIfInBounds o v) (o + 1) _ (h.set_ o v)
theorem blk_shape {w : World} {g : Nat} {t : TypeId} {cs : Array Value} (h : Blk w g t cs) : w.shape? g = some (t, cs.size) := by
  unfold World.shape?
  unfold Blk at h
  rw [h]

/-- A list with one more at a place. -/
def insL (l : List Value) (i : Nat) (u : Value) : List Value := l.take i ++ u :: l.drop i
theorem insL_get (l : List Value) (i : Nat) (u : Value) (hi : i ≤ l.length) (j : Nat) : (insL l i u)[j]? = if j < i then l[j]? else if j = i then some u else l[j - 1]? := by
  unfold insL
  by_cases h1 : j < i
  · rw [if_pos h1, List.getElem?_append_left (by rw [List.length_take]; omega), List.getElem?_take, if_pos h1]
  · rw [if_neg h1, List.getElem?_append_right (by rw [List.length_take]; omega), List.length_take, Nat.min_eq_left hi]
    by_cases h2 : j = i
    · subst h2; rw [if_pos rfl, Nat.sub_self]; rfl
    · rw [if_neg h2, show j - i = (j - i - 1) + 1 by omega, List.getElem?_cons_succ, List.getElem?_drop]
      congr 1; omega
theorem insL_len (l : List Value) (i : Nat) (u : Value) (hi : i ≤ l.length) : (insL l i u).length = l.length + 1 := by
  unfold insL; rw [List.length_append, List.length_cons, List.length_take, List.length_drop]; omega
/-- What lies in the row behind an insertion. -/
theorem ins_row (cur : Array Value) (l : List Value) (n i : Nat) (u : Value) (hl : l.length = n) (hi : i ≤ n) (hs : n + 1 ≤ cur.size) (ht : ∀ j, j < i → cur[j]? = l[j]?) :
    (setL (setL cur (i + 1) (l.drop i)) i [u]).toList.take (n + 1) = insL l i u := by
  have hd : (l.drop i).length = n - i := by rw [List.length_drop, hl]
  apply List.ext_getElem?
  intro j
  rw [List.getElem?_take]
  by_cases hj : j < n + 1
  · rw [if_pos hj, Array.getElem?_toList, setL_get _ _ _ _ (by rw [setL_size]; simp only [List.length_cons, List.length_nil]; omega), insL_get l i u (by omega)]
    simp only [List.length_cons, List.length_nil]
    by_cases h2 : j = i
    · subst h2
      rw [if_pos (by omega), if_neg (by omega), if_pos rfl, Nat.sub_self]; rfl
    · rw [if_neg (by omega), setL_get _ _ _ _ (by rw [hd]; omega), hd]
      by_cases h3 : j < i
      · rw [if_neg (by omega), if_pos h3]; exact ht j h3
      · rw [if_pos (by omega), if_neg h3, if_neg h2, List.getElem?_drop]
        congr 1; omega
  · rw [if_neg hj, List.getElem?_eq_none (by rw [insL_len l i u (by omega), hl]; omega)]
theorem ins_row2 (cur : Array Value) (l : List Value) (n i : Nat) (u : Value) (hl : l.length = n) (hi : i ≤ n) (hs : n + 1 ≤ cur.size) (ht : ∀ j, j < i → cur[j]? = l[j]?) :
    (setL (setL cur i [u]) (i + 1) (l.drop i)).toList.take (n + 1) = insL l i u := by
  have hd : (l.drop i).length = n - i := by rw [List.length_drop, hl]
  apply List.ext_getElem?
  intro j
  rw [List.getElem?_take]
  by_cases hj : j < n + 1
  · rw [if_pos hj, Array.getElem?_toList, setL_get _ _ _ _ (by rw [setL_size, hd]; omega), hd, insL_get l i u (by omega)]
    by_cases h3 : j < i
    · rw [if_neg (by omega), setL_get _ _ _ _ (by simp only [List.length_cons, List.length_nil]; omega), if_neg (by omega), if_pos h3]; exact ht j h3
    · by_cases h2 : j = i
      · subst h2
        rw [if_neg (by omega), setL_get _ _ _ _ (by simp only [List.length_cons, List.length_nil]; omega), if_pos (by simp only [List.length_cons, List.length_nil]; omega), if_neg (by omega), if_pos rfl, Nat.sub_self]; rfl
      · rw [if_pos (by omega), if_neg h3, if_neg h2, List.getElem?_drop]
        congr 1; omega
  · rw [if_neg hj, List.getElem?_eq_none (by rw [insL_len l i u (by omega), hl]; omega)]

set_option maxHeartbeats 4000000 in
set_option maxRecDepth 100000 in
/-- In place. -/
theorem ins_shift (b n c i vb vc : Nat) (cs : List Value) (u : Value) (w : World) (hi : i < n) (hroom : n + 1 ≤ c) (hc63 : c ≤ 9223372036854775807) (hvb : vb ≠ b)
    (hcl : cs.length = n) (hcs : ∀ j v, cs[j]? = some v → w.cell? ⟨b, j, none⟩ = some v) (hsp : ∀ j, j < n + 1 → (w.cell? ⟨b, j, none⟩).isSome = true) (hfz : ∀ j, j < n + 1 → w.frozen? ⟨b, j, none⟩ = false)
    (hvs : w.cell? ⟨vb, 0, none⟩ = some u) (h1c : ∀ v ∈ cs, v.oneCell' = true) (h1v : u.oneCell' = true)
    (tA tB : TypeId) (kA kB : Nat) (hsa : w.shape? vb = some (tA, kA)) (hsb : w.shape? b = some (tB, kB)) (hkB : kB ≠ 0) (hfa : w.frozen? ⟨vb, 0, none⟩ = false) (hfe : w.frozen? ⟨vb, kA, none⟩ = false) :
    Calls Try.prog 56 #[.slice (some ⟨b, 0, none⟩) n c, .int .i64 i, .slice (some ⟨vb, 0, none⟩) 1 vc] w fun e w' =>
      e = .returned (.slice (some ⟨b, 0, none⟩) (n + 1) c) ∧ w' = (w.drew.setCells b (i + 1) (cs.drop i)).setCells b i [u] := by
  obtain ⟨i0, hi0, h0, h1, h2⟩ : ∃ i, Try.prog.info? 3 = some i ∧ i.zero = some (.int .i64 0) ∧ i.size = 1 ∧ i.bytes = 8 := ⟨_, rfl, rfl, rfl, rfl⟩
  have hz2 : ¬ ((i : Int) = (n : Int)) := by omega
  have hsz : (Try.prog.info? 3).map (·.size) = some 1 := by rw [hi0]; simp [h1]
  have hso : ∀ w, (Go.sizeOf 3).run Try.prog w = .ok 1 w := fun w => by simp [Go.sizeOf, typeInfo, hi0, h1]
  have hov : ∀ lb cb, (callFunc 82 #[.slice (some ⟨vb, 0, none⟩) 1 vc, .slice (some ⟨b, i + 1, none⟩) lb cb]).run Try.prog w = .ok (.value (.bool false)) w := fun lb cb => by
    rw [run_callFunc_extern Try.func82 (by kernel_rfl) (by kernel_rfl) (by kernel_rfl) (e := Extern.SlicesOverlaps.overlaps #[39, 39] #[4]) (by kernel_rfl),
      Lib.run_overlaps_apart w 39 4 3 Try.underlying39 1 hso ⟨vb, 0, none⟩ ⟨b, i + 1, none⟩ 1 vc lb cb hvb tA tB kA kB hsa hsb hkB hfa hfe]
    rfl
  have hdl : (cs.drop i).length = n - i := by rw [List.length_drop, hcl]
  have hw1 : IntKind.i64.wrap ((i : Int) + 1) = (i : Int) + 1 := by rw [IntKind.wrap_i64]; omega
  have hb1 : (0 : Int) ≤ (i : Int) + 1 := by omega
  have hin : i ≤ n := by omega
  have htn : ((i : Int) + 1).toNat = i + 1 := by omega
  have hb2 : ¬ (c = i + 1) := by omega
  have hb3 : (i : Int) ≤ (n : Int) + 1 := by omega
  have hb4 : ¬ (c = i) := by omega
  have hcp1 : ∀ ty dc sc, (Builtin.copy_ #[39, 39] ty #[.slice (some ⟨b, i + 1, none⟩) (n - i) dc, .slice (some ⟨b, i, none⟩) (n + 1 - i) sc]).run Try.prog w.drew = .ok (goInt (cs.drop i).length) (w.drew.setCells b (i + 1) (cs.drop i)) := fun ty dc sc =>
    run_copy_cells w.drew _ _ ty 3 b (i + 1) (n - i) dc ⟨b, i, none⟩ (n + 1 - i) sc (cs.drop i) Try.underlying39 hsz (by rw [hdl]; simp only [Nat.min_def]; split <;> omega)
      (fun j v hj => by rw [add_plain]; exact hcs (i + j) v (by rwa [List.getElem?_drop] at hj))
      (fun j hj => hsp _ (by omega)) (fun j hj => hfz _ (by omega)) (fun v hv => h1c v (List.mem_of_mem_drop hv))
  obtain ⟨W1, hW1⟩ : ∃ W1, W1 = w.drew.setCells b (i + 1) (cs.drop i) := ⟨_, rfl⟩
  have hsp1 : ∀ k, k < n + 1 → (W1.cell? ⟨b, k, none⟩).isSome = true := fun k hk => by
    rw [hW1]
    exact isSome_setCells b (cs.drop i) (i + 1) w.drew (fun j hj => hsp _ (by rw [hdl] at hj; omega)) k (hsp k hk)
  have hcp2 : ∀ (W : World), (∀ x, W.cell? x = W1.cell? x) → (∀ x, W.frozen? x = W1.frozen? x) → ∀ ty dc, (Builtin.copy_ #[39, 39] ty #[.slice (some ⟨b, i, none⟩) (n + 1 - i) dc, .slice (some ⟨vb, 0, none⟩) 1 vc]).run Try.prog W = .ok (goInt [u].length) (W.setCells b i [u]) := fun W hWc hWf ty dc =>
    run_copy_cells W _ _ ty 3 b i (n + 1 - i) dc ⟨vb, 0, none⟩ 1 vc [u] Try.underlying39 hsz (by simp only [List.length_cons, List.length_nil, Nat.min_def]; split <;> omega)
      (fun j v hj => by
        match j, hj with
        | 0, hj =>
          rw [add_plain, hWc, hW1, World.cell?_setCells_out b _ _ _ _ (fun h _ => absurd h hvb)]
          simp only [List.getElem?_cons_zero, Option.some.injEq] at hj
          rw [← hj]; exact hvs)
      (fun j hj => by rw [hWc]; exact hsp1 _ (by simp only [List.length_cons, List.length_nil] at hj; omega)) (fun j hj => by rw [hWf, hW1, World.frozen?_setCells]; exact hfz _ (by simp only [List.length_cons, List.length_nil] at hj; omega)) (fun v hv => by rw [List.mem_singleton.1 hv]; exact h1v)
  rw [← hW1] at hcp1
  have mixed : Try.prog.follows Departure.mixedOrders = true := by kernel_rfl
  clear hi0 h0 h1 h2 hcs hsp hfz hso
  go_enter Try.func56, Try.ntmps56
  go_wp2_with (simp only [hov])
  go_region_law_o (refine step_copy_runI rfl _ _ 39 39 rfl _ _ (by simp [Act.eval, Act.put]) (by simp [Act.eval, Act.put]) (hcp1 _ _ _) ?_)
  go_wp2_with (at_builtin; refine wpList_copy_runI _ rfl _ _ 39 39 rfl _ _ rfl rfl (hcp2 _ (fun _ => rfl) (fun _ => rfl) _ _) ?_)
  go_ret
  first | exact ⟨rfl, rfl⟩ | exact ⟨rfl, by rw [hW1]⟩
end Go.Proofs.Ytbndmelkdamgjaa.So
