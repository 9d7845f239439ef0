/- slices.Insert of one item into a row of the queue's own: in place. -/
import Derived.Test.YtcjcoigjedcieaaA
import Derived.Shelf.Spec.SlicesInsertGrow
namespace Go.Wk
open Go.RowKit
/-- copy, at elements of k cells. -/
theorem run_copy_k {P : Program} (k : Nat) (w : World) (dT sT ty elem : TypeId) (b o dLen dCap : Nat) (a : Addr) (sLen sCap : Nat) (cs : List Value)
    (hu : P.underlying dT = some (.slice elem)) (hs : (P.info? elem).map (·.size) = some k) (hn : cs.length = Nat.min sLen dLen * k)
    (hsrc : ∀ j v, cs[j]? = some v → w.cell? (a.add j) = some v) (hc : ∀ j, j < cs.length → (w.cell? ⟨b, o + j, none⟩).isSome = true) (hf : ∀ j, j < cs.length → w.frozen? ⟨b, o + j, none⟩ = false) (h1 : ∀ v ∈ cs, v.oneCell' = true) :
    (Builtin.copy_ #[dT, sT] ty #[.slice (some ⟨b, o, none⟩) dLen dCap, .slice (some a) sLen sCap]).run P w = .ok (goInt (Nat.min sLen dLen)) (w.setCells b o cs) := by
  have hl := run_loadCells_list (P := P) w a cs hsrc
  have hst := run_storeCells_cells (P := P) b o cs 0 w (by simpa using hc) (by simpa using hf) h1
  cases hq : P.info? elem with
  | none => simp [hq] at hs
  | some i =>
    have hi : i.size = k := by simpa [hq] using hs
    rw [hn] at hl
    simp [Builtin.copy_, run_underlying hu, Builtin.lenOf, Builtin.firstCells, sizeOf, typeInfo, hq, hi, hl, hst]
end Go.Wk
namespace Go.Proofs.Ytcjcoigjedcieaa
open Go.RowKit Go.Wk
def setL (cs : Array Value) : Nat → List Value → Array Value
  | _, [] => cs
  | o, v :: r => setL (cs.setIfInBounds o v) (o + 1) r
theorem setL_size : ∀ (vs : List Value) (cs : Array Value) (o : Nat), (setL cs o vs).size = cs.size
  | [], _, _ => rfl
  | v :: r, cs, o => by rw [setL, setL_size r]; simp
theorem setL_get : ∀ (vs : List Value) (cs : Array Value) (o j : Nat), o + vs.length ≤ cs.size → (setL cs o vs)[j]? = if o ≤ j ∧ j < o + vs.length then vs[j - o]? else cs[j]?
  | [], cs, o, j, _ => by simp [setL]; intro h1 h2; omega
  | v :: r, cs, o, j, h => by
    simp only [List.length_cons] at h
    rw [setL, setL_get r (cs.setIfInBounds o v) (o + 1) j (by simp; omega), Array.getElem?_setIfInBounds]
    simp only [List.length_cons]
    rcases (show j < o ∨ j = o ∨ (o < j ∧ j < o + (r.length + 1)) ∨ o + (r.length + 1) ≤ j by omega) with h1 | h1 | h1 | h1
    · rw [if_neg (by omega), if_neg (by omega), if_neg (by omega)]
    · subst h1
      rw [if_neg (by omega), if_pos rfl, if_pos (by omega), if_pos (by omega), Nat.sub_self]
      rfl
    · rw [if_pos (by omega), if_pos (by omega), show j - o = (j - (o + 1)) + 1 by omega, List.getElem?_cons_succ]
    · rw [if_neg (by omega), if_neg (by omega), if_neg (by omega)]
theorem blk_setCells {g : Nat} {t : TypeId} : ∀ (vs : List Value) (cs : Array Value) (o : Nat) (w : World), Blk w g t cs → Blk (w.setCells g o vs) g t (setL cs o vs)
  | [], _, _, _, h => h
  | v :: r, cs, o, _, h => blk_setCells r (cs.setIfInBounds o v) (o + 1) _ (h.set_ o v)
theorem blk_shape {w : World} {g : Nat} {t : TypeId} {cs : Array Value} (h : Blk w g t cs) : w.shape? g = some (t, cs.size) := by
  unfold World.shape?
  unfold Blk at h
  rw [h]


/-- Cells with some more at a place. -/
def insC (l : List Value) (p : Nat) (us : List Value) : List Value := l.take p ++ us ++ l.drop p
theorem insC_get (l : List Value) (p : Nat) (us : List Value) (hp : p ≤ l.length) (j : Nat) : (insC l p us)[j]? = if j < p then l[j]? else if j < p + us.length then us[j - p]? else l[j - us.length]? := by
  unfold insC
  rw [List.append_assoc]
  by_cases h1 : j < p
  · rw [if_pos h1, List.getElem?_append_left (by rw [List.length_take]; omega), List.getElem?_take, if_pos h1]
  · rw [if_neg h1, List.getElem?_append_right (by rw [List.length_take]; omega), List.length_take, Nat.min_eq_left hp]
    by_cases h2 : j < p + us.length
    · rw [if_pos h2, List.getElem?_append_left (by omega)]
    · rw [if_neg h2, List.getElem?_append_right (by omega), List.getElem?_drop]
      congr 1; omega
theorem insC_len (l : List Value) (p : Nat) (us : List Value) (hp : p ≤ l.length) : (insC l p us).length = l.length + us.length := by
  unfold insC; rw [List.length_append, List.length_append, List.length_take, List.length_drop]; omega
theorem ins_row (cur : Array Value) (l us : List Value) (N p k : Nat) (hl : l.length = N) (hu : us.length = k) (hp : p ≤ N) (hs : N + k ≤ cur.size) (ht : ∀ j, j < p → cur[j]? = l[j]?) :
    (setL (setL cur (p + k) (l.drop p)) p us).toList.take (N + k) = insC l p us := by
  have hd : (l.drop p).length = N - p := by rw [List.length_drop, hl]
  apply List.ext_getElem?
  intro j
  rw [List.getElem?_take]
  by_cases hj : j < N + k
  · rw [if_pos hj, Array.getElem?_toList, setL_get _ _ _ _ (by rw [setL_size]; omega), insC_get l p us (by omega), hu]
    by_cases h3 : j < p
    · rw [if_neg (by omega), setL_get _ _ _ _ (by rw [hd]; omega), if_neg (by omega), if_pos h3]; exact ht j h3
    · by_cases h2 : j < p + k
      · rw [if_pos (by omega), if_neg h3, if_pos h2]
      · rw [if_neg (by omega), setL_get _ _ _ _ (by rw [hd]; omega), hd, if_pos (by omega), if_neg h3, if_neg h2, List.getElem?_drop]
        congr 1; omega
  · rw [if_neg hj, List.getElem?_eq_none (by rw [insC_len l p us (by omega)]; omega)]
theorem ins_row2 (cur : Array Value) (l us : List Value) (N p k : Nat) (hl : l.length = N) (hu : us.length = k) (hp : p ≤ N) (hs : N + k ≤ cur.size) (ht : ∀ j, j < p → cur[j]? = l[j]?) :
    (setL (setL cur p us) (p + k) (l.drop p)).toList.take (N + k) = insC l p us := by
  have hd : (l.drop p).length = N - p := by rw [List.length_drop, hl]
  apply List.ext_getElem?
  intro j
  rw [List.getElem?_take]
  by_cases hj : j < N + k
  · rw [if_pos hj, Array.getElem?_toList, setL_get _ _ _ _ (by rw [setL_size, hd]; omega), hd, insC_get l p us (by omega), hu]
    by_cases h3 : j < p
    · rw [if_neg (by omega), setL_get _ _ _ _ (by omega), if_neg (by omega), if_pos h3]; exact ht j h3
    · by_cases h2 : j < p + k
      · rw [if_neg (by omega), setL_get _ _ _ _ (by omega), if_pos (by omega), if_neg h3, if_pos h2]
      · rw [if_pos (by omega), if_neg h3, if_neg h2, List.getElem?_drop]
        congr 1; omega
  · rw [if_neg hj, List.getElem?_eq_none (by rw [insC_len l p us (by omega)]; omega)]

set_option maxHeartbeats 4000000 in
set_option maxRecDepth 100000 in
/-- In place. -/
theorem ins_shift (b n c i vb vc : Nat) (cs us : List Value) (w : World) (hi : i < n) (hroom : n + 1 ≤ c) (hc63 : c ≤ 9223372036854775807) (hvb : vb ≠ b)
    (hcl : cs.length = n * 4) (hus : us.length = 4) (hcs : ∀ j v, cs[j]? = some v → w.cell? ⟨b, j, none⟩ = some v) (hsp : ∀ j, j < (n + 1) * 4 → (w.cell? ⟨b, j, none⟩).isSome = true) (hfz : ∀ j, j < (n + 1) * 4 → w.frozen? ⟨b, j, none⟩ = false)
    (hvs : ∀ j v, us[j]? = some v → w.cell? ⟨vb, j, none⟩ = some v) (h1c : ∀ v ∈ cs, v.oneCell' = true) (h1v : ∀ v ∈ us, v.oneCell' = true)
    (tA tB : TypeId) (kA kB : Nat) (hsa : w.shape? vb = some (tA, kA)) (hsb : w.shape? b = some (tB, kB)) (hkB : kB ≠ 0) (hfa : w.frozen? ⟨vb, 0, none⟩ = false) (hfe : w.frozen? ⟨vb, kA, none⟩ = false) :
    Calls Try.prog 47 #[.slice (some ⟨b, 0, none⟩) n c, .int .i64 i, .slice (some ⟨vb, 0, none⟩) 1 vc] w fun e w' =>
      e = .returned (.slice (some ⟨b, 0, none⟩) (n + 1) c) ∧ w' = (w.drew.setCells b ((i + 1) * 4) (cs.drop (i * 4))).setCells b (i * 4) us := by
  obtain ⟨i0, hi0, h0, h1, h2⟩ : ∃ i, Try.prog.info? 31 = some i ∧ i.zero = some (.agg #[.int .i64 0, .int .i64 0, .int .i64 0, .int .i64 0]) ∧ i.size = 4 ∧ i.bytes = 32 := ⟨_, rfl, rfl, rfl, rfl⟩
  have hz2 : ¬ ((i : Int) = (n : Int)) := by omega
  have hsz : (Try.prog.info? 31).map (·.size) = some 4 := by rw [hi0]; simp [h1]
  have hso : ∀ w, (Go.sizeOf 31).run Try.prog w = .ok 4 w := fun w => by simp [Go.sizeOf, typeInfo, hi0, h1]
  have hov : ∀ lb cb, (callFunc 58 #[.slice (some ⟨vb, 0, none⟩) 1 vc, .slice (some ⟨b, (i + 1) * 4, none⟩) lb cb]).run Try.prog w = .ok (.value (.bool false)) w := fun lb cb => by
    rw [run_callFunc_extern Try.func58 (by kernel_rfl) (by kernel_rfl) (by kernel_rfl) (e := Extern.SlicesOverlaps.overlaps #[26, 26] #[4]) (by kernel_rfl),
      Lib.run_overlaps_apart w 26 4 31 Try.underlying26 4 hso ⟨vb, 0, none⟩ ⟨b, (i + 1) * 4, none⟩ 1 vc lb cb hvb tA tB kA kB hsa hsb hkB hfa hfe]
    rfl
  have hdl : (cs.drop (i * 4)).length = (n - i) * 4 := by rw [List.length_drop, hcl]; omega
  have hw1 : IntKind.i64.wrap ((i : Int) + 1) = (i : Int) + 1 := by rw [IntKind.wrap_i64]; omega
  have hb1 : (0 : Int) ≤ (i : Int) + 1 := by omega
  have hin : i ≤ n := by omega
  have htn : ((i : Int) + 1).toNat = i + 1 := by omega
  have hb2 : ¬ (c = i + 1) := by omega
  have hb3 : (i : Int) ≤ (n : Int) + 1 := by omega
  have hb4 : ¬ (c = i) := by omega
  have hm1 : Nat.min (n + 1 - i) (n - i) = n - i := by simp only [Nat.min_def]; split <;> omega
  have hcp1 : ∀ ty dc sc, (Builtin.copy_ #[26, 26] ty #[.slice (some ⟨b, (i + 1) * 4, none⟩) (n - i) dc, .slice (some ⟨b, i * 4, none⟩) (n + 1 - i) sc]).run Try.prog w.drew = .ok (goInt (Nat.min (n + 1 - i) (n - i))) (w.drew.setCells b ((i + 1) * 4) (cs.drop (i * 4))) := fun ty dc sc =>
    run_copy_k 4 w.drew _ _ ty 31 b ((i + 1) * 4) (n - i) dc ⟨b, i * 4, none⟩ (n + 1 - i) sc (cs.drop (i * 4)) Try.underlying26 hsz (by rw [hdl, hm1])
      (fun j v hj => by rw [add_plain]; exact hcs (i * 4 + j) v (by rwa [List.getElem?_drop] at hj))
      (fun j hj => hsp _ (by omega)) (fun j hj => hfz _ (by omega)) (fun v hv => h1c v (List.mem_of_mem_drop hv))
  obtain ⟨W1, hW1⟩ : ∃ W1, W1 = w.drew.setCells b ((i + 1) * 4) (cs.drop (i * 4)) := ⟨_, rfl⟩
  have hsp1 : ∀ k, k < (n + 1) * 4 → (W1.cell? ⟨b, k, none⟩).isSome = true := fun k hk => by
    rw [hW1]
    exact isSome_setCells b (cs.drop (i * 4)) ((i + 1) * 4) w.drew (fun j hj => hsp _ (by rw [hdl] at hj; omega)) k (hsp k hk)
  have hm2 : Nat.min 1 (n + 1 - i) = 1 := by simp only [Nat.min_def]; split <;> omega
  have hcp2 : ∀ (W : World), (∀ x, W.cell? x = W1.cell? x) → (∀ x, W.frozen? x = W1.frozen? x) → ∀ ty dc, (Builtin.copy_ #[26, 26] ty #[.slice (some ⟨b, i * 4, none⟩) (n + 1 - i) dc, .slice (some ⟨vb, 0, none⟩) 1 vc]).run Try.prog W = .ok (goInt (Nat.min 1 (n + 1 - i))) (W.setCells b (i * 4) us) := fun W hWc hWf ty dc =>
    run_copy_k 4 W _ _ ty 31 b (i * 4) (n + 1 - i) dc ⟨vb, 0, none⟩ 1 vc us Try.underlying26 hsz (by rw [hus, hm2])
      (fun j v hj => by
        rw [add_plain, hWc, hW1, World.cell?_setCells_out b _ _ _ _ (fun h _ => absurd h hvb), Nat.zero_add]
        exact hvs j v hj)
      (fun j hj => by rw [hWc]; exact hsp1 _ (by omega)) (fun j hj => by rw [hWf, hW1, World.frozen?_setCells]; exact hfz _ (by omega)) h1v
  rw [← hW1] at hcp1
  have mixed : Try.prog.follows Departure.mixedOrders = true := by kernel_rfl
  clear hi0 h0 h1 h2 hcs hsp hfz hso
  go_enter Try.func47, Try.ntmps47
  go_wp2_with (simp only [hov])
  go_region_law_o (refine step_copy_runI rfl _ _ 26 26 rfl _ _ (by simp [Act.eval, Act.put]) (by simp [Act.eval, Act.put]) (hcp1 _ _ _) ?_)
  go_wp2_with (at_builtin; refine wpList_copy_runI _ rfl _ _ 26 26 rfl _ _ rfl rfl (hcp2 _ (fun _ => rfl) (fun _ => rfl) _ _) ?_)
  go_ret
  first | exact ⟨rfl, rfl⟩ | exact ⟨rfl, by rw [hW1]⟩
end Go.Proofs.Ytcjcoigjedcieaa
