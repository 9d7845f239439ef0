/- m[a], m[b] = x, y on a map of the call's own, at two keys that are there. No program stands here. -/
import Derived.Test.YtbndmelkdamgjaaMp
import Derived.WideKeyEntry
namespace Go.Wk
open Go.ChangeShapes Go.WideShapes Go.MapKept Go.ChangeMaps Go.Maps
open Go.WideElems (Fit rd rg pl rd_key rd_val findIdx_born findIdx_arr set_self)
section
variable {H : Type} {P : Program} {w : World} {t k e : TypeId} {R : Value → Option (DataW H × List MemPlace)} {b j : Nat} {es : Array MapEntry} {clock : Nat} {e0 : MapEntry} {key : Value} {kl : Lit}

def upd (es : Array MapEntry) (j : Nat) (val : Value) : Array MapEntry := es.modify j (fun e => { e with val := val })
theorem upd_get (es : Array MapEntry) (j i : Nat) (val : Value) (h : i ≠ j) : (upd es j val)[i]? = es[i]? := by
  unfold upd
  rw [Array.getElem?_modify, if_neg (Ne.symm h)]
theorem upd_comm (es : Array MapEntry) {j i : Nat} (u v : Value) (h : i ≠ j) : upd (upd es j u) i v = upd (upd es i v) j u := by
  apply Array.ext_getElem?
  intro q
  unfold upd
  rw [Array.getElem?_modify, Array.getElem?_modify, Array.getElem?_modify, Array.getElem?_modify]
  by_cases e1 : j = q <;> by_cases e2 : i = q
  · omega
  · simp only [if_pos e1, if_neg e2]
  · simp only [if_neg e1, if_pos e2]
  · simp only [if_neg e1, if_neg e2]
theorem upd_born (es : Array MapEntry) (j : Nat) (val : Value) : (upd es j val).toList.map (·.born) = es.toList.map (·.born) := by
  apply List.ext_getElem
  · simp [upd]
  · intro q h1 h2
    unfold upd
    by_cases e1 : j = q <;> simp [e1]
theorem upd_size (es : Array MapEntry) (j : Nat) (val : Value) : (upd es j val).size = es.size := by simp [upd]
theorem setBlock_self (hb : w.heap[b]? = some (.map es clock)) : setBlock w b (.map es clock) = w := by
  unfold setBlock
  have : w.heap.setIfInBounds b (.map es clock) = w.heap := by
    apply Array.ext
    · simp
    · intro i h1 h2
      rw [Array.getElem_setIfInBounds]
      split
      · rename_i e1; subst e1
        rw [Array.getElem?_eq_getElem h2] at hb
        injection hb with hb
        exact hb.symm
      · rfl
  rw [this]
theorem setBlock_two (o o' : Obj) : setBlock (setBlock w b o) b o' = setBlock w b o' := by simp [setBlock]
/-- The entry of a key that is there. -/
theorem ent_run (K : Keyed P k) (ht : P.underlying t = some (.map k e)) (hb : w.heap[b]? = some (.map es clock)) (F : Fit P k R es clock) (hkey : keyOf P k key = some kl) (hj : es[j]? = some e0) (hk : e0.key = key) :
    (Instr.mapEntry t (.map (some b)) key).run P w = .ok (.tuple #[e0.val, goInt e0.born]) w ∧
    ∀ val, (Instr.mapUpdate t (.map (some b)) key val).run P w = .ok () (setBlock w b (.map (upd es j val) clock)) := by
  have hj2 : es.toList[j]? = some e0 := by simpa using hj
  rcases K.find w hkey es.toList F.keys with ⟨_, h2⟩ | ⟨i, e1, h1, h2, h3⟩
  · exact absurd hk (h2 e0 (List.mem_of_getElem? hj2))
  · have hij : i = j := by
      have hn := F.stamped.2.2
      have a1 : (es.toList.map (·.key))[i]? = some key := by simp [List.getElem?_map, h2, h3]
      have a2 : (es.toList.map (·.key))[j]? = some key := by simp [List.getElem?_map, hj2, hk]
      have l1 : i < (es.toList.map (·.key)).length := by
        rcases Nat.lt_or_ge i (es.toList.map (·.key)).length with h | h
        · exact h
        · rw [List.getElem?_eq_none h] at a1; cases a1
      exact (List.getElem?_inj l1 hn).1 (a1.trans a2.symm)
    subst hij
    obtain rfl : e1 = e0 := by rw [hj2] at h2; injection h2 with h2; exact h2.symm
    have hsame : es.modify i (fun e => { e with key := key }) = es := by
      apply Array.ext'
      rw [Array.toList_modify, modify_eq_set _ _ _ _ hj2]
      have : ({ e1 with key := key } : MapEntry) = e1 := by rw [← hk]
      rw [this]
      exact set_self _ _ _ hj2
    have hmod : es.modify i (fun e' => { e' with key := key, val := e'.val }) = es := hsame
    refine ⟨?_, fun val => ?_⟩
    · have := setBlock_self hb
      unfold setBlock at this
      simp [Instr.mapEntry, run_underlying ht, MapKept.run_getObj_map hb, K.check w false hkey, h1, hj, hk, K.stays w hkey, hsame, MapKept.run_setObj_map _ hb, Result.andThen, this]
    · have hm2 : es.modify i (fun e' => { e' with key := key, val := val }) = upd es i val := by
        unfold upd
        apply Array.ext'
        rw [Array.toList_modify, Array.toList_modify, modify_eq_set _ _ _ _ hj2, modify_eq_set _ _ _ _ hj2, ← hk]
      simp [Instr.mapUpdate, run_underlying ht, MapKept.run_getObj_map hb, K.check w false hkey, h1, hj, hk, K.stays w hkey, hm2, MapKept.run_setObj_map _ hb, Result.andThen, setBlock]
/-- The store at the entry's stamp. -/
theorem ent_store {X : World} {es' : Array MapEntry} (hb : X.heap[b]? = some (.map es' clock)) (hn : (es.toList.map (·.born)).Nodup) (he : es'.toList.map (·.born) = es.toList.map (·.born)) (hj : es[j]? = some e0) (val : Value) :
    (Instr.entryStore t (.map (some b)) (goInt e0.born) val).run P X = .ok () (setBlock X b (.map (upd es' j val) clock)) := by
  have hj2 : es.toList[j]? = some e0 := by simpa using hj
  have a1 : (es'.toList.map (·.born))[j]? = some e0.born := by rw [he, List.getElem?_map, hj2]; rfl
  rw [List.getElem?_map] at a1
  cases hq : es'.toList[j]? with
  | none => rw [hq] at a1; cases a1
  | some e1 =>
    rw [hq] at a1
    have hb1 : e1.born = e0.born := by simpa using a1
    have hidx : es'.findIdx? (fun e => ((e.born : Nat) : Int) == ((e0.born : Nat) : Int)) = some j := by
      rw [findIdx_arr, ← hb1]
      exact findIdx_born (by rw [he]; exact hn) hq
    simp [Instr.entryStore, MapKept.run_getObj_map hb, asInt, asIntOf, goInt, hidx, upd, MapKept.run_setObj_map _ hb, Result.andThen, setBlock]
end
end Go.Wk
namespace Go.Proofs.Ytbndmelkdamgjaa
open Go.RowKit Go.Maps Go.Wk Go.ChangeShapes Go.WideShapes Go.ChangeMaps
open Go.WideElems (Fit rg)
/-- One key that is there, at the block's own array. -/
theorem there {w : World} {P : Program} {K T E : TypeId} {b : Nat} {D : DataW Unit} {es : Array MapEntry} {clock : Nat} {x i : Int}
    (hK : P.underlying K = some (.int .i64)) (hT : P.underlying T = some (.map K E)) (hz : (zeroValue E).run P w = .ok (.int .i64 0) w) (hb : w.heap[b]? = some (.map es clock)) (F : Fit P K rdI es clock)
    (hD : D = .map ((es.toList.map (rg P K rdI)).foldr DataW.insert [])) (hx : fits x) (hh : Maps.has D (.int .i64 x) = true) (ha : D.atKey (.int .i64 x) (datI 0) = datI i) :
    ∃ (j : Nat) (e0 : MapEntry), es[j]? = some e0 ∧ e0.key = .int .i64 x ∧ e0.val = .int .i64 i := by
  subst hD
  rcases Maps.fit_look true (int_keyed hK) hT hz hb F (keyOf_int_mk hK (fits_wf hx)) with ⟨_, _, h3⟩ | ⟨e0, y, h1, h2, _, h4, h5, _⟩
  · rw [has_false_of_atKey h3] at hh
    cases hh
  · obtain ⟨j, hj⟩ := List.getElem?_of_mem h1
    refine ⟨j, e0, by simpa using hj, h2, ?_⟩
    obtain ⟨q, hq, rfl⟩ := rdI_inv h4
    have h6 := h5 (datI 0)
    dsimp only at h6
    rw [ha] at h6
    rw [hq, datI_inj h6]
/-- The array with one value turned, read. -/
theorem turned {w : World} {P : Program} {K T E : TypeId} {b n j : Nat} {f : Int → Option Int} {es : Array MapEntry} {clock : Nat} {x v : Int} {e0 : MapEntry}
    (hK : P.underlying K = some (.int .i64)) (hT : P.underlying T = some (.map K E)) (hb : w.heap[b]? = some (.map es clock)) (F : Fit P K rdI es clock) (hs : es.size ≤ n) (hn : n < maxLen)
    (hd : ∀ z, fits z → Maps.has (.map ((es.toList.map (rg P K rdI)).foldr DataW.insert [])) (.int .i64 z) = (f z).isSome ∧ DataW.atKey (.map ((es.toList.map (rg P K rdI)).foldr DataW.insert [])) (.int .i64 z) (datI 0) = datI ((f z).getD 0))
    (hx : fits x) (hj : es[j]? = some e0) (hk : e0.key = .int .i64 x) :
    Fit P K rdI (upd es j (.int .i64 v)) clock ∧ ∀ z, fits z → Maps.has (.map (((upd es j (.int .i64 v)).toList.map (rg P K rdI)).foldr DataW.insert [])) (.int .i64 z) = (if z = x then some v else f z).isSome ∧ DataW.atKey (.map (((upd es j (.int .i64 v)).toList.map (rg P K rdI)).foldr DataW.insert [])) (.int .i64 z) (datI 0) = datI ((if z = x then some v else f z).getD 0) := by
  have hrun := (ent_run (w := w) (t := T) (int_keyed hK) hT hb F (keyOf_int_mk hK (fits_wf hx)) hj hk).2 (.int .i64 v)
  have hf : MapF w P K b n f := ⟨_, ⟨es, clock, hb, F, hs, rfl⟩, hd⟩
  obtain ⟨w', hrun2, ⟨D2, ⟨es2, clock2, hb2, F2, _, rfl⟩, hd2⟩, _⟩ := hf.put hK hT hn hx v
  rw [hrun] at hrun2
  injection hrun2 with _ hw
  subst hw
  rw [heap_setBlock_same hb] at hb2
  injection hb2 with hb2
  injection hb2 with h1 h2
  subst h1
  subst h2
  exact ⟨F2, hd2⟩
/-- 'm[x], m[y] = u, v' at two keys that are there: every order of the four steps. -/
theorem MapF.pair {w : World} {P : Program} {K T E : TypeId} {b n : Nat} {f : Int → Option Int} (h : MapF w P K b n f) (hn : n < maxLen) (hK : P.underlying K = some (.int .i64)) (hT : P.underlying T = some (.map K E))
    (hz : ∀ w : World, (zeroValue E).run P w = .ok (.int .i64 0) w) {x y i k : Int} (hx : fits x) (hy : fits y) (hne : x ≠ y) (h1 : f x = some i) (h2 : f y = some k) (u v : Int) :
    ∃ (s t : Value) (W1 W2 WF : World), (∀ X, X = w ∨ X = W2 → ∃ q, q = i ∧ (Instr.mapEntry T (.map (some b)) (.int .i64 x)).run P X = .ok (.tuple #[.int .i64 q, s]) X) ∧
      (∀ X, X = w ∨ X = W1 → ∃ q, q = k ∧ (Instr.mapEntry T (.map (some b)) (.int .i64 y)).run P X = .ok (.tuple #[.int .i64 q, t]) X) ∧
      (Instr.entryStore T (.map (some b)) s (.int .i64 u)).run P w = .ok () W1 ∧ (Instr.entryStore T (.map (some b)) s (.int .i64 u)).run P W2 = .ok () WF ∧
      (Instr.entryStore T (.map (some b)) t (.int .i64 v)).run P w = .ok () W2 ∧ (Instr.entryStore T (.map (some b)) t (.int .i64 v)).run P W1 = .ok () WF ∧
      MapF WF P K b n (fun z => if z = y then some v else if z = x then some u else f z) ∧ Fr (· = b) w W1 ∧ Fr (· = b) w W2 ∧ Fr (· = b) w WF := by
  obtain ⟨D, ⟨es, clock, hb, F, hs, rfl⟩, hd⟩ := h
  obtain ⟨j1, e1, hj1, hk1, hv1⟩ := there hK hT (hz w) hb F rfl hx (by rw [(hd x hx).1, h1]; rfl) (i := i) (by rw [(hd x hx).2, h1]; rfl)
  obtain ⟨j2, e2, hj2, hk2, hv2⟩ := there hK hT (hz w) hb F rfl hy (by rw [(hd y hy).1, h2]; rfl) (i := k) (by rw [(hd y hy).2, h2]; rfl)
  have hjj : j1 ≠ j2 := by
    rintro rfl
    rw [hj1] at hj2
    injection hj2 with hj2
    rw [hj2, hk2] at hk1
    injection hk1 with _ hk1
    exact hne hk1.symm
  obtain ⟨F1, hd1⟩ := turned (v := u) hK hT hb F hs hn hd hx hj1 hk1
  obtain ⟨F2, hd2⟩ := turned (v := v) hK hT hb F hs hn hd hy hj2 hk2
  have hbW := fun (o : Obj) => heap_setBlock_same hb o
  have hj21 : (upd es j1 (.int .i64 u))[j2]? = some e2 := (upd_get es j1 j2 _ (Ne.symm hjj)).trans hj2
  have hj12 : (upd es j2 (.int .i64 v))[j1]? = some e1 := (upd_get es j2 j1 _ hjj).trans hj1
  have hfy : (fun z => if z = x then some u else f z) y = some k := by dsimp only; rw [if_neg (Ne.symm hne)]; exact h2
  obtain ⟨FF, hdF⟩ := turned (w := setBlock w b (.map (upd es j1 (.int .i64 u)) clock)) (f := fun z => if z = x then some u else f z) (v := v) hK hT (hbW _) F1 (by rw [upd_size]; exact hs) hn hd1 hy hj21 hk2
  have hnb := F.stamped.2.1
  have frb : ∀ es', Fr (· = b) w (setBlock w b (.map es' clock)) := fun es' => by
    have hg : w.grownBy (setBlock w b (.map es' clock)) (some b) := ⟨rfl, rfl, rfl, by simp [setBlock], fun i _ hi => heap_setBlock_other hb _ (fun e => hi (by rw [e]))⟩
    exact Fr.of_grown hg (fun k hk => by cases hk; rfl)
  refine ⟨goInt e1.born, goInt e2.born, setBlock w b (.map (upd es j1 (.int .i64 u)) clock), setBlock w b (.map (upd es j2 (.int .i64 v)) clock), setBlock w b (.map (upd (upd es j1 (.int .i64 u)) j2 (.int .i64 v)) clock), ?_, ?_, ?_, ?_, ?_, ?_, ?_, frb _, frb _, frb _⟩
  · rintro X (rfl | rfl)
    · exact ⟨i, rfl, by rw [← hv1]; exact (ent_run (int_keyed hK) hT hb F (keyOf_int_mk hK (fits_wf hx)) hj1 hk1).1⟩
    · exact ⟨i, rfl, by rw [← hv1]; exact (ent_run (int_keyed hK) hT (hbW _) F2 (keyOf_int_mk hK (fits_wf hx)) hj12 hk1).1⟩
  · rintro X (rfl | rfl)
    · exact ⟨k, rfl, by rw [← hv2]; exact (ent_run (int_keyed hK) hT hb F (keyOf_int_mk hK (fits_wf hy)) hj2 hk2).1⟩
    · exact ⟨k, rfl, by rw [← hv2]; exact (ent_run (int_keyed hK) hT (hbW _) F1 (keyOf_int_mk hK (fits_wf hy)) hj21 hk2).1⟩
  · exact ent_store hb hnb rfl hj1 _
  · have := ent_store (t := T) (P := P) (hbW (.map (upd es j2 (.int .i64 v)) clock)) hnb (upd_born _ _ _) hj1 (.int .i64 u)
    rw [setBlock_two, upd_comm es _ _ hjj] at this
    exact this
  · exact ent_store hb hnb rfl hj2 _
  · have := ent_store (t := T) (P := P) (hbW (.map (upd es j1 (.int .i64 u)) clock)) hnb (upd_born _ _ _) hj2 (.int .i64 v)
    rw [setBlock_two] at this
    exact this
  · exact ⟨_, ⟨_, clock, hbW _, FF, by rw [upd_size, upd_size]; exact hs, rfl⟩, hdF⟩
end Go.Proofs.Ytbndmelkdamgjaa
