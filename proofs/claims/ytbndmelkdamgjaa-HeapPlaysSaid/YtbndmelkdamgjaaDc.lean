/- The document's heap: without; New, Len, Has, Top. -/
import Derived.Test.YtbndmelkdamgjaaDb
namespace Go.Proofs.Ytbndmelkdamgjaa.It
open Go.RowKit Go.Wk

theorem Rel.fst {a : En IV} {t L : List (En IV)} (h : Rel (a :: t) L) : ∃ k, Fst L k ∧ L.getD k default = a := by
  obtain ⟨ha, _⟩ := List.pairwise_cons.1 h.so
  obtain ⟨k, hk, hka⟩ := mem_at.1 ((h.me a).1 (List.mem_cons_self ..))
  refine ⟨k, ⟨hk, fun j hj hne => ?_⟩, hka⟩
  have hm : L.getD j default ∈ a :: t := (h.me _).2 (at_mem hj)
  rcases List.mem_cons.1 hm with e | e
  · exfalso
    have hg : ∀ i (hi : i < L.length), L.getD i default = L[i] := fun i hi => by simp [hi]
    rw [← hka, hg j hj, hg k hk] at e
    rcases Nat.lt_or_ge j k with h1 | h1
    · have := List.pairwise_iff_getElem.1 h.up j k hj hk h1
      rw [e] at this; omega
    · have := List.pairwise_iff_getElem.1 h.up k j hk hj (by omega)
      rw [e] at this; omega
  · rw [hka]; exact ha _ e
theorem Fst.same {L : List (En IV)} {k j : Nat} (h : Fst L k) (h' : Fst L j) : k = j := by
  by_cases e : j = k
  · exact e.symm
  · have h1 := h.2 j h'.1 e
    have h2 := h'.2 k h.1 (Ne.symm e)
    rw [fst_asym weak_I h1] at h2; cases h2
theorem dfirst_at {A : Option Addr} {n c : Nat} {L : List (En IV)} {w : World} (h : Reads w w.heap.size 5 A n (dcells L)) (hu : L.Pairwise (fun a b => a.p < b.p)) (hn : n ≤ 1000000000) {k : Nat} (hk : Fst L k) :
    Calls Try.prog 62 #[.slice A n c] w fun e w' => e = .returned (.int .i64 k) ∧ Fr No w w' := by
  have hl : L.length = n := by have := h.1; rw [dcells_len] at this; omega
  refine (dfirst_any A n c L w h hu hn (by have := hk.1; omega)).mono ?_
  rintro e w' ⟨⟨j, rfl, hj⟩, hf⟩
  rw [hj.same hk]
  exact ⟨rfl, hf⟩
theorem reads_take {w : World} {B n k : Nat} {A : Option Addr} {L : List (En IV)} (h : Reads w B 5 A n (dcells L)) (hk : k ≤ n) : Reads w B 5 A k (dcells (L.take k)) := by
  have hl : L.length = n := by have := h.1; rw [dcells_len] at this; omega
  refine ⟨by rw [dcells_len, List.length_take]; omega, fun h0 => ?_⟩
  obtain ⟨ad, hA, hb, hc⟩ := h.2 (by omega)
  refine ⟨ad, hA, hb, fun j u hu => hc j u ?_⟩
  rw [← dcells_take, List.getElem?_take] at hu
  split at hu
  · exact hu
  · cases hu
theorem drop_runD (A : Option Addr) (n c j : Nat) (hj : j ≤ n) (hc : n ≤ c) (_hm : n ≤ 1000000000) : ∃ A', (∀ W, (Instr.slice 80 (.slice A n c) (some (.int .i64 j)) none none).run Try.prog W = .ok (.slice A' (n - j) (c - j)) W) ∧
    ∀ (w : World) (B : Nat) (l : List (En IV)), Reads w B 5 A n (dcells l) → Reads w B 5 A' (n - j) (dcells (l.drop j)) := by
  have h1 : (j : Int) ≤ (n : Int) := by omega
  rcases A with _ | ⟨g, off, spot⟩
  · refine ⟨none, fun W => ?_, fun w B l hr => ?_⟩
    · by_cases h : c = j
      · subst h
        go_simp
      · go_simp
    · have := hr.cut hj hc
      rw [dcells_drop] at this
      split at this <;> exact this
  · by_cases h : c = j
    · refine ⟨some ⟨g, off, spot⟩, fun W => ?_, fun w B l hr => ?_⟩
      · subst h
        go_simp
      · have := hr.cut hj hc
        rw [if_pos h, dcells_drop] at this
        exact this
    · refine ⟨some ((⟨g, off, spot⟩ : Addr).add (j * 5)), fun W => ?_, fun w B l hr => ?_⟩
      · go_simp
      · have := hr.cut hj hc
        rw [if_neg h, dcells_drop, Option.map_some] at this
        exact this
theorem take_runD (A : Option Addr) (n c j : Nat) (hj : j ≤ n) (hc : n ≤ c) : ∀ W, (Instr.slice 80 (.slice A n c) none (some (.int .i64 j)) none).run Try.prog W = .ok (.slice A j c) W := by
  have h1 : (j : Int) ≤ (c : Int) := by omega
  intro W
  go_simp
/-- What without leaves. -/
def WoR (w : World) (L : List (En IV)) (e : Ending) (w' : World) : Prop := ∃ A n c, e = .returned (.slice A n c) ∧ n = L.length ∧ w'.ownsRow w.heap.size 86 5 (.slice A n c) n (dcells L) ∧ Fr No w w'
set_option maxRecDepth 100000 in
set_option maxHeartbeats 4000000 in
theorem without_any (A : Option Addr) (n c k : Nat) (L : List (En IV)) (w : World) (h : Reads w w.heap.size 5 A n (dcells L)) (hc : n ≤ c) (hn : n ≤ 1000000000) (hk : k < n) :
    Calls Try.prog 65 #[.slice A n c, .int .i64 k] w fun e w' => WoR w (L.eraseIdx k) e w' := by
  obtain ⟨i0, hi, hz0, hz1, hz2⟩ : ∃ i, Try.prog.info? 86 = some i ∧ i.zero = some (.agg #[.int .i64 0, .int .i64 0, .int .i64 0, .int .i64 0, .int .i64 0]) ∧ i.size = 5 ∧ i.bytes = 40 := ⟨_, rfl, rfl, rfl, rfl⟩
  have hl : L.length = n := by have := h.1; rw [dcells_len] at this; omega
  have hE : L.eraseIdx k = L.take k ++ L.drop (k + 1) := List.eraseIdx_eq_take_drop_succ L k
  have HE := Lib.hid hE
  obtain ⟨A2, hdrop, hrd⟩ := drop_runD A n c (k + 1) (by omega) hc hn
  have htake := take_runD A n c k (by omega) hc
  rw [show ((k + 1 : Nat) : Int) = (k : Int) + 1 by omega] at hdrop
  have R1 := Lib.hid (reads_take h (k := k) (by omega))
  have HRD := Lib.hid hrd
  have HR := Lib.hid h
  have HL := Lib.hid hl
  have O0 := Lib.hid (own_nil w w.heap.size 5 86)
  have HB0 := Lib.hid (show 0 + k ≤ maxLen by unfold maxLen; omega)
  have HB1 := Lib.hid (show (0 + k) * 40 ≤ 140737488355328 by omega)
  have HC0 := Lib.hid (show k + (n - (k + 1)) ≤ maxLen by unfold maxLen; omega)
  have HC1 := Lib.hid (show (k + (n - (k + 1))) * 40 ≤ 140737488355328 by omega)
  clear h hl hE hrd
  go_enter Try.func65, Try.ntmps65
  go_wp2_with (at_builtin; refine wpList_append_any w rfl (.tmp 6) (.tmp 9) 80 rfl w.heap.size 86 i0 (.agg #[.int .i64 0, .int .i64 0, .int .i64 0, .int .i64 0, .int .i64 0]) 5 40 Try.underlying80 hi hz0 hz1 hz2 rfl (by omega) (.slice none 0 0) 0 [] rfl O0.out w.heap.size A k c (dcells (L.take k)) rfl R1.out (dcells_one _) HB0.out HB1.out (Nat.le_refl _) ?_)
  intro v' w2 hown2 hg2 _
  obtain ⟨A3, q3, rfl⟩ := own_form' hown2
  have F2 := Lib.hid (show Fr No w w2 from Fr.of_grown (S := No) hg2 (fun q hq => by simp [Value.ownBlock] at hq))
  have O2 := Lib.hid hown2
  have R2 := Lib.hid (HRD.out w2 w2.heap.size L (HR.out.fr0 F2.out))
  have hs2 := F2.out.size
  clear hown2 hg2 htake
  go_wp2_with (at_builtin; refine wpList_append_any w2 rfl (.tmp 11) (.tmp 15) 80 rfl w.heap.size 86 i0 (.agg #[.int .i64 0, .int .i64 0, .int .i64 0, .int .i64 0, .int .i64 0]) 5 40 Try.underlying80 hi hz0 hz1 hz2 rfl (by omega) (.slice A3 k q3) k _ rfl O2.out w2.heap.size A2 (n - (k + 1)) (c - (k + 1)) (dcells (L.drop (k + 1))) rfl R2.out (dcells_one _) HC0.out HC1.out hs2 ?_)
  intro v'' w3 hown3 hg3 _
  obtain ⟨A4, q4, rfl⟩ := own_form' hown3
  have F3 := Lib.hid (F2.out.ownS (Fr.of_grown (S := fun q => (Value.slice A3 k q3).ownBlock = some q) hg3 (fun q hq => hq)) (fun q hq => (O2.out.lt q hq).1))
  have O3 := Lib.hid hown3
  clear hown3 hg3 hdrop
  go_wp2
  go_ret
  refine ⟨A4, _, q4, rfl, ?_, ?_, F3.out⟩
  · rw [HE.out, List.length_append, List.length_take, List.length_drop]; have := HL.out; omega
  · have := O3.out
    rw [← dcells_app, ← HE.out] at this
    exact this
theorem dNew_any (w : World) : Calls Try.prog 14 #[] w fun e w' => e = .returned (.pointer (some ⟨w.heap.size, 0, none⟩)) ∧ DV w' w.heap.size (.slice none 0 0) [] ∧ Fr No w w' := by
  go_enter Try.func14, Try.ntmps14
  go_wp2
  go_ret
  exact ⟨rfl, ⟨Blk.new _ _ _, own_nil _ _ _ _⟩, (Fr.refl No w).alloc _⟩
theorem dLen_any (r : Nat) (v : Value) (L : List (En IV)) (w : World) (h : DV w r v L) : Calls Try.prog 19 #[.pointer (some ⟨r, 0, none⟩)] w fun e w' => e = .returned (.int .i64 L.length) ∧ w = w' := by
  obtain ⟨c0, c1⟩ := h.cells
  obtain ⟨A, c, rfl⟩ := own_form' h.own
  have HV := Lib.hid (dvalid_any r w c0)
  clear h
  go_enter Try.func19, Try.ntmps19
  go_wp2_with fail
  refine HV.out.mono ?_
  rintro e w0 ⟨rfl, rfl⟩
  go_wp2
  go_ret
  exact ⟨rfl, rfl⟩
theorem dHas_any (r : Nat) (v : Value) (L : List (En IV)) (x : Int) (w : World) (h : DV w r v L) (hn : L.length ≤ 1000000000) : Calls Try.prog 21 #[.pointer (some ⟨r, 0, none⟩), .int .i64 x] w fun e w' => e = .returned (.bool (decide (x ∈ ids L))) ∧ w = w' := by
  have HV := Lib.hid (dvalid_any r w h.cells.1)
  have HA := Lib.hid (dat_any r v L x w h hn)
  obtain ⟨t, ht⟩ : ∃ t, t = decide (x ∈ ids L) := ⟨_, rfl⟩
  rw [← ht]
  have HT := Lib.hid ht
  clear h ht
  go_enter Try.func21, Try.ntmps21
  go_wp2_with fail
  refine HV.out.mono ?_
  rintro e w0 ⟨rfl, rfl⟩
  go_wp2_with fail
  refine HA.out.mono ?_
  rintro e w1 ⟨hr, rfl⟩
  rcases hr with ⟨hx, rfl⟩ | ⟨i, hi, hid, rfl⟩
  · have hd : decide (x ∈ ids L) = false := by simpa using hx
    obtain rfl : t = false := HT.out.trans hd
    clear hx hd HT
    go_wp2
    go_ret
    exact ⟨rfl, rfl⟩
  · have hd : decide (x ∈ ids L) = true := by
      have : x ∈ ids L := List.mem_map.2 ⟨_, at_mem hi, hid⟩
      simpa using this
    obtain rfl : t = true := HT.out.trans hd
    have h0 : (0 : Int) ≤ (i : Int) := by omega
    clear hid hd hi HT
    go_wp2
    go_ret
    exact ⟨rfl, rfl⟩
set_option maxRecDepth 100000 in
set_option maxHeartbeats 4000000 in
theorem dTop_any (r : Nat) (v : Value) (s L : List (En IV)) (w : World) (h : DV w r v L) (hr : Rel s L) (hn : L.length ≤ 1000000000) : Calls Try.prog 17 #[.pointer (some ⟨r, 0, none⟩)] w fun e w' => e = .returned (.tuple #[.int .i64 (topV s), .bool (topB s)]) ∧ Fr No w w' := by
  obtain ⟨c0, c1⟩ := h.cells
  obtain ⟨A, c, rfl⟩ := own_form' h.own
  have HV := Lib.hid (dvalid_any r w c0)
  have hrl := h.blk.lt
  rcases s with _ | ⟨a, t⟩
  · have hz : L.length = 0 := by have := hr.ln; simpa using this.symm
    rw [hz] at c1
    have HE := Lib.hid (show topV ([] : List (En IV)) = 0 ∧ topB ([] : List (En IV)) = false from ⟨rfl, rfl⟩)
    rw [HE.out.1, HE.out.2]
    clear h hr hz
    go_enter Try.func17, Try.ntmps17
    go_wp2_with fail
    refine HV.out.mono ?_
    rintro e w0 ⟨rfl, rfl⟩
    go_wp2
    go_ret2
    exact ⟨rfl, Fr.refl _ _⟩
  · obtain ⟨k, hk, hka⟩ := hr.fst
    have HE := Lib.hid (show topV (a :: t) = a.id ∧ topB (a :: t) = true from ⟨rfl, rfl⟩)
    rw [HE.out.1, HE.out.2]
    obtain ⟨n, hnn⟩ : ∃ n, n = L.length := ⟨_, rfl⟩
    have hkn : k < n := by rw [hnn]; exact hk.1
    have hR := Reads.of_own h.own
    rw [← hnn] at c1 hR hn
    obtain ⟨b, off, rfl, hb, x0, _⟩ := Reads.dent hR hkn
    rw [hka] at x0
    have HF := Lib.hid (fun (X : World) (hX : Fr No w X) => dfirst_at (c := c) ((hR.fr0 hX)) hr.up hn hk)
    generalize a.id = ai at *
    have hkn2 : (k : Int) < (n : Int) := by omega
    have hn0 : ((n : Int) == 0) = false := by simp; omega
    have SK := Lib.hid (fun (X : World) (hX : Fr No w X) => (show X.cell? ⟨r, 1, none⟩ = some (.slice (some ⟨b, off, none⟩) n c) ∧ X.cell? ⟨b, off + k * 5, none⟩ = some (.int .i64 ai) from ⟨(hX.cell (p := ⟨r, 1, none⟩) hrl (fun z => z)).trans c1, (hX.cell (p := ⟨b, off + k * 5, none⟩) hb (fun z => z)).trans x0⟩))
    clear h hr hk hka hnn hR HE
    go_enter Try.func17, Try.ntmps17
    go_wp2_with fail
    refine HV.out.mono ?_
    rintro e w0 ⟨rfl, rfl⟩
    go_wp2_with fail
    go_region_held3 (fun X => X.cell? ⟨r, 1, none⟩ = some (.slice (some ⟨b, off, none⟩) n c) ∧ X.cell? ⟨b, off + k * 5, none⟩ = some (.int .i64 ai))
      (first | exact ⟨c1, x0⟩ | exact SK.out _ ((Fr.refl No w).drew.then0 F1.out) | go_keep)
      ((go_at_call 62; (with_reducible refine (HF.out _ (Fr.refl No w).drew).mono ?_); rintro e W1 ⟨rfl, hf⟩; have F1 := Lib.hid hf; clear hf))
    all_goals
      have F2 := Lib.hid ((Fr.refl No w).drew.then0 F1.out)
      clear F1 c0 c1 x0
      go_wp2
      go_ret2
      exact ⟨rfl, F2.out⟩
end Go.Proofs.Ytbndmelkdamgjaa.It
