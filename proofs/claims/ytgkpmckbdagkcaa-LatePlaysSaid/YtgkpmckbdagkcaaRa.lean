/- The document's list: New, valid, at, Get, Next, Len, Ids. -/
import Derived.Test.YtgkpmckbdagkcaaPp
namespace Go.Wk
open Go.RowKit
theorem block_add (ad : Addr) (j : Nat) : (ad.add j).block = ad.block := by unfold Addr.add; split <;> rfl
theorem Reads.frB {S : Nat → Prop} {w w' : World} {A : Option Addr} {n : Nat} {xs : List Value} (h : Reads w w.heap.size 1 A n xs) (hf : Fr S w w') (hS : ∀ ad, A = some ad → ¬ S ad.block) : Reads w' w'.heap.size 1 A n xs := by
  refine ⟨h.1, fun h0 => ?_⟩
  obtain ⟨ad, hA, hb, hc⟩ := h.2 h0
  exact ⟨ad, hA, Nat.lt_of_lt_of_le hb hf.size, fun j u hu => (hf.cell (p := ad.add j) (by rw [block_add]; exact hb) (by rw [block_add]; exact hS ad hA)).trans (hc j u hu)⟩
end Go.Wk
namespace Go.Proofs.Ytgkpmckbdagkcaa
open Go.RowKit Go.Wk

abbrev VW := List (Int × Int)
def fsts (v : VW) : List Int := v.map Prod.fst
def snds (v : VW) : List Int := v.map Prod.snd
structure RefV (w : World) (p : Nat) (A A' : Option Addr) (n c c' : Nat) (v : VW) : Prop where
  blk : Blk w p 66 #[.bool true, .slice A n c, .slice A' n c']
  rl : Reads w w.heap.size 1 A n (cells .i64 (fsts v))
  rd : Reads w w.heap.size 1 A' n (cells .i64 (snds v))
  nc : n ≤ c
  nc' : n ≤ c'
  ln : v.length = n
  form : (A = none ∧ c = 0) ∨ ∃ g o, A = some ⟨g, o, none⟩
  form' : (A' = none ∧ c' = 0) ∨ ∃ g o, A' = some ⟨g, o, none⟩
  lt : ∀ ad, A = some ad → ad.block < w.heap.size ∧ ad.block ≠ p
  lt' : ∀ ad, A' = some ad → ad.block < w.heap.size ∧ ad.block ≠ p
def rdom (p : Nat) (A A' : Option Addr) : Nat → Prop := fun k => k = p ∨ (∃ ad, A = some ad ∧ ad.block = k) ∨ ∃ ad, A' = some ad ∧ ad.block = k
def RefAt (w : World) (p : Nat) (D : Nat → Prop) (v : VW) : Prop := ∃ A A' n c c', RefV w p A A' n c c' v ∧ D = rdom p A A'
theorem RefV.fr {S : Nat → Prop} {w w' : World} {p n c c' : Nat} {A A' : Option Addr} {v : VW} (h : RefV w p A A' n c c' v) (hf : Fr S w w') (hS : ∀ k, rdom p A A' k → ¬ S k) : RefV w' p A A' n c c' v :=
  ⟨h.blk.fr hf (hS p (.inl rfl)), h.rl.frB hf (fun ad e => hS _ (.inr (.inl ⟨ad, e, rfl⟩))), h.rd.frB hf (fun ad e => hS _ (.inr (.inr ⟨ad, e, rfl⟩))), h.nc, h.nc', h.ln, h.form, h.form',
    fun ad e => ⟨Nat.lt_of_lt_of_le (h.lt ad e).1 hf.size, (h.lt ad e).2⟩, fun ad e => ⟨Nat.lt_of_lt_of_le (h.lt' ad e).1 hf.size, (h.lt' ad e).2⟩⟩
theorem RefAt.fr {S : Nat → Prop} {w w' : World} {p : Nat} {D : Nat → Prop} {v : VW} (h : RefAt w p D v) (hf : Fr S w w') (hS : ∀ k, D k → ¬ S k) : RefAt w' p D v := by
  obtain ⟨A, A', n, c, c', h, rfl⟩ := h
  exact ⟨A, A', n, c, c', h.fr hf hS, rfl⟩
theorem RefAt.fr0 {w w' : World} {p : Nat} {D : Nat → Prop} {v : VW} (h : RefAt w p D v) (hf : Fr No w w') : RefAt w' p D v := h.fr hf (fun _ _ x => x)
theorem RefAt.lt {w : World} {p : Nat} {D : Nat → Prop} {v : VW} (h : RefAt w p D v) {k : Nat} (hk : D k) : k < w.heap.size := by
  obtain ⟨A, A', n, c, c', h, rfl⟩ := h
  rcases hk with rfl | ⟨ad, e, rfl⟩ | ⟨ad, e, rfl⟩
  · exact h.blk.lt
  · exact (h.lt ad e).1
  · exact (h.lt' ad e).1
theorem RefV.cells {w : World} {p n c c' : Nat} {A A' : Option Addr} {v : VW} (h : RefV w p A A' n c c' v) : w.cell? ⟨p, 0, none⟩ = some (.bool true) ∧ w.cell? ⟨p, 1, none⟩ = some (.slice A n c) ∧ w.cell? ⟨p, 2, none⟩ = some (.slice A' n c') := ⟨h.blk.cell 0, h.blk.cell 1, h.blk.cell 2⟩
theorem fsts_get {v : VW} {k : Nat} : (fsts v).getD k 0 = (v.getD k (0, 0)).1 := by
  unfold fsts
  rw [List.getD_eq_getElem?_getD, List.getD_eq_getElem?_getD, List.getElem?_map]
  cases v[k]? <;> rfl
theorem snds_get {v : VW} {k : Nat} : (snds v).getD k 0 = (v.getD k (0, 0)).2 := by
  unfold snds
  rw [List.getD_eq_getElem?_getD, List.getD_eq_getElem?_getD, List.getElem?_map]
  cases v[k]? <;> rfl

def NewRef (w : World) (v : VW) (e : Ending) (w' : World) : Prop := ∃ p D, e = .returned (.pointer (some ⟨p, 0, none⟩)) ∧ RefAt w' p D v ∧ (∀ k, D k → w.heap.size ≤ k) ∧ Fr No w w'
theorem rNew_any (w : World) : Calls Try.prog 18 #[] w fun e w' => NewRef w [] e w' := by
  go_enter Try.func18, Try.ntmps18
  go_wp2
  go_ret
  refine ⟨w.heap.size, _, rfl, ⟨none, none, 0, 0, 0, ⟨Blk.new _ _ _, ⟨rfl, fun h => by omega⟩, ⟨rfl, fun h => by omega⟩, Nat.le_refl _, Nat.le_refl _, rfl, .inl ⟨rfl, rfl⟩, .inl ⟨rfl, rfl⟩, (fun _ h => by cases h), (fun _ h => by cases h)⟩, rfl⟩, fun k hk => ?_, (Fr.refl No w).alloc _⟩
  rcases hk with rfl | ⟨_, e, _⟩ | ⟨_, e, _⟩
  · exact Nat.le_refl _
  · cases e
  · cases e
theorem rvalid_any (p : Nat) (D : Nat → Prop) (v : VW) (w : World) (h : RefAt w p D v) : Calls Try.prog 39 #[.pointer (some ⟨p, 0, none⟩)] w fun e w' => e = .returned (.bool true) ∧ w = w' := by
  obtain ⟨A, A', n, c, c', h, rfl⟩ := h
  obtain ⟨c0, c1, c2⟩ := h.cells
  clear h
  go_enter Try.func39, Try.ntmps39
  go_wp2
  go_ret
  exact ⟨rfl, rfl⟩
theorem rLen_any (p : Nat) (D : Nat → Prop) (v : VW) (w : World) (h : RefAt w p D v) : Calls Try.prog 32 #[.pointer (some ⟨p, 0, none⟩)] w fun e w' => e = .returned (.int .i64 v.length) ∧ w = w' := by
  have HV := Lib.hid (rvalid_any p D v w h)
  obtain ⟨A, A', n, c, c', h, rfl⟩ := h
  obtain ⟨c0, c1, c2⟩ := h.cells
  have hl := h.ln
  clear h
  rw [hl]
  clear hl
  go_enter Try.func32, Try.ntmps32
  go_wp2_with (go_at_call 39; refine HV.out.mono ?_; rintro e w1 ⟨rfl, rfl⟩)
  go_ret
  exact ⟨rfl, rfl⟩
def rnextV (v : VW) : Int := if v = [] then 0 else (v.getD 0 (0, 0)).2
theorem rNext_any (p : Nat) (D : Nat → Prop) (v : VW) (w : World) (h : RefAt w p D v) : Calls Try.prog 28 #[.pointer (some ⟨p, 0, none⟩)] w fun e w' => e = .returned (.tuple #[.int .i64 (rnextV v), .bool (!v.isEmpty)]) ∧ w = w' := by
  have HV := Lib.hid (rvalid_any p D v w h)
  obtain ⟨A, A', n, c, c', h, rfl⟩ := h
  obtain ⟨c0, c1, c2⟩ := h.cells
  by_cases hn : v = []
  · have e1 : rnextV v = 0 := by unfold rnextV; rw [if_pos hn]
    have e2 : (!v.isEmpty) = false := by rw [hn]; rfl
    have e3 : n = 0 := by rw [← h.ln, hn]; rfl
    rw [e1, e2]
    subst e3
    clear h hn e1 e2
    go_enter Try.func28, Try.ntmps28
    go_wp2_with (go_at_call 39; refine HV.out.mono ?_; rintro e w1 ⟨rfl, rfl⟩)
    go_ret2
    exact ⟨rfl, rfl⟩
  · have hl := List.length_pos_iff.2 hn
    have e1 : rnextV v = (v.getD 0 (0, 0)).2 := by unfold rnextV; rw [if_neg hn]
    have e2 : (!v.isEmpty) = true := by
      cases v with
      | nil => exact absurd rfl hn
      | cons => rfl
    have h0 : 0 < n := by rw [← h.ln]; exact hl
    obtain ⟨g, off, rfl, _, a0⟩ := h.rd.int_at (kd := .i64) (xs := snds v) h0
    rw [snds_get] at a0
    rw [e1, e2]
    have hb : ((n : Int) == 0) = false := by simp; omega
    simp only [Nat.add_zero] at a0
    clear h hn e1 e2 hl
    generalize (v.getD 0 (0, 0)).2 = d at *
    go_enter Try.func28, Try.ntmps28
    go_wp2_with (go_at_call 39; refine HV.out.mono ?_; rintro e w1 ⟨rfl, rfl⟩)
    go_ret2
    exact ⟨rfl, rfl⟩
/-- The place of an id; -1: it is not there. -/
def atI (v : VW) (x : Int) : Int := match v.findIdx? (fun p => p.1 == x) with | some i => (i : Int) | none => -1
theorem atI_at {v : VW} {x : Int} {k : Nat} (hk : k < v.length) (h1 : (v.getD k (0, 0)).1 = x) (h2 : ∀ j, j < k → (v.getD j (0, 0)).1 ≠ x) : atI v x = k := by
  unfold atI
  have : v.findIdx? (fun p => p.1 == x) = some k := by
    rw [List.findIdx?_eq_some_iff_getElem]
    refine ⟨hk, ?_, fun j hj => ?_⟩
    · have e : v.getD k (0, 0) = v[k] := by simp [hk]
      rw [e] at h1; simpa using h1
    · have e : v.getD j (0, 0) = v[j]'(by omega) := by simp [show j < v.length by omega]
      have := h2 j hj
      rw [e] at this; simpa using this
  rw [this]
theorem atI_none {v : VW} {x : Int} (h2 : ∀ j, j < v.length → (v.getD j (0, 0)).1 ≠ x) : atI v x = -1 := by
  unfold atI
  have : v.findIdx? (fun p => p.1 == x) = none := by
    rw [List.findIdx?_eq_none_iff]
    intro p hp
    obtain ⟨j, hj, rfl⟩ := List.mem_iff_getElem.1 hp
    have := h2 j hj
    have e : v.getD j (0, 0) = v[j] := by simp [hj]
    rw [e] at this; simpa using this
  rw [this]
set_option maxRecDepth 100000 in
set_option maxHeartbeats 4000000 in
theorem rat_any (p : Nat) (D : Nat → Prop) (v : VW) (x : Int) (w : World) (h : RefAt w p D v) (hm : v.length ≤ 100000) : Calls Try.prog 40 #[.pointer (some ⟨p, 0, none⟩), .int .i64 x] w fun e w' => e = .returned (.int .i64 (atI v x)) ∧ Fr No w w' := by
  have HV := Lib.hid (fun X (hX : Fr No w X) => rvalid_any p D v X (h.fr0 hX))
  obtain ⟨A, A', n, c, c', h, rfl⟩ := h
  have HH := Lib.hid h
  have HL := Lib.hid h.ln
  rw [h.ln] at hm
  have HA := Lib.hid (fun k => atI_at (v := v) (x := x) (k := k))
  have HN := Lib.hid (atI_none (v := v) (x := x))
  clear h
  generalize atI v x = r at *
  go_enter Try.func40, Try.ntmps40
  go_wp2
  go_loopw [5] (fun i wr => ∃ k : Nat, i = .int .i64 k ∧ k ≤ n ∧ Hid (Fr No w wr) ∧ Hid (∀ j, j < k → (v.getD j (0, 0)).1 ≠ x)) (fun i _ => n - (intOf i).toNat)
  case atStart => exact ⟨0, rfl, Nat.zero_le _, Lib.hid (Fr.refl _ _), Lib.hid (fun j hj => by omega)⟩
  case round =>
    obtain ⟨k, rfl, hk, HF, HK⟩ := hrel
    obtain ⟨c0, c1, c2⟩ := (HH.out.fr HF.out (fun _ _ x => x)).cells
    by_cases hlt : k < n
    · obtain ⟨g, off, rfl, _, a0⟩ := (HH.out.fr HF.out (fun _ _ x => x)).rl.int_at (kd := .i64) (xs := fsts v) hlt
      rw [fsts_get] at a0
      by_cases hx : (v.getD k (0, 0)).1 = x
      · have e := HA.out k (by rw [HL.out]; exact hlt) hx HK.out
        subst e
        rw [hx] at a0
        clear hx
        go_wp2_with (go_at_call 39; refine (HV.out _ HF.out).mono ?_; rintro e w1 ⟨rfl, rfl⟩)
        go_ret
        exact ⟨rfl, HF.out⟩
      · have HK2 := Lib.hid (show ∀ j, j < k + 1 → (v.getD j (0, 0)).1 ≠ x from fun j hj => by
          by_cases e : j = k
          · rw [e]; exact hx
          · exact HK.out j (by omega))
        generalize (v.getD k (0, 0)).1 = y at *
        have hb : (y == x) = false := by simpa using hx
        clear hx
        go_wp2_with (go_at_call 39; refine (HV.out _ HF.out).mono ?_; rintro e w1 ⟨rfl, rfl⟩)
        go_roundw
        case rel => exact ⟨k + 1, by go_num, by omega, HF, HK2⟩
        case measure => simp [intOf]; omega
    · have e := HN.out (fun j hj => HK.out j (by rw [HL.out] at hj; omega))
      subst e
      go_wp2_with (go_at_call 39; refine (HV.out _ HF.out).mono ?_; rintro e w1 ⟨rfl, rfl⟩)
      go_ret
      exact ⟨rfl, HF.out⟩
theorem atI_look (v : VW) (x : Int) : (atI v x = -1 ∧ lookV v x = none) ∨ ∃ k, k < v.length ∧ atI v x = (k : Int) ∧ (v.getD k (0, 0)).1 = x ∧ lookV v x = some (v.getD k (0, 0)).2 := by
  unfold atI lookV
  induction v with
  | nil => exact .inl ⟨rfl, rfl⟩
  | cons a v ih =>
    by_cases h : a.1 = x
    · refine .inr ⟨0, Nat.succ_pos _, ?_, h, ?_⟩
      · rw [List.findIdx?_cons, if_pos (by simpa using h)]
      · rw [List.find?_cons_of_pos (by simpa using h)]; rfl
    · rw [List.findIdx?_cons, if_neg (by simpa using h), List.find?_cons_of_neg (by simpa using h)]
      rcases ih with ⟨h1, h2⟩ | ⟨k, hk, h1, h2, h3⟩
      · refine .inl ⟨?_, h2⟩
        cases hq : v.findIdx? (fun p => p.1 == x) with
        | none => rfl
        | some i => rw [hq] at h1; simp at h1
      · refine .inr ⟨k + 1, by simp; omega, ?_, by simpa using h2, by simpa using h3⟩
        cases hq : v.findIdx? (fun p => p.1 == x) with
        | none => rw [hq] at h1; simp at h1
        | some i => rw [hq] at h1; simp at h1 ⊢; omega
theorem rGet_any (p : Nat) (D : Nat → Prop) (v : VW) (x : Int) (w : World) (h : RefAt w p D v) (hm : v.length ≤ 100000) : Calls Try.prog 30 #[.pointer (some ⟨p, 0, none⟩), .int .i64 x] w fun e w' => e = .returned (.tuple #[.int .i64 ((lookV v x).getD 0), .bool (lookV v x).isSome]) ∧ Fr No w w' := by
  have HT := Lib.hid (rat_any p D v x w h hm)
  obtain ⟨A, A', n, c, c', h, rfl⟩ := h
  have HH := Lib.hid h
  have HL := Lib.hid h.ln
  rw [h.ln] at hm
  clear h
  rcases atI_look v x with ⟨e1, e2⟩ | ⟨k, hk, e1, e2, e3⟩
  · rw [e1] at HT
    rw [e2]
    simp only [Option.getD_none, Option.isSome_none]
    clear e1 e2
    go_enter Try.func30, Try.ntmps30
    go_wp2_with (go_at_call 40; refine HT.out.mono ?_; rintro e w1 ⟨rfl, hf⟩)
    go_ret2
    exact ⟨rfl, hf⟩
  · rw [e1] at HT
    rw [e3]
    simp only [Option.getD_some, Option.isSome_some]
    obtain ⟨d, hd⟩ : ∃ d, d = (v.getD k (0, 0)).2 := ⟨_, rfl⟩
    rw [← hd]
    have HD := Lib.hid hd
    clear hd
    have hlt : k < n := by rw [← HL.out]; exact hk
    clear e1 e2 e3 hk
    go_enter Try.func30, Try.ntmps30
    go_wp2_with fail
    refine HT.out.mono ?_
    rintro e w1 ⟨rfl, hf⟩
    obtain ⟨c0, c1, c2⟩ := (HH.out.fr hf (fun _ _ x => x)).cells
    obtain ⟨g, off, rfl, _, a0⟩ := (HH.out.fr hf (fun _ _ x => x)).rd.int_at (kd := .i64) (xs := snds v) hlt
    rw [snds_get, ← HD.out] at a0
    have HF := Lib.hid hf
    clear hf
    go_wp2
    go_ret2
    exact ⟨rfl, HF.out⟩
end Go.Proofs.Ytgkpmckbdagkcaa
