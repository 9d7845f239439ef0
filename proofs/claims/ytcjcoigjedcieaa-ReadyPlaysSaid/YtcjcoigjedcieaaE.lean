/- slices.Clone, maps.Clone; New, Items, Copy. -/
import Derived.Test.YtcjcoigjedcieaaD
import Derived.Shelf.SlMaps.Clone
namespace Go.Proofs.Ytcjcoigjedcieaa
open Go.RowKit Go.Wk

/-- What Clone leaves: a slice of the call's own with the same items. -/
def Cloned (w : World) (n : Nat) (l : List IV) (x : Ending) (w' : World) : Prop := ∃ A c, x = .returned (.slice A n c) ∧ w'.ownsRow w.heap.size 31 4 (.slice A n c) n (icells l) ∧ n ≤ c ∧ Fr No w w'

theorem clone_any (A : Option Addr) (n c : Nat) (l : List IV) (w : World) (h : Reads w w.heap.size 4 A n (icells l)) (hn : n ≤ 1000000) :
    Calls Try.prog 29 #[.slice A n c] w fun x w' => Cloned w n l x w' := by
  obtain ⟨i0, hi, hz0, hz1, hz2⟩ : ∃ i, Try.prog.info? 31 = some i ∧ i.zero = some (.agg #[.int .i64 0, .int .i64 0, .int .i64 0, .int .i64 0]) ∧ i.size = 4 ∧ i.bytes = 32 := ⟨_, rfl, rfl, rfl, rfl⟩
  rcases A with _ | ad
  · have heq := fun w => Lib.run_eql_slice_nil (P := Try.prog) w 26 31 none n c 0 0 Try.underlying26
    have hn0 : n = 0 := by
      rcases Nat.eq_zero_or_pos n with h0 | h0
      · exact h0
      · obtain ⟨ad, hA, _⟩ := h.2 h0
        cases hA
    subst hn0
    have hx : l = [] := List.eq_nil_of_length_eq_zero (reads_ilen h)
    go_enter Try.func29, Try.ntmps29
    go_wp2
    go_ret
    exact ⟨none, 0, rfl, by rw [hx]; exact own_nil _ _ _ _, Nat.le_refl _, Fr.refl _ _⟩
  · have o1 : (w.alloc (.cells #[] 31)).ownsRow w.heap.size 31 4 (.slice (some ⟨w.heap.size, 0, none⟩) 0 0) 0 [] := ⟨rfl, .inr ⟨w.heap.size, 0, #[], rfl, Nat.le_refl _, Blk.new w 31 #[], Nat.le_refl _, Nat.zero_le _, rfl, rfl⟩⟩
    have O1 := Lib.hid o1
    have R1 := Lib.hid (h.alloc (Nat.le_refl _) (.cells #[] 31))
    have HB1 := Lib.hid (show (0 + n) * 32 ≤ 140737488355328 by omega)
    have HB0 := Lib.hid (show 0 + n ≤ maxLen by unfold maxLen; omega)
    have heq := fun w => Lib.run_eql_slice_nil (P := Try.prog) w 26 31 (some ad) n c 0 0 Try.underlying26
    clear h o1
    go_enter Try.func29, Try.ntmps29
    go_wp2_with (at_builtin; refine wpList_append_any (w.alloc (.cells #[] 31)) rfl (.tmp 5) (.tmp 6) 26 rfl w.heap.size 31 i0 (.agg #[.int .i64 0, .int .i64 0, .int .i64 0, .int .i64 0]) 4 32 Try.underlying26 hi hz0 hz1 hz2 rfl (by omega) (.slice (some ⟨w.heap.size, 0, none⟩) 0 0) 0 [] rfl O1.out w.heap.size (some ad) n c (icells l) rfl R1.out (icells_one _) HB0.out HB1.out (by simp) ?_)
    intro v' w2 hown2 hg2 hloc2
    obtain ⟨A2, q2, rfl⟩ := own_form' hown2
    have F2 : Fr No w w2 := ((Fr.refl No w).alloc (.cells #[] 31)).own (Fr.of_grown (S := (· = w.heap.size)) hg2 (fun k hk => by simpa [Value.ownBlock] using hk.symm)) (Nat.le_refl _)
    have hq := own_cap hown2
    go_wp2
    go_ret
    exact ⟨A2, q2, by simp, by simpa using hown2, hq, F2⟩

set_option maxRecDepth 100000 in
set_option maxHeartbeats 2000000 in
theorem mclone_any (b n : Nat) (f : Int → Option IV) (w : World) (h : MapF w Try.prog 3 b n f) :
    Calls Try.prog 50 #[.map (some b)] w fun e w' => e = .returned (.map (some w.heap.size)) ∧ MapF w' Try.prog 3 w.heap.size n f ∧ Fr No w w' := by
  obtain ⟨D, ⟨es, clock, hb, F, hs, hD⟩, hd⟩ := h
  have hq := fun w => run_eql_map_nil_sl (P := Try.prog) w 63 3 31 (some b) Try.underlying63
  have mixed : Try.prog.follows Departure.mixedOrders = true := by kernel_rfl
  have key : Calls Try.prog 50 #[.map (some b)] w fun e w' => e = .returned (.map (some w.heap.size)) ∧ w' = w.alloc (.map es clock) := by
    clear hd hD hs F
    go_enter Try.func50, Try.ntmps50
    go_wp2
    rw [run_callFunc_extern Try.func65 (by kernel_rfl) (by kernel_rfl) (by kernel_rfl) (e := Extern.MapsClone.clone) (by kernel_rfl), run_maps_clone_sl w 63 hb]
    simp only [Result.andThen]
    rw [Oper.upon_value]
    go_wp2
    rw [run_typeAssert_map_sl _ 63 20 _ _ _ Try.underlying63]
    simp only [Result.andThen]
    rw [Oper.upon_value]
    go_wp2
    go_ret
    exact ⟨rfl, rfl⟩
  refine key.mono fun e w' ⟨he, hw⟩ => ?_
  subst hw
  exact ⟨he, ⟨D, ⟨es, clock, (MapKept.heap_alloc w _).1, F, hs, hD⟩, hd⟩, (Fr.refl No w).alloc _⟩

/-- An empty queue. -/
def QS.new (size ag : Int) : QS := ⟨[], size, ag, 0⟩
theorem QS.ok_new {size ag : Int} (h1 : 0 ≤ size ∧ size ≤ 1024) (h2 : 1 ≤ ag ∧ ag ≤ 68719476736) : (QS.new size ag).ok :=
  ⟨List.Pairwise.nil, List.Pairwise.nil, fun e he => (by cases he), fun e he => (by cases he), Int.le_refl _, (show (0 : Int) ≤ 1000000 by decide), Int.le_refl _, h1.1, h1, h2⟩
/-- A queue that is new. -/
def NewAt (w : World) (b : Nat) (D : Nat → Prop) (s : QS) (w' : World) : Prop := QAt w' b D s ∧ (∀ k, D k → w.heap.size ≤ k) ∧ Fr No w w'
def NewQ (w : World) (s : QS) (e : Ending) (w' : World) : Prop := ∃ b D, e = .returned (.pointer (some ⟨b, 0, none⟩)) ∧ NewAt w b D s w'
def NewQ2 (w : World) (s : QS) (e : Ending) (w' : World) : Prop := ∃ b D, e = .returned (.tuple #[.pointer (some ⟨b, 0, none⟩), .int .i64 0]) ∧ NewAt w b D s w'
theorem New_any (size ag : Int) (h1 : 0 ≤ size ∧ size ≤ 1024) (h2 : 1 ≤ ag ∧ ag ≤ 68719476736) (w : World) : Calls Try.prog 18 #[.int .i64 size, .int .i64 ag] w fun e w' => NewQ2 w (QS.new size ag) e w' := by
  have HOK := Lib.hid (QS.ok_new h1 h2)
  obtain ⟨a1, a2⟩ := h1
  obtain ⟨a3, a4⟩ := h2
  have b1 : decide (size < 0) = false := by simp; omega
  have b2 : decide (1024 < size) = false := by simp; omega
  have b3 : decide (ag < 1) = false := by simp; omega
  have b4 : decide (68719476736 < ag) = false := by simp; omega
  have hmm := @run_makeMap Try.prog
  clear a1 a2 a3 a4
  go_enter Try.func18, Try.ntmps18
  go_wp2
  go_ret2
  refine ⟨w.heap.size + 1, _, rfl, ⟨w.heap.size, .slice none 0 0, ⟨?_, ?_, ?_, HOK.out⟩, rfl⟩, fun k hk => ?_, ((Fr.refl No w).alloc _).alloc _⟩
  · have := Blk.new (w.alloc (.map #[] 0)) 65 #[.slice none 0 0, .map (some w.heap.size), .int .i64 size, .int .i64 ag, .int .i64 0]
    rwa [World.size_alloc] at this
  · exact own_nil _ _ _ _
  · exact (MapF.made w Try.prog 3).fr ((Fr.refl No _).alloc _) (fun x => x)
  · rcases hk with rfl | rfl | hk
    · omega
    · exact Nat.le_refl _
    · simp [Value.ownBlock] at hk
theorem New_bad (size ag : Int) (h : size < 0 ∨ 1024 < size ∨ ag < 1 ∨ 68719476736 < ag) (w : World) : Calls Try.prog 18 #[.int .i64 size, .int .i64 ag] w fun e w' => e = .returned (.tuple #[.pointer none, .int .i64 2]) ∧ w = w' := by
  by_cases h1 : size < 0
  · have b1 : decide (size < 0) = true := by simp; omega
    clear h h1
    go_enter Try.func18, Try.ntmps18
    go_wp2
    go_ret2
    exact ⟨rfl, rfl⟩
  have b1 : decide (size < 0) = false := by simp; omega
  by_cases h2 : 1024 < size
  · have b2 : decide (1024 < size) = true := by simp; omega
    clear h h1 h2
    go_enter Try.func18, Try.ntmps18
    go_wp2
    go_ret2
    exact ⟨rfl, rfl⟩
  have b2 : decide (1024 < size) = false := by simp; omega
  by_cases h3 : ag < 1
  · have b3 : decide (ag < 1) = true := by simp; omega
    clear h h1 h2 h3
    go_enter Try.func18, Try.ntmps18
    go_wp2
    go_ret2
    exact ⟨rfl, rfl⟩
  have b3 : decide (ag < 1) = false := by simp; omega
  have b4 : decide (68719476736 < ag) = true := by simp; omega
  clear h h1 h2 h3
  go_enter Try.func18, Try.ntmps18
  go_wp2
  go_ret2
  exact ⟨rfl, rfl⟩

theorem Items_any (b bm : Nat) (v : Value) (s : QS) (w : World) (h : QV w b bm v s) : Calls Try.prog 12 #[.pointer (some ⟨b, 0, none⟩)] w fun e w' => Cloned w s.l.length s.l e w' := by
  obtain ⟨c0, c1, c2, c3, c4⟩ := h.cells
  obtain ⟨A, c, rfl, _⟩ := h.form
  have HV := Lib.hid (made_any b bm _ s w h)
  have HC := Lib.hid (clone_any A s.l.length c s.l w (Reads.of_own h.own) (by have := h.ok.n; omega))
  clear h
  go_enter Try.func12, Try.ntmps12
  go_wp2_with fail
  refine HV.out.mono ?_
  rintro x w1 ⟨rfl, rfl⟩
  go_wp2_with fail
  refine HC.out.mono ?_
  rintro x w1 ⟨A', c', rfl, ho, hc, hf⟩
  go_wp2
  go_ret
  exact ⟨A', c', rfl, ho, hc, hf⟩

theorem fr_cell1 (b i : Nat) (u : Value) (w : World) : Fr (· = b) w (w.setCell ⟨b, i, none⟩ u) := (Fr.refl (fun k => k = b) w).setCell (p := ⟨b, i, none⟩) (.inr rfl) u
set_option maxRecDepth 100000 in
set_option maxHeartbeats 4000000 in
theorem Copy_any (b bm : Nat) (v : Value) (s : QS) (w : World) (h : QV w b bm v s) : Calls Try.prog 33 #[.pointer (some ⟨b, 0, none⟩)] w fun e w' => NewQ w s e w' := by
  obtain ⟨c0, c1, c2, c3, c4⟩ := h.cells
  obtain ⟨A, c, rfl, _⟩ := h.form
  have HV := Lib.hid (made_any b bm _ s w h)
  have HH := Lib.hid h
  obtain ⟨w0, hw0⟩ : ∃ w0, w0 = w.alloc (.cells #[.slice A s.l.length c, .map (some bm), .int .i64 s.size, .int .i64 s.ag, .int .i64 s.added] 65) := ⟨_, rfl⟩
  have F0 := Lib.hid (show Fr No w w0 by rw [hw0]; exact (Fr.refl No w).alloc _)
  have B0 := Lib.hid (show Blk w0 w.heap.size 65 #[.slice A s.l.length c, .map (some bm), .int .i64 s.size, .int .i64 s.ag, .int .i64 s.added] by rw [hw0]; exact Blk.new _ _ _)
  have HV0 := Lib.hid (h.fr0 F0.out)
  have HW := Lib.hid hw0
  have hbl := h.blk.lt
  have HC := Lib.hid (clone_any A s.l.length c s.l w0 (Reads.of_own HV0.out.own) (by have := h.ok.n; omega))
  obtain ⟨d0, d1, d2, d3, d4⟩ := HV0.out.cells
  clear h hw0
  go_enter Try.func33, Try.ntmps33
  go_wp2_with fail
  refine HV.out.mono ?_
  rintro x w1 ⟨rfl, rfl⟩
  go_wp2_with fail
  rw [← HW.out]
  refine HC.out.mono ?_
  rintro x w2 ⟨A', c', rfl, ho, hc, hf⟩
  have HO := Lib.hid ho
  have F2 := Lib.hid (F0.out.then0 hf)
  have B2 := Lib.hid (B0.out.fr hf (fun z => z))
  have hlt0 := B0.out.lt
  have e0 := B2.out.cell 0
  have z0 := B2.out.frozen 0
  simp only [List.getElem?_toArray, List.getElem?_cons_zero] at e0
  have FS := Lib.hid (fr_cell1 w.heap.size 0 (.slice A' s.l.length c') w2)
  have B3 := Lib.hid (B2.out.set_ 0 (.slice A' s.l.length c'))
  have O3 := Lib.hid (own_fr HO.out FS.out (fun k hk e => by have := (HO.out.lt k hk).1; omega))
  have HV3 := Lib.hid ((HV0.out.fr0 hf).fr FS.out (fun k hk e => by have := HH.out.lt hk; omega))
  obtain ⟨_, g1, _, _, _⟩ := HV3.out.cells
  have hsz3 : (w2.setCell ⟨w.heap.size, 0, none⟩ (.slice A' s.l.length c')).heap.size = w2.heap.size := by simp [World.setCell]
  have HM := Lib.hid (mclone_any bm s.added.toNat (byId s.l) _ HV3.out.mp)
  rw [hsz3] at HM
  have hs2 := Nat.le_trans F0.out.size hf.size
  have hlt2 := B2.out.lt
  have hsz0 : w0.heap.size = w.heap.size + 1 := by rw [HW.out]; simp
  clear ho hf d0 d1 d2 d3 d4
  go_wp2_with fail
  refine HM.out.mono ?_
  rintro x w4 ⟨rfl, hm, hf⟩
  have F4 := Lib.hid hf
  have M4 := Lib.hid hm
  have B4 := Lib.hid (B3.out.fr hf (fun z => z))
  have O4 := Lib.hid (own_fr O3.out hf (fun _ _ z => z))
  have e1 := B4.out.cell 1
  have z1 := B4.out.frozen 1
  simp only [List.setIfInBounds_toArray, List.set_cons_zero, List.getElem?_toArray, List.getElem?_cons_succ, List.getElem?_cons_zero] at e1
  have hs4 := hf.size
  rw [hsz3] at hs4
  have HB5 := Lib.hid (B4.out.set_ 1 (.map (some w2.heap.size)))
  have F5 := Lib.hid (fr_cell1 w.heap.size 1 (.map (some w2.heap.size)) w4)
  clear hm hf hsz3
  go_wp2_with fail
  go_ret
  refine ⟨w.heap.size, _, rfl, ⟨w2.heap.size, .slice A' s.l.length c', ⟨?_, ?_, ?_, HH.out.ok⟩, rfl⟩, fun k hk => ?_, ?_⟩
  · have := HB5.out
    simpa using this
  · exact own_fr (own_base O4.out (Nat.zero_le _)) F5.out (fun k hk e => by have := (HO.out.lt k hk).1; omega)
  · exact M4.out.fr F5.out (fun e => by omega)
  · rcases hk with rfl | rfl | hk
    · exact Nat.le_refl _
    · exact hs2
    · have := (HO.out.lt k hk).1; omega
  · exact ((F2.out.own FS.out (Nat.le_refl _)).then0 F4.out).own F5.out (Nat.le_refl _)
end Go.Proofs.Ytcjcoigjedcieaa
