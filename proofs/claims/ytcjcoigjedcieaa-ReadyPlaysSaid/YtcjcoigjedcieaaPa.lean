/- ReadyPlays: the functions that it hands to Pick; slices.Equal at equal numbers. -/
import Derived.Test.YtcjcoigjedcieaaRi
namespace Go.Proofs.Ytcjcoigjedcieaa
open Go.RowKit Go.Wk

/-- Which ids are able. -/
def ablP (b x : Int) : Bool := decide (b < 0) || (decide (2 < b) || (x.tmod 3 % 3 == b))
theorem abl_any (x : Int) (st : Int × Int × Int × Int) (b0 : Nat) (w : World) (hx : fits x) (hb : Blk w b0 70 #[.int .i64 st.1, .int .i64 st.2.1, .int .i64 st.2.2.1, .int .i64 st.2.2.2]) : Calls Try.prog 38 #[.int .i64 x, .pointer (some ⟨b0, 0, none⟩)] w fun e w' => e = .returned (.bool (ablP st.2.2.1 x)) ∧ w = w' := by
  obtain ⟨d, a, b, u⟩ := st
  dsimp only at *
  unfold fits at hx
  obtain ⟨hx0, hx1⟩ := hx
  have c2 := hb.cell 2
  simp only [List.getElem?_toArray, List.getElem?_cons_zero, List.getElem?_cons_succ] at c2
  have t0 := Int.tmod_lt_of_pos x (show (0 : Int) < 3 by decide)
  have t1 : -3 < x.tmod 3 := by
    have := Int.lt_tmod_of_pos x (show (0 : Int) < 3 by decide)
    exact this
  clear hb
  by_cases h1 : b < 0
  · have HE := Lib.hid (show ablP b x = true by unfold ablP; simp [h1])
    have b1 : decide (b < 0) = true := by simpa using h1
    go_enter Try.func38, Try.ntmps38
    go_wp2
    go_ret
    exact ⟨ret1b HE.out.symm, rfl⟩
  have b1 : decide (b < 0) = false := by simpa using h1
  by_cases h2 : 2 < b
  · have HE := Lib.hid (show ablP b x = true by unfold ablP; simp [h2])
    have b2 : decide (2 < b) = true := by simpa using h2
    go_enter Try.func38, Try.ntmps38
    go_wp2
    go_ret
    exact ⟨ret1b HE.out.symm, rfl⟩
  have b2 : decide (2 < b) = false := by simpa using h2
  have HE := Lib.hid (show ablP b x = (x.tmod 3 % 3 == b) by unfold ablP; simp [h1, h2])
  obtain ⟨m, hm⟩ : ∃ m, m = x.tmod 3 := ⟨_, rfl⟩
  rw [← hm] at t0 t1 HE
  have hm2 : x.tmod 3 = m := hm.symm
  clear hm h1 h2
  go_enter Try.func38, Try.ntmps38
  go_wp2
  go_ret
  exact ⟨ret1b HE.out.symm, rfl⟩

/-- The function that asks, its step in b0. -/
structure IsC (w : World) (bi b0 : Nat) (st : Int × Int × Int × Int) : Prop where
  bi : Blk w bi 34 #[.func (.func 38) #[] #[.pointer (some ⟨b0, 0, none⟩)]]
  b0 : Blk w b0 70 #[.int .i64 st.1, .int .i64 st.2.1, .int .i64 st.2.2.1, .int .i64 st.2.2.2]
theorem IsC.fr {S : Nat → Prop} {w w' : World} {bi b0 : Nat} {st : Int × Int × Int × Int} (h : IsC w bi b0 st) (hf : Fr S w w') (h1 : ¬ S bi) (h2 : ¬ S b0) : IsC w' bi b0 st := ⟨h.bi.fr hf h1, h.b0.fr hf h2⟩
set_option maxRecDepth 100000 in
set_option maxHeartbeats 4000000 in
theorem askC_any (x : Int) (st : Int × Int × Int × Int) (B ba bi b0 : Nat) (l : List Int) (X : World) (o : Obj) (hx : fits x) (hl : l.length ≤ 100000) (h : IsC X bi b0 st) (hA : Asked B X ba l) (hB : B ≤ X.heap.size) (hba : ba < B) (hbi : bi < B) (hb0 : b0 < B) (hne : ba ≠ bi ∧ ba ≠ b0) :
    Calls Try.prog 40 #[.int .i64 x, .pointer (some ⟨ba, 0, none⟩), .pointer (some ⟨bi, 0, none⟩)] (X.alloc o) fun e X' => e = .returned (.bool (ablP st.2.2.1 x)) ∧ IsC X' bi b0 st ∧ Asked B X' ba (l ++ [x]) ∧ X.heap.size < X'.heap.size ∧ X'.heap[X.heap.size]? = some o ∧ Fr (fun k => k = ba ∨ B ≤ k) X X' := by
  obtain ⟨i0, hi, hz0, hz1, hz2⟩ : ∃ i, Try.prog.info? 3 = some i ∧ i.zero = some (.int .i64 0) ∧ i.size = 1 ∧ i.bytes = 8 := ⟨_, rfl, rfl, rfl, rfl⟩
  obtain ⟨wr, hwr⟩ : ∃ wr, wr = X.alloc o := ⟨_, rfl⟩
  have F0 : Fr No X wr := by rw [hwr]; exact (Fr.refl No X).alloc _
  have hsz : wr.heap.size = X.heap.size + 1 := by rw [hwr]; simp
  have ho : wr.heap[X.heap.size]? = some o := by rw [hwr]; exact heap_alloc_new X o
  obtain ⟨G, c, hb, hown⟩ := hA
  have HBa := Lib.hid (hb.fr F0 (fun z => z))
  have HO := Lib.hid (own_fr hown F0 (fun _ _ z => z))
  have HI := Lib.hid (h.fr F0 (fun z => z) (fun z => z))
  have HIS := Lib.hid (fun Y hY => abl_any x st b0 Y hx hY)
  have c0 := HBa.out.cell 0
  simp only [List.getElem?_toArray, List.getElem?_cons_zero] at c0
  have HF0 := Lib.hid F0
  have HSZ := Lib.hid hsz
  have HOO := Lib.hid ho
  have HLT := Lib.hid (fun k (hk : (Value.slice G l.length c).ownBlock = some k) => hown.lt k hk)
  rw [← hwr]
  clear h hb hown F0 hsz ho hwr hx
  go_enter Try.func40, Try.ntmps40
  go_wp2_with (at_builtin; refine wpList_push1 (wr := wr) rfl (.tmp 5) (.tmp 7) 49 rfl B 3 i0 (.int .i64 0) 8 Try.underlying49 hi hz0 hz1 hz2 rfl (by omega) (.int .i64 x) 3 rfl (.slice G l.length c) l.length (cells .i64 l) rfl rfl HO.out (by omega) (by have := HSZ.out; omega) ?_)
  intro v' w1 hown1 hf1
  obtain ⟨G', c', rfl⟩ := own_form' hown1
  have hS : ∀ k, k < B → ¬ ((Value.slice G l.length c).ownBlock = some k) := fun k hk e => by have := (HLT.out k e).1; omega
  have B1 := Lib.hid (HBa.out.fr hf1 (hS ba hba))
  have I1 := Lib.hid (HI.out.fr hf1 (hS bi hbi) (hS b0 hb0))
  have FS := Lib.hid (fr_cell1 ba 0 (.slice G' (l.length + 1) c') w1)
  have B2 := Lib.hid (B1.out.set_ 0 (.slice G' (l.length + 1) c'))
  have I2 := Lib.hid (I1.out.fr FS.out (fun e => hne.1 e.symm) (fun e => hne.2 e.symm))
  have hlt1 := fun k hk => hown1.lt k hk
  have O2 := Lib.hid (own_fr hown1 FS.out (fun k hk e => by have := (hlt1 k hk).1; omega))
  have OO1 := Lib.hid ((hf1.block X.heap.size (by have := HSZ.out; omega) (fun e => by have := (HLT.out _ e).2; omega)).trans HOO.out)
  have hs1 := hf1.size
  have HF1 := Lib.hid hf1
  have OO2 := Lib.hid ((FS.out.block X.heap.size (by have := HSZ.out; omega) (fun e => by omega)).trans OO1.out)
  have e0 := B1.out.cell 0
  have z0 := B1.out.frozen 0
  have i0c := I1.out.bi.cell 0
  simp only [List.getElem?_toArray, List.getElem?_cons_zero] at e0 i0c
  have hbs := B1.out.lt
  have hibs := I1.out.bi.lt
  have HISC := Lib.hid (HIS.out _ I2.out.b0)
  have hnei : bi ≠ ba := fun e => hne.1 e.symm
  have HSS := Lib.hid (show X.heap.size < w1.heap.size by have := HSZ.out; omega)
  clear c0 hown1 hf1 hS hlt1 hs1
  go_wp2_with fail
  refine HISC.out.mono ?_
  rintro e w2 ⟨rfl, rfl⟩
  go_wp2
  go_ret
  refine ⟨rfl, I2.out, ⟨G', c', ?_, ?_⟩, ?_, OO2.out, ?_⟩
  · have := B2.out
    simpa using this
  · have := O2.out
    rw [List.length_append, List.length_singleton, cells_snoc]
    exact this
  · have := FS.out.size
    have := HSS.out
    omega
  · have T : ∀ b0 : Nat, b0 < X.heap.size → (b0 = ba ∨ B ≤ b0) → (b0 = ba ∨ B ≤ b0) := fun _ _ z => z
    have f1 : Fr (fun k => k = ba ∨ B ≤ k) X wr := HF0.out.mono (fun _ z => z.elim)
    have f2 := f1.trans (HF1.out.mono (T := fun k => k = ba ∨ B ≤ k) (fun k hk => .inr (HLT.out k hk).1)) T
    exact f2.trans (FS.out.mono (T := fun k => k = ba ∨ B ≤ k) (fun k hk => .inl hk)) T

/-- The state of the calls in Pick. -/
def PC (w0 : World) (B ba bi b0 : Nat) (st : Int × Int × Int × Int) (l : List IV) (k : Nat) (X : World) : Prop := IsC X bi b0 st ∧ Asked B X ba ((ids l).take k) ∧ Fr (· = ba) w0 X
theorem pickC_at (st : Int × Int × Int × Int) (ba bi b0 b : Nat) (D : Nat → Prop) (s : QS) (w : World) (h : QAt w b D s) (hI : IsC w bi b0 st) (hA : Blk w ba 49 #[.slice none 0 0]) (hne : ba ≠ bi ∧ ba ≠ b0) (hD : ∀ k, D k → k ≠ ba) :
    Calls Try.prog 23 #[.pointer (some ⟨b, 0, none⟩), .func (.func 40) #[] #[.pointer (some ⟨ba, 0, none⟩), .pointer (some ⟨bi, 0, none⟩)]] w fun e w' => e = .returned (.tuple #[.int .i64 (pickV (ablP st.2.2.1) s), .bool (pickB (ablP st.2.2.1) s)]) ∧
      ∃ X, PC w w.heap.size ba bi b0 st s.l (min (pickN (ablP st.2.2.1) s.l + 1) s.l.length) X ∧ TurnedAt X b D (pickS (ablP st.2.2.1) s) w' := by
  obtain ⟨bm, v, hv, rfl⟩ := h
  have hba := hA.lt
  have hbi := hI.bi.lt
  have hb0 := hI.b0.lt
  refine (Pick_any 40 _ (ablP st.2.2.1) (PC w w.heap.size ba bi b0 st s.l) (· = ba) b bm v s w hv ⟨hI, ⟨none, 0, by simpa using hA, own_nil _ _ _ _⟩, Fr.refl _ _⟩ (fun _ _ h => h.2.2) (fun k hk e => hD k hk e) Try.call40 (fun k X o hk hX => ?_)).mono ?_
  · obtain ⟨hi, ha, hf⟩ := hX
    have hsz := hf.size
    refine (askC_any _ st w.heap.size ba bi b0 _ X o (hv.ok.fit _ (getD_mem' hk)).id (by have := hv.ok.n; rw [List.length_take, ids_len]; omega) hi ha hsz hba hbi hb0 hne).mono ?_
    rintro e X' ⟨rfl, hi', ha', h3, h4, hf'⟩
    refine ⟨rfl, ⟨hi', by rw [ids_take_succ _ hk]; exact ha', hf.trans hf' (fun k hk h => h.elim id (fun h => by omega))⟩, h3, h4⟩
  · rintro e w' ⟨X, hX, ht⟩
    exact ⟨ht.at_.1, X, hX, ht.at_.2⟩

set_option maxRecDepth 100000 in
set_option maxHeartbeats 4000000 in
theorem equalI_eq (A A' : Option Addr) (n c n' c' : Nat) (l : List Int) (w : World) (h : Reads w w.heap.size 1 A n (l.map (Value.int .i64))) (h' : Reads w w.heap.size 1 A' n' (l.map (Value.int .i64))) (hn : n ≤ 9223372036854775807) :
    Calls Try.prog 42 #[.slice A n c, .slice A' n' c'] w fun e w' => e = .returned (.bool true) ∧ ∃ q, w' = w.drewN q := by
  have e : n' = n := by have := h.length_ints; have := h'.length_ints; omega
  subst e
  have HR := Lib.hid h
  have HR' := Lib.hid h'
  have hnb : ((n' : Int) != (n' : Int)) = false := by simp
  clear h h'
  go_enter Try.func42, Try.ntmps42
  go_wp2
  go_loopw [13] (fun i wr => ∃ k q : Nat, i = .int .i64 k ∧ k ≤ n' ∧ Hid (wr = w.drewN q)) (fun i _ => n' - (intOf i).toNat)
  case atStart => exact ⟨0, 0, rfl, Nat.zero_le _, Lib.hid rfl⟩
  case round =>
    obtain ⟨k, q, rfl, hk, HW⟩ := hrel
    by_cases hlt : k < n'
    · obtain ⟨q1, o1, rfl, _, a0⟩ := HR.out.int_at hlt
      obtain ⟨q2, o2, rfl, _, b0⟩ := HR'.out.int_at hlt
      have hlt2 : (k : Int) < (n' : Int) := by omega
      generalize l.getD k 0 = x at *
      have hxx : (x != x) = false := by simp
      have a1 : wr.cell? ⟨q1, o1 + k, none⟩ = some (.int .i64 x) := by rw [HW.out]; exact a0
      have b1 : wr.cell? ⟨q2, o2 + k, none⟩ = some (.int .i64 x) := by rw [HW.out]; exact b0
      clear a0 b0
      go_wp2
      go_quiet (fail)
      go_wp2
      go_roundw
      case rel => exact ⟨k + 1, q + nq, by go_num, by omega, Lib.hid (by rw [HW.out, World.drewN_drewN])⟩
      case measure => simp [intOf]; omega
    · go_wp2
      go_ret
      exact ⟨rfl, q, HW.out⟩
end Go.Proofs.Ytcjcoigjedcieaa
