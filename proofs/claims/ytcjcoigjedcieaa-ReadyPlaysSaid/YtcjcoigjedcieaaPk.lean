/- ReadyPicks: the functions that it hands to Pick and IndexFunc. -/
import Derived.Test.YtcjcoigjedcieaaTk
import Derived.RangeFuncOwn
import Derived.Laws.EntriesVeiled
namespace Go.Proofs.Ytcjcoigjedcieaa
open Go.RowKit Go.Wk

/-- Which ids are able. -/
def isA (a x : Int) : Bool := decide (0 ≤ x) && (decide (x < 64) && (bits BinOp.and IntKind.u64 (a / 2 ^ x.toNat) 1 == 1))
theorem is_any (x a : Int) (b0 : Nat) (w : World) (hx : fits x) (_h0 : 0 ≤ a) (_h1 : a ≤ 18446744073709551615) (hb : w.cell? ⟨b0, 0, none⟩ = some (.int .u64 a)) : Calls Try.prog 22 #[.int .i64 x, .pointer (some ⟨b0, 0, none⟩)] w fun e w' => e = .returned (.bool (isA a x)) ∧ w = w' := by
  unfold fits at hx
  obtain ⟨hx0, hx1⟩ := hx
  by_cases h2 : 0 ≤ x
  · by_cases h3 : x < 64
    · have HE := Lib.hid (show isA a x = (bits BinOp.and IntKind.u64 (a / 2 ^ x.toNat) 1 == 1) by unfold isA; simp [h2, h3])
      go_enter Try.func22, Try.ntmps22
      go_wp2
      go_ret
      exact ⟨ret1b HE.out.symm, rfl⟩
    · have HE := Lib.hid (show isA a x = false by unfold isA; simp [h3])
      have b3 : decide (x < 64) = false := by simpa using h3
      go_enter Try.func22, Try.ntmps22
      go_wp2
      go_ret
      exact ⟨ret1b HE.out.symm, rfl⟩
  · have HE := Lib.hid (show isA a x = false by unfold isA; simp [h2])
    have b3 : decide (0 ≤ x) = false := by simpa using h2
    go_enter Try.func22, Try.ntmps22
    go_wp2
    go_ret
    exact ⟨ret1b HE.out.symm, rfl⟩

/-- The function that asks, its bits in b0. -/
structure IsB (w : World) (bi b0 : Nat) (a : Int) : Prop where
  bi : Blk w bi 34 #[.func (.func 22) #[] #[.pointer (some ⟨b0, 0, none⟩)]]
  b0 : Blk w b0 48 #[.int .u64 a]
theorem IsB.fr {S : Nat → Prop} {w w' : World} {bi b0 : Nat} {a : Int} (h : IsB w bi b0 a) (hf : Fr S w w') (h1 : ¬ S bi) (h2 : ¬ S b0) : IsB w' bi b0 a := ⟨h.bi.fr hf h1, h.b0.fr hf h2⟩
theorem able_any (x : IV) (a : Int) (bi b0 : Nat) (w : World) (hx : fits x.id) (h0 : 0 ≤ a) (h1 : a ≤ 18446744073709551615) (h : IsB w bi b0 a) :
    Calls Try.prog 26 #[valI x, .pointer (some ⟨bi, 0, none⟩)] w fun e w' => e = .returned (.bool (isA a x.id)) ∧ Fr No w w' := by
  have F := Lib.hid ((Fr.refl No w).alloc (.cells #[.int .i64 x.id, .int .i64 x.pr, .int .i64 x.since, .int .i64 x.seq] 31))
  have h' := Lib.hid (h.fr F.out (fun z => z) (fun z => z))
  have HI := Lib.hid (is_any x.id a b0 (w.alloc (.cells #[.int .i64 x.id, .int .i64 x.pr, .int .i64 x.since, .int .i64 x.seq] 31)) hx h0 h1 (h'.out.b0.cell 0))
  have c0 := h.bi.cell 0
  have hlt := h.bi.lt
  simp only [List.getElem?_toArray, List.getElem?_cons_zero] at c0
  obtain ⟨x1, x2, x3, x4⟩ := x
  unfold valI
  dsimp only at *
  clear h hx
  go_enter Try.func26, Try.ntmps26
  go_wp2_with fail
  refine HI.out.mono ?_
  rintro e w1 ⟨rfl, rfl⟩
  go_wp2
  go_ret
  exact ⟨rfl, F.out⟩

/-- What was asked so far: k ids, in a slice of the call's own that the block ba holds. -/
def Asked (B : Nat) (X : World) (ba : Nat) (l : List Int) : Prop := ∃ G c, Blk X ba 49 #[.slice G l.length c] ∧ X.ownsRow B 3 1 (.slice G l.length c) l.length (cells .i64 l)
theorem Asked.fr {S : Nat → Prop} {B ba : Nat} {X Y : World} {l : List Int} (h : Asked B X ba l) (hf : Fr S X Y) (h1 : ¬ S ba) (h2 : ∀ k, B ≤ k → k < X.heap.size → ¬ S k) : Asked B Y ba l := by
  obtain ⟨G, c, hb, ho⟩ := h
  exact ⟨G, c, hb.fr hf h1, own_fr ho hf (fun k hk => h2 k (ho.lt k hk).1 (ho.lt k hk).2)⟩
/-- append of one number onto the call's own row, with what stays. -/
theorem wpList_push1 {P : Program} {wr : World} {ops : Array Oper} {rest : List Oper} {o : Oper} {a : Act} {Q : Exit → Act → World → Prop} (hgd : o.guard = none) (s x : Operand) (t : TypeId)
    (ho : o.op = .call { callee := .builtin .append, args := #[s, x], argTypes := #[t, t] })
    (base : Nat) (e : TypeId) (i : TypeInfo) (z : Value) (bytes : Nat) (ht : P.underlying t = some (.slice e)) (hi : P.info? e = some i) (hz : i.zero = some z)
    (hsize : i.size = 1) (hby : i.bytes = bytes) (hzs : z.cells.size = 1) (hbytes : bytes ≤ 64)
    (u : Value) (et : TypeId) (hu : u.oneCell' = true) (v : Value) (n : Nat) (xs : List Value) (hs : a.eval s = v) (hx : a.eval x = .slice (some ⟨wr.heap.size, 0, none⟩) 1 1)
    (hown : wr.ownsRow base e 1 v n xs) (hn : n ≤ 1000000000000) (hbase : base ≤ wr.heap.size)
    (h : ∀ v' w', w'.ownsRow base e 1 v' (n + 1) (xs ++ [u]) → Fr (fun g => v.ownBlock = some g) wr w' → wpList P ops Q rest (a.put o.dst v') w') : wpList P ops Q (o :: rest) a (wr.alloc (.cells #[u] et)) := by
  refine wpList_append_own _ hgd s x t ho base e i z 1 bytes ht hi hz hsize hby hzs (by omega) v n xs hs (hown.alloc _) ⟨wr.heap.size, 0, none⟩ 1 1 [u] hx rfl ?_ ?_ ?_ ?_ ?_ ?_
  · intro j u' hu'
    match j, hu' with
    | 0, hu' =>
      simp at hu'
      subst hu'
      rw [add_plain]
      exact World.cell?_alloc_new _ _ _ _
  · intro u' hu'
    simp at hu'
    subst hu'
    exact hu
  · unfold maxLen; omega
  · have : (n + 1) * bytes ≤ (n + 1) * 64 := Nat.mul_le_mul_left _ hbytes
    omega
  · simp; omega
  · intro v' w' hown' hg _
    refine h v' w' hown' ?_
    exact ((Fr.refl (fun g => v.ownBlock = some g) wr).alloc _).trans (Fr.of_grown (S := fun g => v.ownBlock = some g) hg (fun k hk => hk)) (fun _ _ x => x)
set_option maxRecDepth 100000 in
set_option maxHeartbeats 4000000 in
theorem ask_any (x : Int) (a : Int) (B ba bi b0 : Nat) (l : List Int) (X : World) (o : Obj) (hx : fits x) (h0 : 0 ≤ a) (h1 : a ≤ 18446744073709551615) (hl : l.length ≤ 100000) (h : IsB X bi b0 a) (hA : Asked B X ba l) (hB : B ≤ X.heap.size) (hba : ba < B) (hbi : bi < B) (hb0 : b0 < B) (hne : ba ≠ bi ∧ ba ≠ b0) :
    Calls Try.prog 24 #[.int .i64 x, .pointer (some ⟨ba, 0, none⟩), .pointer (some ⟨bi, 0, none⟩)] (X.alloc o) fun e X' => e = .returned (.bool (isA a x)) ∧ IsB X' bi b0 a ∧ Asked B X' ba (l ++ [x]) ∧ X.heap.size < X'.heap.size ∧ X'.heap[X.heap.size]? = some o ∧ Fr (fun k => k = ba ∨ B ≤ k) X X' := by
  obtain ⟨i0, hi, hz0, hz1, hz2⟩ : ∃ i, Try.prog.info? 3 = some i ∧ i.zero = some (.int .i64 0) ∧ i.size = 1 ∧ i.bytes = 8 := ⟨_, rfl, rfl, rfl, rfl⟩
  obtain ⟨wr, hwr⟩ : ∃ wr, wr = X.alloc o := ⟨_, rfl⟩
  have F0 : Fr No X wr := by rw [hwr]; exact (Fr.refl No X).alloc _
  have hsz : wr.heap.size = X.heap.size + 1 := by rw [hwr]; simp
  have ho : wr.heap[X.heap.size]? = some o := by rw [hwr]; exact heap_alloc_new X o
  obtain ⟨G, c, hb, hown⟩ := hA
  have HBa := Lib.hid (hb.fr F0 (fun z => z))
  have HO := Lib.hid (own_fr hown F0 (fun _ _ z => z))
  have HI := Lib.hid (h.fr F0 (fun z => z) (fun z => z))
  have HIS := Lib.hid (fun Y hY => is_any x a b0 Y hx h0 h1 hY)
  have c0 := HBa.out.cell 0
  simp only [List.getElem?_toArray, List.getElem?_cons_zero] at c0
  have HF0 := Lib.hid F0
  have HSZ := Lib.hid hsz
  have HOO := Lib.hid ho
  have HLT := Lib.hid (fun k (hk : (Value.slice G l.length c).ownBlock = some k) => hown.lt k hk)
  rw [← hwr]
  clear h hb hown F0 hsz ho hwr hx
  go_enter Try.func24, Try.ntmps24
  go_wp2_with (at_builtin; refine wpList_push1 (wr := wr) rfl (.tmp 5) (.tmp 7) 49 rfl B 3 i0 (.int .i64 0) 8 Try.underlying49 hi hz0 hz1 hz2 rfl (by omega) (.int .i64 x) 3 rfl (.slice G l.length c) l.length (cells .i64 l) rfl rfl HO.out (by omega) (by have := HSZ.out; omega) ?_)
  intro v' w1 hown1 hf1
  obtain ⟨G', c', rfl⟩ := own_form' hown1
  have hS : ∀ k, k < B → ¬ ((Value.slice G l.length c).ownBlock = some k) := fun k hk e => by have := (HLT.out k e).1; omega
  have B1 := Lib.hid (HBa.out.fr hf1 (hS ba hba))
  have I1 := Lib.hid (HI.out.fr hf1 (hS bi hbi) (hS b0 hb0))
  have FS := Lib.hid (fr_cell1 ba 0 (.slice G' (l.length + 1) c') w1)
  have B2 := Lib.hid (B1.out.set_ 0 (.slice G' (l.length + 1) c'))
  have I2 := Lib.hid (I1.out.fr FS.out (fun e => hne.1 e.symm) (fun e => hne.2 e.symm))
  have hlt1 := fun k hk => hown1.lt k hk
  have O2 := Lib.hid (own_fr hown1 FS.out (fun k hk e => by have := (hlt1 k hk).1; omega))
  have OO1 := Lib.hid ((hf1.block X.heap.size (by have := HSZ.out; omega) (fun e => by have := (HLT.out _ e).2; omega)).trans HOO.out)
  have hs1 := hf1.size
  have HF1 := Lib.hid hf1
  have OO2 := Lib.hid ((FS.out.block X.heap.size (by have := HSZ.out; omega) (fun e => by omega)).trans OO1.out)
  have e0 := B1.out.cell 0
  have z0 := B1.out.frozen 0
  have i0c := I1.out.bi.cell 0
  simp only [List.getElem?_toArray, List.getElem?_cons_zero] at e0 i0c
  have hbs := B1.out.lt
  have hibs := I1.out.bi.lt
  have HISC := Lib.hid (HIS.out _ (I2.out.b0.cell 0))
  have hnei : bi ≠ ba := fun e => hne.1 e.symm
  have HSS := Lib.hid (show X.heap.size < w1.heap.size by have := HSZ.out; omega)
  clear c0 hown1 hf1 hS hlt1 hs1
  go_wp2_with fail
  refine HISC.out.mono ?_
  rintro e w2 ⟨rfl, rfl⟩
  go_wp2
  go_ret
  refine ⟨rfl, I2.out, ⟨G', c', ?_, ?_⟩, ?_, OO2.out, ?_⟩
  · have := B2.out
    simpa using this
  · have := O2.out
    rw [List.length_append, List.length_singleton, cells_snoc]
    exact this
  · have := FS.out.size
    have := HSS.out
    omega
  · have T : ∀ b0 : Nat, b0 < X.heap.size → (b0 = ba ∨ B ≤ b0) → (b0 = ba ∨ B ≤ b0) := fun _ _ z => z
    have f1 : Fr (fun k => k = ba ∨ B ≤ k) X wr := HF0.out.mono (fun _ z => z.elim)
    have f2 := f1.trans (HF1.out.mono (T := fun k => k = ba ∨ B ≤ k) (fun k hk => .inr (HLT.out k hk).1)) T
    exact f2.trans (FS.out.mono (T := fun k => k = ba ∨ B ≤ k) (fun k hk => .inl hk)) T
end Go.Proofs.Ytcjcoigjedcieaa
