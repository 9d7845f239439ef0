/- A block that reads as a list of deadlines; find, and the questions. -/
import Derived.Test.YtgkpmckbdagkcaaA
import Derived.Laws.Cover3
namespace Go.Proofs.Ytgkpmckbdagkcaa
open Go.RowKit Go.Wk

/-- An entry: an id, its deadline, its number. -/
structure LE where
  id : Int
  at_ : Int
  sq : Int
def LE.mk_ (e : LE) : Int × Int := (e.at_, e.sq)
def LE.zero : LE := ⟨0, 0, 0⟩
instance : Inhabited LE := ⟨LE.zero⟩
/-- What a list holds. -/
structure LS where
  l : List LE
  seq : Int
def LS.new : LS := ⟨[], 0⟩
def ids (l : List LE) : List Int := l.map LE.id
theorem ids_len (l : List LE) : (ids l).length = l.length := by simp [ids]
theorem ids_get (l : List LE) (i : Nat) (h : i < l.length) : (ids l).getD i 0 = (l.getD i LE.zero).id := by simp [ids, h]
def mkOf (l : List LE) (x : Int) : Option (Int × Int) := (l.find? (fun e => e.id == x)).map LE.mk_
def Never : Int := 4611686018427387904
structure LS.ok (s : LS) : Prop where
  inc : s.l.Pairwise (fun a b => ltM a.mk_ b.mk_)
  nodup : s.l.Pairwise (fun a b => a.id ≠ b.id)
  fit : ∀ e ∈ s.l, fits e.id
  ats : ∀ e ∈ s.l, 0 ≤ e.at_ ∧ e.at_ ≤ 4611686018427387904
  sqs : ∀ e ∈ s.l, 1 ≤ e.sq ∧ e.sq ≤ s.seq
  s0 : 0 ≤ s.seq
  s1 : s.seq ≤ 10000
  len : (s.l.length : Int) ≤ s.seq

theorem mkOf_mem {l : List LE} (hn : l.Pairwise (fun a b => a.id ≠ b.id)) {e : LE} (he : e ∈ l) : mkOf l e.id = some e.mk_ := by
  unfold mkOf
  induction l with
  | nil => simp at he
  | cons a l ih =>
    rw [List.pairwise_cons] at hn
    rcases List.mem_cons.1 he with rfl | he
    · simp
    · have : a.id ≠ e.id := hn.1 e he
      rw [List.find?_cons_of_neg (by simpa using this)]
      exact ih hn.2 he
theorem mkOf_none {l : List LE} {x : Int} (h : ∀ e ∈ l, e.id ≠ x) : mkOf l x = none := by
  unfold mkOf
  rw [List.find?_eq_none.2 (fun e he => by simpa using h e he)]
  rfl
theorem mkOf_some {l : List LE} {x : Int} {p : Int × Int} (h : mkOf l x = some p) : ∃ e ∈ l, e.id = x ∧ e.mk_ = p := by
  unfold mkOf at h
  rw [Option.map_eq_some_iff] at h
  obtain ⟨e, he, hp⟩ := h
  exact ⟨e, List.mem_of_find?_eq_some he, by simpa using List.find?_some he, hp⟩
theorem mkOf_get {s : LS} (h : s.ok) {i : Nat} (hi : i < s.l.length) : mkOf s.l (s.l.getD i LE.zero).id = some (s.l.getD i LE.zero).mk_ := by
  have : s.l.getD i LE.zero = s.l[i] := by simp [hi]
  rw [this]
  exact mkOf_mem h.nodup (List.getElem_mem hi)

/-- The block b is a list in state s, its map in bm, its slice v. -/
structure LateV (w : World) (b bm : Nat) (v : Value) (s : LS) : Prop where
  blk : Blk w b 50 #[.map (some bm), v, .int .i64 s.seq]
  own : w.ownsRow 0 3 1 v s.l.length (cells .i64 (ids s.l))
  mp : MapF w Try.prog 3 bm s.seq.toNat (mkOf s.l)
  ok : s.ok
def dom (b bm : Nat) (v : Value) : Nat → Prop := fun k => k = b ∨ k = bm ∨ v.ownBlock = some k
def LateAt (w : World) (b : Nat) (D : Nat → Prop) (s : LS) : Prop := ∃ bm v, LateV w b bm v s ∧ D = dom b bm v
theorem LateV.fr {S : Nat → Prop} {w w' : World} {b bm : Nat} {v : Value} {s : LS} (h : LateV w b bm v s) (hf : Fr S w w') (hS : ∀ k, dom b bm v k → ¬ S k) : LateV w' b bm v s :=
  ⟨h.blk.fr hf (hS b (.inl rfl)), own_fr h.own hf (fun k hk => hS k (.inr (.inr hk))), h.mp.fr hf (hS bm (.inr (.inl rfl))), h.ok⟩
theorem LateAt.fr {S : Nat → Prop} {w w' : World} {b : Nat} {D : Nat → Prop} {s : LS} (h : LateAt w b D s) (hf : Fr S w w') (hS : ∀ k, D k → ¬ S k) : LateAt w' b D s := by
  obtain ⟨bm, v, h, rfl⟩ := h
  exact ⟨bm, v, h.fr hf hS, rfl⟩
theorem LateAt.fr0 {w w' : World} {b : Nat} {D : Nat → Prop} {s : LS} (h : LateAt w b D s) (hf : Fr No w w') : LateAt w' b D s := h.fr hf (fun _ _ x => x)
theorem LateAt.ok {w : World} {b : Nat} {D : Nat → Prop} {s : LS} (h : LateAt w b D s) : s.ok := by obtain ⟨bm, v, h, _⟩ := h; exact h.ok
theorem LateV.lt {w : World} {b bm : Nat} {v : Value} {s : LS} (h : LateV w b bm v s) {k : Nat} (hk : dom b bm v k) : k < w.heap.size := by
  rcases hk with rfl | rfl | hk
  · exact h.blk.lt
  · exact h.mp.lt
  · exact (h.own.lt k hk).2
theorem LateAt.lt {w : World} {b : Nat} {D : Nat → Prop} {s : LS} (h : LateAt w b D s) {k : Nat} (hk : D k) : k < w.heap.size := by
  obtain ⟨bm, v, h, rfl⟩ := h; exact h.lt hk
theorem LateV.cells {w : World} {b bm : Nat} {v : Value} {s : LS} (h : LateV w b bm v s) : w.cell? ⟨b, 0, none⟩ = some (.map (some bm)) ∧ w.cell? ⟨b, 1, none⟩ = some v ∧ w.cell? ⟨b, 2, none⟩ = some (.int .i64 s.seq) := ⟨h.blk.cell 0, h.blk.cell 1, h.blk.cell 2⟩
theorem LateV.len {w : World} {b bm : Nat} {v : Value} {s : LS} (h : LateV w b bm v s) : s.l.length ≤ 10000 := by have h1 := h.ok.len; have h2 := h.ok.s1; omega
theorem LateV.form {w : World} {b bm : Nat} {v : Value} {s : LS} (h : LateV w b bm v s) : ∃ A c, v = .slice A s.l.length c ∧ s.l.length ≤ c := by
  obtain ⟨A, c, rfl⟩ := own_form' h.own
  exact ⟨A, c, rfl, own_cap h.own⟩
theorem LateV.ne {w : World} {b bm : Nat} {v : Value} {s : LS} (h : LateV w b bm v s) : bm ≠ b ∧ (∀ k, v.ownBlock = some k → k ≠ b) ∧ (∀ k, v.ownBlock = some k → k ≠ bm) := by
  refine ⟨h.mp.cells_ne h.blk, own_blk_ne h.own h.blk (by decide), fun k hk e => ?_⟩
  subst e
  rcases h.own.2 with ⟨rfl, _⟩ | ⟨g, cap, cur, rfl, _, hh, _⟩
  · simp [Value.ownBlock] at hk
  · have : g = k := by simpa [Value.ownBlock] using hk
    subst this
    exact h.mp.cells_ne (g := g) (t := 3) (cs := cur) hh rfl

/-- An element of the order. -/
theorem LateV.at_ {w : World} {b bm : Nat} {A : Option Addr} {n c : Nat} {s : LS} (h : LateV w b bm (.slice A n c) s) {i : Nat} (hi : i < s.l.length) : n = s.l.length ∧ ∃ g, A = some ⟨g, 0, none⟩ ∧ g < w.heap.size ∧ w.cell? ⟨g, i, none⟩ = some (.int .i64 (s.l.getD i LE.zero).id) := by
  obtain ⟨g, q, he, _⟩ := own_some h.own (by omega)
  cases he
  refine ⟨rfl, g, rfl, (h.own.lt g rfl).2, ?_⟩
  obtain ⟨b', off, he, _, hc⟩ := (Reads.of_own h.own).int_at (kd := .i64) (xs := ids s.l) hi
  cases he
  rw [ids_get _ _ hi] at hc
  simpa using hc

/-! ### valid, Len, Get -/
theorem valid_any (b bm : Nat) (v : Value) (s : LS) (w : World) (h : LateV w b bm v s) : Calls Try.prog 35 #[.pointer (some ⟨b, 0, none⟩)] w fun e w' => e = .returned (.bool true) ∧ w = w' := by
  obtain ⟨c0, c1, c2⟩ := h.cells
  have hm := fun (w : World) m => run_neq_map_nil w 48 3 60 m Try.underlying48
  clear h
  go_enter Try.func35, Try.ntmps35
  go_wp2
  go_ret
  exact ⟨rfl, rfl⟩
theorem Len_any (b bm : Nat) (v : Value) (s : LS) (w : World) (h : LateV w b bm v s) : Calls Try.prog 31 #[.pointer (some ⟨b, 0, none⟩)] w fun e w' => e = .returned (.int .i64 s.l.length) ∧ w = w' := by
  obtain ⟨c0, c1, c2⟩ := h.cells
  obtain ⟨A, c, rfl, _⟩ := h.form
  have HV := Lib.hid (valid_any b bm _ s w h)
  clear h
  go_enter Try.func31, Try.ntmps31
  go_wp2_with fail
  refine HV.out.mono ?_
  rintro x w1 ⟨rfl, rfl⟩
  go_wp2
  go_ret
  exact ⟨rfl, rfl⟩
/-- The zero value of a mark. -/
theorem zeroM (w : World) : (zeroValue 60).run Try.prog w = .ok (val2 (0, 0)) w := by kernel_rfl
def getV (s : LS) (x : Int) : Int := ((mkOf s.l x).getD (0, 0)).1
def getB (s : LS) (x : Int) : Bool := (mkOf s.l x).isSome
theorem Get_any (b bm : Nat) (v : Value) (s : LS) (x : Int) (hx : fits x) (w : World) (h : LateV w b bm v s) : Calls Try.prog 29 #[.pointer (some ⟨b, 0, none⟩), .int .i64 x] w fun e w' => e = .returned (.tuple #[.int .i64 (getV s x), .bool (getB s x)]) ∧ Fr No w w' := by
  obtain ⟨c0, c1, c2⟩ := h.cells
  have HV := Lib.hid (valid_any b bm _ s w h)
  have hl := h.mp.look_ok Try.underlying3 Try.underlying48 (zeroM w) hx
  unfold getV getB
  generalize mkOf s.l x = o at *
  obtain ⟨p, hp⟩ : ∃ p, p = o.getD (0, 0) := ⟨_, rfl⟩
  rw [← hp] at hl ⊢
  generalize o.isSome = ok at *
  obtain ⟨p1, p2⟩ := p
  unfold val2 at hl
  dsimp only at hl
  clear h hp
  go_enter Try.func29, Try.ntmps29
  go_wp2_with fail
  refine HV.out.mono ?_
  rintro x w1 ⟨rfl, rfl⟩
  go_wp2
  go_ret2
  exact ⟨rfl, (Fr.refl No _).alloc _⟩

/-! ### find -/
/-- How many entries come before a mark. -/
def idx (l : List LE) (t : Int × Int) : Nat := (l.takeWhile (fun e => decide (ltM e.mk_ t))).length
theorem find1_any (b bm p : Nat) (v : Value) (s : LS) (i : Nat) (hi : i < s.l.length) (t : Int × Int) (w : World) (h : LateV w b bm v s) (hp : Blk w p 24 #[.pointer (some ⟨b, 0, none⟩)]) :
    Calls Try.prog 46 #[.int .i64 (s.l.getD i LE.zero).id, val2 t, .pointer (some ⟨p, 0, none⟩)] w fun e w' => e = .returned (.int .i64 (ordM (s.l.getD i LE.zero).mk_ t)) ∧ Fr No w w' := by
  obtain ⟨m, hm⟩ : ∃ m, m = (s.l.getD i LE.zero).mk_ := ⟨_, rfl⟩
  have hfit : fits (s.l.getD i LE.zero).id := by
    have e : s.l.getD i LE.zero = s.l[i] := by simp [hi]
    rw [e]; exact h.ok.fit _ (List.getElem_mem hi)
  have hlk := fun (X : World) (hX : Fr No w X) => (h.fr hX (fun _ _ x => x)).mp.look Try.underlying3 Try.underlying48 (zeroM X) hfit
  rw [mkOf_get h.ok hi, ← hm] at hlk
  rw [← hm]
  obtain ⟨t1, t2⟩ := t
  obtain ⟨w0, hw0⟩ : ∃ w0, w0 = w.alloc (.cells #[.int .i64 t1, .int .i64 t2] 60) := ⟨_, rfl⟩
  have F0 := Lib.hid (show Fr No w w0 by rw [hw0]; exact (Fr.refl No w).alloc _)
  have FD := Lib.hid (show Fr No w w0.drew from F0.out.drew)
  have c0 := (h.fr FD.out (fun _ _ x => x)).cells.1
  have p0 := (hp.fr FD.out (fun x => x)).cell 0
  have t0 := blk2 (show Blk w0.drew w.heap.size 60 #[.int .i64 t1, .int .i64 t2] by rw [hw0]; exact (Blk.new _ _ _).drew)
  have c0' := (h.fr F0.out (fun _ _ x => x)).cells.1
  have p0' := (hp.fr F0.out (fun x => x)).cell 0
  have t0' := blk2 (show Blk w0 w.heap.size 60 #[.int .i64 t1, .int .i64 t2] by rw [hw0]; exact (Blk.new _ _ _))
  have l0 := hlk _ FD.out
  have l0' := hlk _ F0.out
  have SK := Lib.hid (fun (X : World) (hX : Fr No w0 X) => (show (X.cell? ⟨p, 0, none⟩ = some (.pointer (some ⟨b, 0, none⟩)) ∧ X.cell? ⟨b, 0, none⟩ = some (.map (some bm)) ∧ X.cell? ⟨w.heap.size, 0, none⟩ = some (.int .i64 t1) ∧ X.cell? ⟨w.heap.size, 1, none⟩ = some (.int .i64 t2)) from
    ⟨((hp.fr F0.out (fun x => x)).fr hX (fun x => x)).cell 0, ((h.fr F0.out (fun _ _ x => x)).fr hX (fun _ _ x => x)).cells.1, (blk2 ((show Blk w0 w.heap.size 60 #[.int .i64 t1, .int .i64 t2] by rw [hw0]; exact Blk.new _ _ _).fr hX (fun x => x))).1, (blk2 ((show Blk w0 w.heap.size 60 #[.int .i64 t1, .int .i64 t2] by rw [hw0]; exact Blk.new _ _ _).fr hX (fun x => x))).2⟩))
  have FX := Lib.hid (Fr.refl No w0).drew
  obtain ⟨t3, t4⟩ := t0
  obtain ⟨t3', t4'⟩ := t0'
  simp only [List.getElem?_toArray, List.getElem?_cons_zero, Option.getD_some] at p0 p0' l0 l0'
  have HB := Lib.hid (fun X => before_any m (t1, t2) X)
  generalize (s.l.getD i LE.zero).id = x at *
  generalize ordM m (t1, t2) = r at *
  obtain ⟨m1, m2⟩ := m
  have HW := Lib.hid hw0
  clear hw0 hlk hm hfit h hp
  unfold val2 at *
  dsimp only at *
  go_enter Try.func46, Try.ntmps46
  go_wp2_with fail
  rw [← HW.out]
  go_region_held3 (fun w' => w'.cell? ⟨p, 0, none⟩ = some (.pointer (some ⟨b, 0, none⟩)) ∧ w'.cell? ⟨b, 0, none⟩ = some (.map (some bm)) ∧ w'.cell? ⟨w.heap.size, 0, none⟩ = some (.int .i64 t1) ∧ w'.cell? ⟨w.heap.size, 1, none⟩ = some (.int .i64 t2))
    (first | exact SK.out _ (FX.out.then0 FB.out) | exact ⟨p0, c0, t3, t4⟩ | go_keep)
    (first | (go_at_call 47; ((with_reducible refine (HB.out _).mono ?_); rintro e wA ⟨rfl, hf⟩); have FA := Lib.hid (FD.out.then0 hf); have FB := Lib.hid hf; clear hf))
  all_goals
    go_wp2
    go_ret
    exact ⟨rfl, FA.out⟩
end Go.Proofs.Ytgkpmckbdagkcaa
