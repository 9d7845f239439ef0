/- The document's list: Ids, Past. -/
import Derived.Test.YtgkpmckbdagkcaaRa
namespace Go.Proofs.Ytgkpmckbdagkcaa
open Go.RowKit Go.Wk

theorem fsts_len (v : VW) : (fsts v).length = v.length := by simp [fsts]
theorem snds_len (v : VW) : (snds v).length = v.length := by simp [snds]
theorem rIds_any (p : Nat) (D : Nat → Prop) (v : VW) (w : World) (h : RefAt w p D v) (hm : v.length ≤ 100000) : Calls Try.prog 33 #[.pointer (some ⟨p, 0, none⟩)] w fun e w' => Cloned w v.length (fsts v) e w' := by
  obtain ⟨i0, hi, hz0, hz1, hz2⟩ : ∃ i, Try.prog.info? 3 = some i ∧ i.zero = some (.int .i64 0) ∧ i.size = 1 ∧ i.bytes = 8 := ⟨_, rfl, rfl, rfl, rfl⟩
  have HV := Lib.hid (rvalid_any p D v w h)
  obtain ⟨A, A', n, c, c', h, rfl⟩ := h
  have hl := h.ln
  rw [hl] at hm ⊢
  have c1 := ((h.fr ((Fr.refl No w).alloc (.cells #[] 3)) (fun _ _ x => x)).cells).2.1
  have o1 : (w.alloc (.cells #[] 3)).ownsRow w.heap.size 3 1 (.slice (some ⟨w.heap.size, 0, none⟩) 0 0) 0 [] := ⟨rfl, .inr ⟨w.heap.size, 0, #[], rfl, Nat.le_refl _, Blk.new w 3 #[], Nat.le_refl _, Nat.zero_le _, rfl, rfl⟩⟩
  have O1 := Lib.hid o1
  have R1 := Lib.hid (h.rl.alloc (Nat.le_refl _) (.cells #[] 3))
  have HB1 := Lib.hid (show (0 + n) * 8 ≤ 140737488355328 by omega)
  have HB0 := Lib.hid (show 0 + n ≤ maxLen by unfold maxLen; omega)
  have hpl := h.blk.lt
  clear h o1 hl
  go_enter Try.func33, Try.ntmps33
  go_wp2_with (first | (go_at_call 39; refine HV.out.mono ?_; rintro e w1 ⟨rfl, rfl⟩) | (at_builtin; refine wpList_append_any (w.alloc (.cells #[] 3)) rfl (.tmp 6) (.tmp 10) 30 rfl w.heap.size 3 i0 (.int .i64 0) 1 8 Try.underlying30 hi hz0 hz1 hz2 rfl (by omega) (.slice (some ⟨w.heap.size, 0, none⟩) 0 0) 0 [] rfl O1.out w.heap.size A n c (cells .i64 (fsts v)) rfl R1.out (ints_one _) HB0.out HB1.out (by simp) ?_))
  intro v' w2 hown2 hg2 hloc2
  obtain ⟨A2, q2, rfl⟩ := own_form' hown2
  have F2 : Fr No w w2 := ((Fr.refl No w).alloc (.cells #[] 3)).own (Fr.of_grown (S := (· = w.heap.size)) hg2 (fun k hk => by simpa [Value.ownBlock] using hk.symm)) (Nat.le_refl _)
  have hq := own_cap hown2
  go_wp2
  go_ret
  exact ⟨A2, q2, by simp, by simpa [cells] using hown2, hq, F2⟩

/-! ### Past -/
theorem some_ite' {α : Type} {P : Prop} [Decidable P] (a b : α) : (if P then some a else some b) = some (if P then a else b) := by split <;> rfl
def rpN (v : VW) (d : Int) : Nat := (v.takeWhile (fun q => decide (q.2 < d))).length
theorem rpN_eq {v : VW} {d : Int} {k : Nat} (hk : k ≤ v.length) (h1 : ∀ j, j < k → (v.getD j (0, 0)).2 < d) (h2 : k < v.length → ¬ (v.getD k (0, 0)).2 < d) : rpN v d = k := by
  unfold rpN
  induction v generalizing k with
  | nil => simp at hk; simp [hk]
  | cons a v ih =>
    cases k with
    | zero =>
      have := h2 (by simp)
      rw [List.takeWhile_cons_of_neg (by simpa using this)]; rfl
    | succ k =>
      have := h1 0 (by omega)
      rw [List.takeWhile_cons_of_pos (by simpa using this), List.length_cons]
      rw [ih (k := k) (by simpa using hk) (fun j hj => by have := h1 (j + 1) (by omega); simpa using this) (fun hj => by have := h2 (by simpa using hj); simpa using this)]
/-- The list in the middle of Past. -/
def PastI (w : World) (p : Nat) (D : Nat → Prop) (v : VW) (d : Int) (k : Nat) (o : Value) (wr : World) : Prop :=
  (∃ A A' n c c', RefV wr p A A' n c c' (v.drop k) ∧ D = rdom p A A') ∧ wr.ownsRow w.heap.size 3 1 o k (cells .i64 (fsts (v.take k))) ∧ Fr (· = p) w wr ∧ (∀ j, j < k → (v.getD j (0, 0)).2 < d)
def RPast (w : World) (p : Nat) (D : Nat → Prop) (v : VW) (d : Int) (e : Ending) (w' : World) : Prop :=
  ∃ G gc, e = .returned (.slice G (rpN v d) gc) ∧ w'.ownsRow w.heap.size 3 1 (.slice G (rpN v d) gc) (rpN v d) (cells .i64 (fsts (v.take (rpN v d)))) ∧ RefAt w' p D (v.drop (rpN v d)) ∧ Fr (· = p) w w'
theorem Reads.is1 {w : World} {n c : Nat} {A : Option Addr} {xs : List Int} (h : Reads w w.heap.size 1 A n (cells .i64 xs)) (hc : n ≤ c) (h0 : 0 < n) {g o : Nat} (hA : A = some ⟨g, o, none⟩) : Reads w w.heap.size 1 (some (if c = 1 then ⟨g, o, none⟩ else ⟨g, o + 1, none⟩)) (n - 1) (cells .i64 (xs.drop 1)) := by
  have := h.cut (k := 1) (cap := c) (by omega) hc
  rw [hA] at this
  rw [Option.map_some, add_plain] at this
  have e : (if c = 1 then some (⟨g, o, none⟩ : Addr) else some ⟨g, o + 1 * 1, none⟩) = some (if c = 1 then ⟨g, o, none⟩ else ⟨g, o + 1, none⟩) := by split <;> rfl
  rw [e] at this
  simpa [cells, List.map_drop] using this
/-- Past's turn: the first entry is dropped. -/
theorem RefV.shift {wr : World} {p n c c' g o g' o' : Nat} {v : VW} (h : RefV wr p (some ⟨g, o, none⟩) (some ⟨g', o', none⟩) n c c' v) (h0 : 0 < n) {x x' : Addr} (hx : x = if c = 1 then ⟨g, o, none⟩ else ⟨g, o + 1, none⟩) (hx' : x' = if c' = 1 then ⟨g', o', none⟩ else ⟨g', o' + 1, none⟩) :
    RefV ((wr.setCell ⟨p, 1, none⟩ (.slice (some x) (n - 1) (c - 1))).setCell ⟨p, 2, none⟩ (.slice (some x') (n - 1) (c' - 1))) p (some x) (some x') (n - 1) (c - 1) (c' - 1) (v.drop 1) := by
  have hb := (h.blk.set_ 1 (.slice (some x) (n - 1) (c - 1))).set_ 2 (.slice (some x') (n - 1) (c' - 1))
  have hf : Fr (· = p) wr ((wr.setCell ⟨p, 1, none⟩ (.slice (some x) (n - 1) (c - 1))).setCell ⟨p, 2, none⟩ (.slice (some x') (n - 1) (c' - 1))) := ((Fr.refl (· = p) wr).setCell (.inr rfl) _).setCell (.inr rfl) _
  have bx : x.block = g := by rw [hx]; split <;> rfl
  have bx' : x'.block = g' := by rw [hx']; split <;> rfl
  have l1 := h.lt _ rfl
  have l2 := h.lt' _ rfl
  refine ⟨hb, ?_, ?_, by have := h.nc; omega, by have := h.nc'; omega, by rw [List.length_drop, h.ln], .inr ⟨x.block, x.off, ?_⟩, .inr ⟨x'.block, x'.off, ?_⟩, fun ad e => ?_, fun ad e => ?_⟩
  · have := Reads.is1 h.rl h.nc h0 rfl
    rw [← hx] at this
    have := this.frB hf (fun ad e => by injection e with e; subst e; rw [bx]; exact l1.2)
    simpa [fsts, List.map_drop] using this
  · have := Reads.is1 h.rd h.nc' h0 rfl
    rw [← hx'] at this
    have := this.frB hf (fun ad e => by injection e with e; subst e; rw [bx']; exact l2.2)
    simpa [snds, List.map_drop] using this
  · rw [hx]; split <;> rfl
  · rw [hx']; split <;> rfl
  · injection e with e; subst e; rw [bx]; exact ⟨Nat.lt_of_lt_of_le l1.1 hf.size, l1.2⟩
  · injection e with e; subst e; rw [bx']; exact ⟨Nat.lt_of_lt_of_le l2.1 hf.size, l2.2⟩
theorem PastI.next {w wr w1 : World} {p k : Nat} {D : Nat → Prop} {v : VW} {d : Int} {o o1 : Value} {n c c' g off g' off' : Nat} (hD : D = rdom p (some ⟨g, off, none⟩) (some ⟨g', off', none⟩)) (hlt : ∀ j, D j → j < w.heap.size) (h : PastI w p D v d k o wr) (hr : RefV wr p (some ⟨g, off, none⟩) (some ⟨g', off', none⟩) n c c' (v.drop k)) (hn : 0 < n) (hy : (v.getD k (0, 0)).2 < d)
    (ho : w1.ownsRow w.heap.size 3 1 o1 (k + 1) (cells .i64 (fsts (v.take k)) ++ [.int .i64 (v.getD k (0, 0)).1])) (hf : Fr (fun g => w.heap.size ≤ g) wr w1) {x x' : Addr} (hx : x = if c = 1 then ⟨g, off, none⟩ else ⟨g, off + 1, none⟩) (hx' : x' = if c' = 1 then ⟨g', off', none⟩ else ⟨g', off' + 1, none⟩) {m m' : Nat} (hm : m = c - 1) (hm' : m' = c' - 1) :
    PastI w p D v d (k + 1) o1 ((w1.setCell ⟨p, 1, none⟩ (.slice (some x) (n - 1) m)).setCell ⟨p, 2, none⟩ (.slice (some x') (n - 1) m')) := by
  subst hm hm'
  subst hD
  have hk : k < v.length := by have := hr.ln; rw [List.length_drop] at this; omega
  have hf' : Fr (· = p) w1 ((w1.setCell ⟨p, 1, none⟩ (.slice (some x) (n - 1) (c - 1))).setCell ⟨p, 2, none⟩ (.slice (some x') (n - 1) (c' - 1))) := ((Fr.refl (· = p) w1).setCell (.inr rfl) _).setCell (.inr rfl) _
  have hp : p < w.heap.size := hlt p (.inl rfl)
  refine ⟨⟨some x, some x', n - 1, c - 1, c' - 1, ?_, ?_⟩, ?_, ?_, fun j hj => ?_⟩
  · have := (hr.fr hf (fun j hj h => by have := hlt j hj; omega)).shift hn hx hx'
    rw [List.drop_drop] at this
    exact this
  · funext j
    unfold rdom
    have bx : x.block = g := by rw [hx]; split <;> rfl
    have bx' : x'.block = g' := by rw [hx']; split <;> rfl
    simp only [Option.some.injEq, exists_eq_left', bx, bx']
  · have e : fsts (v.take (k + 1)) = fsts (v.take k) ++ [(v.getD k (0, 0)).1] := by
      rw [List.take_succ_eq_append_getElem hk]; unfold fsts; rw [List.map_append]; simp [hk]
    rw [e, cells_snoc]
    exact own_fr ho hf' (fun b hb h => by have := (ho.lt b hb).1; omega)
  · exact (h.2.2.1.ownS hf (fun _ hb => hb)).trans hf' (fun _ _ x => x)
  · by_cases e : j = k
    · rw [e]; exact hy
    · exact h.2.2.2 j (by omega)
set_option maxRecDepth 100000 in
set_option maxHeartbeats 4000000 in
theorem rPast_any (p : Nat) (D : Nat → Prop) (v : VW) (d : Int) (w : World) (h : RefAt w p D v) (hm : v.length ≤ 100000) : Calls Try.prog 24 #[.pointer (some ⟨p, 0, none⟩), .int .i64 d] w fun e w' => RPast w p D v d e w' := by
  obtain ⟨i0, hi, hz0, hz1, hz2⟩ : ∃ i, Try.prog.info? 3 = some i ∧ i.zero = some (.int .i64 0) ∧ i.size = 1 ∧ i.bytes = 8 := ⟨_, rfl, rfl, rfl, rfl⟩
  have HV := Lib.hid (fun X (vv : VW) (hX : RefAt X p D vv) => rvalid_any p D vv X hX)
  have HP : PastI w p D v d 0 (.slice none 0 0) w := by
    obtain ⟨A, A', n, c, c', h, hD⟩ := h
    exact ⟨⟨A, A', n, c, c', h, hD⟩, own_nil _ _ _ _, Fr.refl _ _, fun j hj => by omega⟩
  have HLT := Lib.hid (fun j => RefAt.lt h (k := j))
  clear h
  go_enter Try.func24, Try.ntmps24
  go_wp2
  go_loopw [5] (fun o wr => ∃ (k : Nat) (A : Option Addr) (q : Nat), o = .slice A k q ∧ k ≤ v.length ∧ PastI w p D v d k (.slice A k q) wr) (fun o _ => v.length - (match o with | .slice _ k _ => k | _ => 0))
  case atStart => exact ⟨0, none, 0, rfl, Nat.zero_le _, HP⟩
  case round =>
    clear HP
    obtain ⟨k, O, q, rfl, hk, HI⟩ := hrel
    have HI := Lib.hid HI
    obtain ⟨A, A', n, c, c', hr, hD⟩ := HI.out.1
    obtain ⟨c0, c1, c2⟩ := hr.cells
    have hl := hr.ln
    rw [List.length_drop] at hl
    have HAT := Lib.hid (show RefAt wr p D (v.drop k) from ⟨A, A', n, c, c', hr, hD⟩)
    by_cases hn : k < v.length
    · have hn0 : 0 < n := by omega
      obtain ⟨x, hx⟩ : ∃ x, x = (v.getD k (0, 0)).1 := ⟨_, rfl⟩
      obtain ⟨y, hy⟩ : ∃ y, y = (v.getD k (0, 0)).2 := ⟨_, rfl⟩
      have ex : (fsts (v.drop k)).getD 0 0 = x := by rw [fsts_get, hx]; simp [List.getD_eq_getElem?_getD]
      have ey : (snds (v.drop k)).getD 0 0 = y := by rw [snds_get, hy]; simp [List.getD_eq_getElem?_getD]
      obtain ⟨g, o, rfl, hbl, a0⟩ := hr.rl.int_at (kd := .i64) (xs := fsts (v.drop k)) hn0
      obtain ⟨g', o', rfl, hbl', a1⟩ := hr.rd.int_at (kd := .i64) (xs := snds (v.drop k)) hn0
      rw [ex] at a0
      rw [ey] at a1
      simp only [Nat.add_zero] at a0 a1
      have HR := Lib.hid hr
      have HD := Lib.hid hD
      have HX := Lib.hid hx
      have HY := Lib.hid hy
      have HL := Lib.hid hl
      have nc := hr.nc
      have nc' := hr.nc'
      have hpw := hr.blk.lt
      clear hr hD hx hy ex ey hl
      by_cases hlt : y < d
      · have O := Lib.hid HI.out.2.1
        have hsz := HI.out.2.2.1.size
        go_wp2_with (first | (go_at_call 39; refine (HV.out wr _ HAT.out).mono ?_; rintro e w1 ⟨rfl, rfl⟩) | (at_builtin; refine wpList_push (wr := wr) rfl (.tmp 26) (.tmp 33) 30 rfl w.heap.size 3 i0 (.int .i64 0) 8 Try.underlying30 hi hz0 hz1 hz2 rfl (by omega) (.int .i64 x) 3 rfl _ k _ rfl rfl O.out (by omega) hsz ?_))
        intro v1 w1 ho hf hne
        obtain ⟨O1, q1, rfl⟩ := own_form' ho
        have hnd : ¬ (w.heap.size ≤ p) := by have := HLT.out p (by rw [HD.out]; exact .inl rfl); omega
        have d1 := (hf.cell (p := ⟨p, 1, none⟩) hpw hnd).trans c1
        have d2 := (hf.cell (p := ⟨p, 2, none⟩) hpw hnd).trans c2
        have hpw1 := Nat.lt_of_lt_of_le hpw hf.size
        have z1 := (HR.out.blk.fr hf hnd).frozen 1
        have z2 := (HR.out.blk.fr hf hnd).frozen 2
        have HN := Lib.hid (fun X X' m m' hX hX' hm hm' => HI.out.next HD.out HLT.out HR.out hn0 (by rw [← HY.out]; exact hlt) (by rw [← HX.out]; exact ho) hf (x := X) (x' := X') (m := m) (m' := m') hX hX' hm hm')
        clear ho hf hne c0 c1 c2 a0 a1 HI HAT HR
        go_wp2
        go_roundw
        case rel =>
          refine ⟨k + 1, O1, q1, rfl, by omega, ?_⟩
          rw [some_ite', some_ite']
          exact HN.out _ _ _ _ rfl rfl rfl rfl
        case measure => dsimp only; omega
      · have e := rpN_eq (v := v) (d := d) (k := k) hk HI.out.2.2.2 (fun _ => by rw [← HY.out]; exact hlt)
        go_wp2_with (go_at_call 39; refine (HV.out wr _ HAT.out).mono ?_; rintro e w1 ⟨rfl, rfl⟩)
        go_ret
        refine ⟨O, q, ?_, ?_, ?_, HI.out.2.2.1⟩
        · rw [e]; rfl
        · rw [e]; exact HI.out.2.1
        · rw [e]; exact HAT.out
    · have e := rpN_eq (v := v) (d := d) (k := k) hk HI.out.2.2.2 (fun h => absurd h hn)
      have e0 : n = 0 := by omega
      subst e0
      clear hr hD hl
      go_wp2_with (go_at_call 39; refine (HV.out wr _ HAT.out).mono ?_; rintro e w1 ⟨rfl, rfl⟩)
      go_ret
      refine ⟨O, q, ?_, ?_, ?_, HI.out.2.2.1⟩
      · rw [e]; rfl
      · rw [e]; exact HI.out.2.1
      · rw [e]; exact HAT.out
end Go.Proofs.Ytgkpmckbdagkcaa
