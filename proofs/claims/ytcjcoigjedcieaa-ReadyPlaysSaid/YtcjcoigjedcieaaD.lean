/- A block that reads as a queue; made, Len, Room, Has, Head. -/
import Derived.Test.YtcjcoigjedcieaaB
namespace Go.Proofs.Ytcjcoigjedcieaa
open Go.RowKit Go.Wk

/-- The block b is a queue in state s, its map in bm, its slice v. -/
structure QV (w : World) (b bm : Nat) (v : Value) (s : QS) : Prop where
  blk : Blk w b 65 #[v, .map (some bm), .int .i64 s.size, .int .i64 s.ag, .int .i64 s.added]
  own : w.ownsRow 0 31 4 v s.l.length (icells s.l)
  mp : MapF w Try.prog 3 bm s.added.toNat (byId s.l)
  ok : s.ok
def dom (b bm : Nat) (v : Value) : Nat → Prop := fun k => k = b ∨ k = bm ∨ v.ownBlock = some k
def QAt (w : World) (b : Nat) (D : Nat → Prop) (s : QS) : Prop := ∃ bm v, QV w b bm v s ∧ D = dom b bm v
section
variable {S : Nat → Prop} {w w' : World} {b bm : Nat} {D : Nat → Prop} {v : Value} {s : QS}
theorem QV.fr (h : QV w b bm v s) (hf : Fr S w w') (hS : ∀ k, dom b bm v k → ¬ S k) : QV w' b bm v s :=
  ⟨h.blk.fr hf (hS b (.inl rfl)), own_fr h.own hf (fun k hk => hS k (.inr (.inr hk))), h.mp.fr hf (hS bm (.inr (.inl rfl))), h.ok⟩
theorem QV.fr0 (h : QV w b bm v s) (hf : Fr No w w') : QV w' b bm v s := h.fr hf (fun _ _ z => z)
theorem QAt.fr (h : QAt w b D s) (hf : Fr S w w') (hS : ∀ k, D k → ¬ S k) : QAt w' b D s := by
  obtain ⟨bm, v, h, rfl⟩ := h
  exact ⟨bm, v, h.fr hf hS, rfl⟩
theorem QAt.fr0 (h : QAt w b D s) (hf : Fr No w w') : QAt w' b D s := h.fr hf (fun _ _ x => x)
theorem QAt.ok (h : QAt w b D s) : s.ok := by obtain ⟨bm, v, h, _⟩ := h; exact h.ok
theorem QV.lt (h : QV w b bm v s) {k : Nat} (hk : dom b bm v k) : k < w.heap.size := by
  rcases hk with rfl | rfl | hk
  · exact h.blk.lt
  · exact h.mp.lt
  · exact (h.own.lt k hk).2
theorem QAt.lt (h : QAt w b D s) {k : Nat} (hk : D k) : k < w.heap.size := by
  obtain ⟨bm, v, h, rfl⟩ := h; exact h.lt hk
theorem QV.cells (h : QV w b bm v s) : w.cell? ⟨b, 0, none⟩ = some v ∧ w.cell? ⟨b, 1, none⟩ = some (.map (some bm)) ∧ w.cell? ⟨b, 2, none⟩ = some (.int .i64 s.size) ∧ w.cell? ⟨b, 3, none⟩ = some (.int .i64 s.ag) ∧ w.cell? ⟨b, 4, none⟩ = some (.int .i64 s.added) := ⟨h.blk.cell 0, h.blk.cell 1, h.blk.cell 2, h.blk.cell 3, h.blk.cell 4⟩
theorem QV.qp (h : QV w b bm v s) : QP w b v s := ⟨h.cells.1, h.cells.2.2.2.1, h.own, h.blk.lt, h.ok⟩
theorem QV.form (h : QV w b bm v s) : ∃ A c, v = .slice A s.l.length c ∧ s.l.length ≤ c := h.qp.form
theorem QV.ne (h : QV w b bm v s) : bm ≠ b ∧ (∀ k, v.ownBlock = some k → k ≠ b) ∧ (∀ k, v.ownBlock = some k → k ≠ bm) := by
  refine ⟨h.mp.cells_ne h.blk, own_blk_ne h.own h.blk (by decide), fun k hk e => ?_⟩
  subst e
  rcases h.own.2 with ⟨rfl, _⟩ | ⟨g, cap, cur, rfl, _, hh, _⟩
  · simp [Value.ownBlock] at hk
  · have : g = k := by simpa [Value.ownBlock] using hk
    subst this
    exact h.mp.cells_ne (g := g) (t := 31) (cs := cur) hh rfl
end

theorem made_any (b bm : Nat) (v : Value) (s : QS) (w : World) (h : QV w b bm v s) : Calls Try.prog 45 #[.pointer (some ⟨b, 0, none⟩)] w fun e w' => e = .returned (.bool true) ∧ w = w' := by
  obtain ⟨c0, c1, c2, c3, c4⟩ := h.cells
  have hm := fun (w : World) m => run_neq_map_nil w 63 3 31 m Try.underlying63
  clear h
  go_enter Try.func45, Try.ntmps45
  go_wp2
  go_ret
  exact ⟨rfl, rfl⟩
theorem Len_any (b bm : Nat) (v : Value) (s : QS) (w : World) (h : QV w b bm v s) : Calls Try.prog 13 #[.pointer (some ⟨b, 0, none⟩)] w fun e w' => e = .returned (.int .i64 s.l.length) ∧ w = w' := by
  obtain ⟨c0, c1, c2, c3, c4⟩ := h.cells
  obtain ⟨A, c, rfl, _⟩ := h.form
  have HV := Lib.hid (made_any b bm _ s w h)
  clear h
  go_enter Try.func13, Try.ntmps13
  go_wp2_with fail
  refine HV.out.mono ?_
  rintro x w1 ⟨rfl, rfl⟩
  go_wp2
  go_ret
  exact ⟨rfl, rfl⟩
def roomV (s : QS) : Int := s.size - s.l.length
theorem Room_any (b bm : Nat) (v : Value) (s : QS) (w : World) (h : QV w b bm v s) : Calls Try.prog 14 #[.pointer (some ⟨b, 0, none⟩)] w fun e w' => e = .returned (.int .i64 (roomV s)) ∧ ∃ q, w' = w.drewN q := by
  obtain ⟨c0, c1, c2, c3, c4⟩ := h.cells
  obtain ⟨A, c, rfl, _⟩ := h.form
  have HV := Lib.hid (made_any b bm _ s w h)
  have hn := h.ok.n
  have hz := h.ok.sz
  have hl := h.ok.lsz
  unfold roomV
  generalize s.l.length = n at *
  generalize s.size = z at *
  have hw : IntKind.i64.wrap (z - (n : Int)) = z - (n : Int) := by simp only [IntKind.wrap_i64]; omega
  clear h hl hz
  go_enter Try.func14, Try.ntmps14
  go_wp2_with fail
  refine HV.out.mono ?_
  rintro x w1 ⟨rfl, rfl⟩
  go_wp2
  go_quiet (fail)
  go_wp2
  go_ret
  exact ⟨rfl, _, rfl⟩
/-- The zero value of an item. -/
theorem zeroI (w : World) : (zeroValue 31).run Try.prog w = .ok (valI IV.zero) w := by kernel_rfl
theorem Has_any (b bm : Nat) (v : Value) (s : QS) (x : Int) (hx : fits x) (w : World) (h : QV w b bm v s) : Calls Try.prog 15 #[.pointer (some ⟨b, 0, none⟩), .int .i64 x] w fun e w' => e = .returned (.bool (hasB s x)) ∧ Fr No w w' := by
  obtain ⟨c0, c1, c2, c3, c4⟩ := h.cells
  have HV := Lib.hid (made_any b bm _ s w h)
  have hl := h.mp.look_ok Try.underlying3 Try.underlying63 (zeroI w) hx
  unfold hasB
  generalize byId s.l x = o at *
  obtain ⟨p, hp⟩ : ∃ p, p = o.getD IV.zero := ⟨_, rfl⟩
  rw [← hp] at hl
  generalize o.isSome = ok at *
  obtain ⟨p1, p2, p3, p4⟩ := p
  unfold valI at hl
  dsimp only at hl
  clear h hp
  go_enter Try.func15, Try.ntmps15
  go_wp2_with fail
  refine HV.out.mono ?_
  rintro x w1 ⟨rfl, rfl⟩
  go_wp2
  go_ret
  exact ⟨rfl, (Fr.refl No _).alloc _⟩
def headV (s : QS) : Int := if s.l = [] then 0 else (s.l.getD 0 IV.zero).id
def headB (s : QS) : Bool := !s.l.isEmpty
theorem Head_any (b bm : Nat) (v : Value) (s : QS) (w : World) (h : QV w b bm v s) : Calls Try.prog 20 #[.pointer (some ⟨b, 0, none⟩)] w fun e w' => e = .returned (.tuple #[.int .i64 (headV s), .bool (headB s)]) ∧ w = w' := by
  obtain ⟨c0, c1, c2, c3, c4⟩ := h.cells
  have HV := Lib.hid (made_any b bm _ s w h)
  obtain ⟨A, c, rfl, hnc⟩ := h.form
  by_cases hl : s.l = []
  · have HV2 := Lib.hid (show headV s = 0 ∧ headB s = false from ⟨by unfold headV; rw [if_pos hl], by unfold headB; rw [hl]; rfl⟩)
    rw [HV2.out.1, HV2.out.2]
    have hz : s.l.length = 0 := by rw [hl]; rfl
    rw [hz] at c0
    clear h hz hl
    go_enter Try.func20, Try.ntmps20
    go_wp2_with fail
    refine HV.out.mono ?_
    rintro x w1 ⟨rfl, rfl⟩
    go_wp2
    go_ret2
    exact ⟨rfl, rfl⟩
  · have hpos : 0 < s.l.length := by
      rcases Nat.eq_zero_or_pos s.l.length with h0 | h0
      · exact absurd (List.eq_nil_of_length_eq_zero h0) hl
      · exact h0
    have HV2 := Lib.hid (show headV s = (s.l.getD 0 IV.zero).id ∧ headB s = true from ⟨by unfold headV; rw [if_neg hl], by unfold headB; cases hs : s.l with | nil => exact absurd hs hl | cons a l => rfl⟩)
    rw [HV2.out.1, HV2.out.2]
    obtain ⟨g, rfl, hg, d0, _, _, _⟩ := h.qp.item hpos
    rw [Nat.zero_mul] at d0
    have hnb : ((s.l.length : Int) == 0) = false := by simp; omega
    have hlen := h.ok.n
    generalize (s.l.getD 0 IV.zero).id = x at *
    generalize s.l.length = n at *
    have hn1 : (0 : Int) < (n : Int) := by omega
    clear h hl
    go_enter Try.func20, Try.ntmps20
    go_wp2_with fail
    refine HV.out.mono ?_
    rintro y w1 ⟨rfl, rfl⟩
    go_wp2
    go_ret2
    exact ⟨rfl, rfl⟩
end Go.Proofs.Ytcjcoigjedcieaa
