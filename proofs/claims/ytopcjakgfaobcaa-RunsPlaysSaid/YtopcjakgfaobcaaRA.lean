/- The document's table: a block that reads as one; its questions. -/
import Derived.Test.YtopcjakgfaobcaaKp
namespace Go.Proofs.Ytopcjakgfaobcaa
open Go.RowKit Go.Wk

/-- The block b is the document's table in state s; its slice is v. -/
structure RTabV (w : World) (b : Nat) (v : Value) (s : TS) : Prop where
  blk : Blk w b 72 #[.bool true, .int .i64 s.size, v, .int .i64 s.last]
  own : w.ownsRow 0 31 5 v s.live.length (rcells s.live)
  ok : s.ok
def RTabAt (w : World) (b : Nat) (D : Nat → Prop) (s : TS) : Prop := ∃ v, RTabV w b v s ∧ D = dom b v
theorem RTabV.fr {S : Nat → Prop} {w w' : World} {b : Nat} {v : Value} {s : TS} (h : RTabV w b v s) (hf : Fr S w w') (hS : ∀ k, dom b v k → ¬ S k) : RTabV w' b v s :=
  ⟨h.blk.fr hf (hS b (.inl rfl)), own_fr h.own hf (fun k hk => hS k (.inr hk)), h.ok⟩
theorem RTabAt.fr {S : Nat → Prop} {w w' : World} {b : Nat} {D : Nat → Prop} {s : TS} (h : RTabAt w b D s) (hf : Fr S w w') (hS : ∀ k, D k → ¬ S k) : RTabAt w' b D s := by
  obtain ⟨v, h, rfl⟩ := h
  exact ⟨v, h.fr hf hS, rfl⟩
theorem RTabAt.fr0 {w w' : World} {b : Nat} {D : Nat → Prop} {s : TS} (h : RTabAt w b D s) (hf : Fr No w w') : RTabAt w' b D s := h.fr hf (fun _ _ x => x)
theorem RTabAt.ok {w : World} {b : Nat} {D : Nat → Prop} {s : TS} (h : RTabAt w b D s) : s.ok := by obtain ⟨v, h, _⟩ := h; exact h.ok
theorem RTabV.lt {w : World} {b : Nat} {v : Value} {s : TS} (h : RTabV w b v s) {k : Nat} (hk : dom b v k) : k < w.heap.size := by
  rcases hk with rfl | hk
  · exact h.blk.lt
  · exact (h.own.lt k hk).2
theorem RTabAt.lt {w : World} {b : Nat} {D : Nat → Prop} {s : TS} (h : RTabAt w b D s) {k : Nat} (hk : D k) : k < w.heap.size := by
  obtain ⟨v, h, rfl⟩ := h
  exact h.lt hk
theorem own_form2 {w : World} {base n : Nat} {v : Value} {l : List RV} (h : w.ownsRow base 31 5 v n (rcells l)) : ∃ A c, v = .slice A n c ∧ n ≤ c ∧ Reads w w.heap.size 5 A n (rcells l) := by
  obtain ⟨A, c, rfl⟩ := own_form' h
  exact ⟨A, c, rfl, row_le h, Reads.of_own h⟩
theorem own_at5 {w : World} {base n c : Nat} {A : Option Addr} {l : List RV} (h : w.ownsRow base 31 5 (.slice A n c) n (rcells l)) {i : Nat} (hi : i < n) : ∃ g, A = some ⟨g, 0, none⟩ ∧ g < w.heap.size ∧
    w.cell? ⟨g, i * 5, none⟩ = some (.int .i64 (l.getD i RV.zero).id) ∧ w.cell? ⟨g, i * 5 + 1, none⟩ = some (.int .i64 (l.getD i RV.zero).job) ∧ w.cell? ⟨g, i * 5 + 2, none⟩ = some (.int .i64 (l.getD i RV.zero).due) ∧
    w.cell? ⟨g, i * 5 + 3, none⟩ = some (.int .i64 (l.getD i RV.zero).att) ∧ w.cell? ⟨g, i * 5 + 4, none⟩ = some (.int .i64 (l.getD i RV.zero).start) := by
  obtain ⟨g, off, hA, hg, _, h0, h1, h2, h3, h4⟩ := reads_run (Reads.of_own h) hi
  obtain ⟨g', cap, hform, _, _⟩ := h.form (by omega)
  injection hform with hf1
  rw [hA] at hf1
  injection hf1 with hf1
  injection hf1 with hf1 hf3
  subst hf1
  subst hf3
  simp only [Nat.zero_add] at h0 h1 h2 h3 h4
  exact ⟨g, hA, hg, h0, h1, h2, h3, h4⟩

theorem rvalid_any (b : Nat) (D : Nat → Prop) (s : TS) (w : World) (h : RTabAt w b D s) : Calls Try.prog 41 #[.pointer (some ⟨b, 0, none⟩)] w fun e w' => e = .returned (.bool true) ∧ w = w' := by
  obtain ⟨v, h, _⟩ := h
  have c0 := h.blk.cell 0
  simp at c0
  clear h
  go_enter Try.func41, Try.ntmps41
  go_wp2
  go_ret
  exact ⟨rfl, rfl⟩
theorem rlen_any (b : Nat) (D : Nat → Prop) (s : TS) (w : World) (h : RTabAt w b D s) : Calls Try.prog 30 #[.pointer (some ⟨b, 0, none⟩)] w fun e w' => e = .returned (.int .i64 s.live.length) ∧ w = w' := by
  have HV := Lib.hid (rvalid_any b D s w h)
  obtain ⟨v, h, _⟩ := h
  obtain ⟨A, c, rfl, _⟩ := own_form2 h.own
  have c1 := h.blk.cell 2
  simp at c1
  clear h
  generalize s.live.length = n at *
  go_enter Try.func30, Try.ntmps30
  go_wp2_with (go_at_call 41; refine HV.out.mono ?_; rintro e w1 ⟨rfl, rfl⟩)
  go_ret
  exact ⟨rfl, rfl⟩
theorem rlast_any (b : Nat) (D : Nat → Prop) (s : TS) (w : World) (h : RTabAt w b D s) : Calls Try.prog 31 #[.pointer (some ⟨b, 0, none⟩)] w fun e w' => e = .returned (.int .i64 s.last) ∧ w = w' := by
  have HV := Lib.hid (rvalid_any b D s w h)
  obtain ⟨v, h, _⟩ := h
  have c1 := h.blk.cell 3
  simp at c1
  clear h
  generalize s.last = n at *
  go_enter Try.func31, Try.ntmps31
  go_wp2_with (go_at_call 41; refine HV.out.mono ?_; rintro e w1 ⟨rfl, rfl⟩)
  go_ret
  exact ⟨rfl, rfl⟩
theorem rnew_bad (n : Int) (w : World) (h : n < 0 ∨ 1000 < n) : Calls Try.prog 25 #[.int .i64 n] w fun e w' => e = .returned (.tuple #[.pointer none, .int .i64 2]) ∧ w = w' := by
  rcases h with h | h
  · go_enter Try.func25, Try.ntmps25
    go_wp2
    go_ret2
    exact ⟨rfl, rfl⟩
  · have h0 : ¬ n < 0 := by omega
    go_enter Try.func25, Try.ntmps25
    go_wp2
    go_ret2
    exact ⟨rfl, rfl⟩
theorem rnew_good (n : Int) (w : World) (h0 : ¬ n < 0) (h1 : ¬ 1000 < n) : Calls Try.prog 25 #[.int .i64 n] w fun e w' => e = .returned (.tuple #[.pointer (some ⟨w.heap.size, 0, none⟩), .int .i64 0]) ∧ RTabAt w' w.heap.size (· = w.heap.size) (.new n) ∧ Fr No w w' := by
  go_enter Try.func25, Try.ntmps25
  go_wp2
  go_ret2
  refine ⟨rfl, ⟨.slice none 0 0, ⟨Blk.new _ _ _, own_nil _ _ _ _, ⟨by show 0 ≤ n; omega, by show n ≤ 1000; omega, by show ((0 : Nat) : Int) ≤ n; omega, List.Pairwise.nil, fun x hx => by simp [TS.new] at hx, fun x hx => by simp [TS.new] at hx, Int.le_refl _, by show (0 : Int) ≤ 1000000; omega⟩⟩, ?_⟩, (Fr.refl _ _).alloc _⟩
  funext k
  simp [dom, Value.ownBlock]

def TS.posI (s : TS) (r : Int) : Int := match s.pos r with | some i => i | none => -1
theorem pos_first {s : TS} {r : Int} {k : Nat} (hk : k < s.live.length) (h : (s.live.getD k RV.zero).id = r) (hj : ∀ j, j < k → (s.live.getD j RV.zero).id ≠ r) : s.pos r = some k := by
  unfold TS.pos
  rw [List.findIdx?_eq_some_iff_getElem]
  refine ⟨hk, by simpa [hk] using h, fun j hjk => ?_⟩
  have := hj j hjk
  simpa [show j < s.live.length by omega] using this
theorem pos_never {s : TS} {r : Int} (hj : ∀ j, j < s.live.length → (s.live.getD j RV.zero).id ≠ r) : s.pos r = none := by
  unfold TS.pos
  rw [List.findIdx?_eq_none_iff]
  intro x hx
  obtain ⟨j, h, rfl⟩ := List.mem_iff_getElem.1 hx
  simpa [h] using hj j h

theorem rat_any (b : Nat) (D : Nat → Prop) (s : TS) (r : Int) (w : World) (h : RTabAt w b D s) : Calls Try.prog 42 #[.pointer (some ⟨b, 0, none⟩), .int .i64 r] w fun e w' => e = .returned (.int .i64 (s.posI r)) ∧ w = w' := by
  have HV := Lib.hid (rvalid_any b D s w h)
  obtain ⟨v, h, _⟩ := h
  obtain ⟨A, c, hv, _⟩ := own_form2 h.own
  subst hv
  have c1 := h.blk.cell 2
  simp at c1
  have HW := Lib.hid h.own
  have hl1 := h.ok.len
  have hl2 := h.ok.s1
  clear h
  obtain ⟨n, hn⟩ : ∃ n, n = s.live.length := ⟨_, rfl⟩
  rw [← hn] at HW hl1 c1
  have HN := Lib.hid hn
  clear hn
  go_enter Try.func42, Try.ntmps42
  go_wp2
  go_loopw [5] (fun i wr => ∃ k : Nat, k ≤ n ∧ i = .int .i64 k ∧ w = wr ∧ Hid (∀ j, j < k → (s.live.getD j RV.zero).id ≠ r)) (fun i _ => n - (intOf i).toNat)
  case atStart => exact ⟨0, Nat.zero_le _, rfl, rfl, Lib.hid (fun j hj => by omega)⟩
  case round =>
    obtain ⟨k, hk, rfl, rfl, HJ⟩ := hrel
    by_cases hlt : k < n
    · obtain ⟨g, rfl, hg, a0, _⟩ := own_at5 HW.out hlt
      obtain ⟨x, hx⟩ : ∃ x, x = (s.live.getD k RV.zero).id := ⟨_, rfl⟩
      rw [← hx] at a0
      have HX := Lib.hid hx
      clear hx
      by_cases he : x = r
      · have HE := Lib.hid he
        go_wp2_with (go_at_call 41; refine HV.out.mono ?_; rintro e w1 ⟨rfl, rfl⟩)
        go_ret
        refine ⟨?_, rfl⟩
        unfold TS.posI
        rw [pos_first (by rw [← HN.out]; exact hlt) (by rw [← HX.out]; exact HE.out) HJ.out]
        rfl
      · have HE := Lib.hid he
        go_wp2_with (go_at_call 41; refine HV.out.mono ?_; rintro e w1 ⟨rfl, rfl⟩)
        go_roundw
        case rel =>
          refine ⟨k + 1, by omega, by go_num, (by trivial), Lib.hid (fun j hj => ?_)⟩
          rcases (show j < k ∨ j = k by omega) with h | h
          · exact HJ.out j h
          · rw [h, ← HX.out]; exact HE.out
        case measure => simp [intOf]; omega
    · go_wp2_with (go_at_call 41; refine HV.out.mono ?_; rintro e w1 ⟨rfl, rfl⟩)
      go_ret
      refine ⟨?_, rfl⟩
      unfold TS.posI
      rw [pos_never (fun j hj => HJ.out j (by rw [← HN.out] at hj; omega))]
      rfl

theorem rcount_any (b : Nat) (D : Nat → Prop) (s : TS) (job : Int) (w : World) (h : RTabAt w b D s) : Calls Try.prog 32 #[.pointer (some ⟨b, 0, none⟩), .int .i64 job] w fun e w' => e = .returned (.int .i64 (cntJ job s.live)) ∧ w = w' := by
  have HV := Lib.hid (rvalid_any b D s w h)
  obtain ⟨v, h, _⟩ := h
  obtain ⟨A, c, hv, _⟩ := own_form2 h.own
  subst hv
  have c1 := h.blk.cell 2
  simp at c1
  have HW := Lib.hid h.own
  have hl1 := h.ok.len
  have hl2 := h.ok.s1
  clear h
  obtain ⟨n, hn⟩ : ∃ n, n = s.live.length := ⟨_, rfl⟩
  rw [← hn] at HW hl1 c1
  have HN := Lib.hid hn
  clear hn
  go_enter Try.func32, Try.ntmps32
  go_wp2
  go_loopw [5, 6] (fun q i wr => ∃ k : Nat, k ≤ n ∧ i = .int .i64 k ∧ w = wr ∧ q = .int .i64 (cntJ job (s.live.take k))) (fun _ i _ => n - (intOf i).toNat)
  case atStart => exact ⟨0, Nat.zero_le _, rfl, rfl, rfl⟩
  case round =>
    obtain ⟨k, hk, rfl, rfl, rfl⟩ := hrel
    by_cases hlt : k < n
    · obtain ⟨g, rfl, hg, _, a1, _⟩ := own_at5 HW.out hlt
      have HS := Lib.hid (cntJ_succ (job := job) (l := s.live) (i := k) (by rw [← HN.out]; exact hlt))
      have hc := cntJ_take_le job s.live k
      rw [← HN.out] at hc
      obtain ⟨hc1, hc2⟩ := hc
      generalize s.live.getD k RV.zero = x at *
      generalize cntJ job (s.live.take k) = q at *
      by_cases he : x.job = job
      · rw [if_pos he] at HS
        go_wp2_with (go_at_call 41; refine HV.out.mono ?_; rintro e w1 ⟨rfl, rfl⟩)
        go_roundw
        case rel => exact ⟨k + 1, by omega, by go_num, (by trivial), vi HS.out.symm⟩
        case measure => simp [intOf]; omega
      · rw [if_neg he, Int.add_zero] at HS
        go_wp2_with (go_at_call 41; refine HV.out.mono ?_; rintro e w1 ⟨rfl, rfl⟩)
        go_roundw
        case rel => exact ⟨k + 1, by omega, by go_num, (by trivial), vi HS.out.symm⟩
        case measure => simp [intOf]; omega
    · rw [show s.live.take k = s.live from List.take_of_length_le (by rw [← HN.out]; omega)]
      go_wp2_with (go_at_call 41; refine HV.out.mono ?_; rintro e w1 ⟨rfl, rfl⟩)
      go_ret
      exact ⟨rfl, rfl⟩
end Go.Proofs.Ytopcjakgfaobcaa
