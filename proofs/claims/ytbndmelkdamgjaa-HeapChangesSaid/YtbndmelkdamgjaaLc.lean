/- slices.Delete, Grow, Concat at numbers of the call's own; an entry put behind those that are equal. -/
import Derived.Test.YtbndmelkdamgjaaDel
import Derived.Lib.AppendZeros
namespace Go.Proofs.Ytbndmelkdamgjaa.So
open Go.RowKit Go.Wk

theorem own_up {w : World} {base n size : Nat} {v : Value} {e : TypeId} {xs : List Value} (h : w.ownsRow 0 e size v n xs) (hb : ∀ k, v.ownBlock = some k → base ≤ k) : w.ownsRow base e size v n xs := by
  refine ⟨h.1, ?_⟩
  rcases h.2 with h2 | ⟨g, cap, cur, h1, h2, h3⟩
  · exact .inl h2
  · exact .inr ⟨g, cap, cur, h1, hb g (by rw [h1]; rfl), h3⟩
theorem delL_cells (l : List Int) (i j : Nat) : delL (cells .i64 l) i j = cells .i64 (l.take i ++ l.drop j) := by simp [delL, cells, List.map_take, List.map_drop]
/-- Delete of one element of a row of the call's own. -/
theorem del_one (A : Option Addr) (n c i base : Nat) (l : List Int) (w : World) (ho : w.ownsRow base 3 1 (.slice A n c) n (cells .i64 l)) (hi : i < n) (hn : n ≤ 100000) :
    Calls Try.prog 51 #[.slice A n c, .int .i64 i, .int .i64 ((i : Int) + 1)] w fun e w' => e = .returned (.slice A (n - 1) c) ∧ w'.ownsRow base 3 1 (.slice A (n - 1) c) (n - 1) (cells .i64 (l.eraseIdx i)) ∧ Fr (BlkOf (.slice A n c)) w w' := by
  have hll : (cells .i64 l).length = n := by have := ho.1; omega
  obtain ⟨g, q, he, hg⟩ := own_some ho (by omega)
  cases he
  have hbb : ∀ k, (Value.slice (some ⟨g, 0, none⟩) (n - 1) c).ownBlock = some k → base ≤ k := fun k hk => by
    have : g = k := by simpa [Value.ownBlock] using hk
    omega
  rcases ho.2 with ⟨h1, _⟩ | ⟨g', cap, cur, h1, _, hb, hnc, hcm, hcs, htk⟩
  · cases h1
  · injection h1 with h1 _ h2
    cases h1
    subst h2
    have := del_some g n c i (i + 1) l w cur hb (by omega) (fun k hk => by rw [← htk, List.getElem?_take, if_pos (by omega), Array.getElem?_toList]) hll (by omega) (by omega) hnc hcm hn
    rw [show i + (n - (i + 1)) = n - 1 by omega, delL_cells, ← List.eraseIdx_eq_take_drop_succ] at this
    refine this.mono ?_
    rintro e w' ⟨rfl, h3, h4⟩
    exact ⟨rfl, own_up h3 hbb, h4.mono (fun k hk => hk)⟩
set_option maxRecDepth 100000 in
/-- slices.Grow of nil. -/
theorem grow_any (n : Nat) (w : World) (hn : n ≤ 1000000) : Calls Try.prog 80 #[.slice none 0 0, .int .i64 n] w fun x w' => ∃ A c, x = .returned (.slice A 0 c) ∧ w'.ownsRow w.heap.size 3 1 (.slice A 0 c) 0 [] ∧ Fr No w w' := by
  rcases Nat.eq_zero_or_pos n with h0 | h0
  · subst h0
    go_enter Try.func80, Try.ntmps80
    go_wp2
    go_ret
    exact ⟨none, 0, rfl, own_nil _ _ _ _, Fr.refl _ _⟩
  · obtain ⟨i0, hi, hz0, hz1, hz2⟩ : ∃ i, Try.prog.info? 3 = some i ∧ i.zero = some (.int .i64 0) ∧ i.size = 1 ∧ i.bytes = 8 := ⟨_, rfl, rfl, rfl, rfl⟩
    have hrun := fun W ty => Lib.run_append_nil_zeros (P := Try.prog) W 39 3 ty 3 i0 _ .i64 .i64 Try.underlying39 Try.underlying3 hi hz0 n h0 (by omega) (by omega) (by rw [hz2]; omega)
    have hn1 : (0 : Int) < (n : Int) := by omega
    go_enter Try.func80, Try.ntmps80
    go_wp2_with (at_builtin; refine Lib.wpList_append_run _ rfl _ _ _ _ rfl _ _ rfl rfl _ _ (hrun _ _) ?_)
    go_ret
    have hc1 := grownCap_ge w n 0 3
    have hc2 := grownCap_le_maxLen w n 0 3 (by unfold maxLen; omega)
    exact ⟨_, _, rfl, ⟨rfl, .inr ⟨_, _, _, rfl, Nat.le_refl _, (Blk.new w 3 _).drew, Nat.zero_le _, hc2, by rw [Array.size_append, size_zeroCells, size_zeroCells]; simp; omega, by simp⟩⟩, ((Fr.refl No w).alloc _).drew⟩
/-- What Concat leaves. -/
def CatR (w : World) (n : Nat) (l : List Int) (x : Ending) (w' : World) : Prop := ∃ A c, x = .returned (.slice A n c) ∧ w'.ownsRow w.heap.size 3 1 (.slice A n c) n (cells .i64 l) ∧ Fr No w w'
set_option maxRecDepth 100000 in
set_option maxHeartbeats 4000000 in
theorem concat_any (gb : Nat) (A A' A'' : Option Addr) (n c n' c' n'' c'' : Nat) (l l' l'' : List Int) (w : World) (hb : Blk w gb 39 #[.slice A n c, .slice A' n' c', .slice A'' n'' c'']) (h : Reads w w.heap.size 1 A n (l.map (Value.int .i64))) (h' : Reads w w.heap.size 1 A' n' (l'.map (Value.int .i64))) (h'' : Reads w w.heap.size 1 A'' n'' (l''.map (Value.int .i64))) (hn : n ≤ 10000) (hn' : n' ≤ 10000) (hn'' : n'' ≤ 10000) :
    Calls Try.prog 52 #[.slice (some ⟨gb, 0, none⟩) 3 3] w fun x w' => CatR w (n + n' + n'') (l ++ l' ++ l'') x w' := by
  obtain ⟨i0, hi, hz0, hz1, hz2⟩ : ∃ i, Try.prog.info? 3 = some i ∧ i.zero = some (.int .i64 0) ∧ i.size = 1 ∧ i.bytes = 8 := ⟨_, rfl, rfl, rfl, rfl⟩
  have HR := Lib.hid h
  have HR' := Lib.hid h'
  have HR'' := Lib.hid h''
  obtain ⟨s0, s1, s2⟩ := (show w.cell? ⟨gb, 0, none⟩ = some (.slice A n c) ∧ w.cell? ⟨gb, 1, none⟩ = some (.slice A' n' c') ∧ w.cell? ⟨gb, 2, none⟩ = some (.slice A'' n'' c'') from ⟨hb.cell 0, hb.cell 1, hb.cell 2⟩)
  have HB := Lib.hid hb
  have hone : ∀ q : List Int, ∀ u ∈ q.map (Value.int .i64), u.oneCell' = true := fun q u hu => by
    obtain ⟨z, _, rfl⟩ := List.mem_map.1 hu; rfl
  have HONE := Lib.hid hone
  clear h h' h'' hb hone
  go_enter Try.func52, Try.ntmps52
  go_wp2
  go_loopw [3, 11] (fun sz i wr => w = wr ∧ ((i = .int .i64 0 ∧ sz = .int .i64 0) ∨ (i = .int .i64 1 ∧ sz = .int .i64 n) ∨ (i = .int .i64 2 ∧ sz = .int .i64 ((n + n' : Nat) : Int)) ∨ (i = .int .i64 3 ∧ sz = .int .i64 ((n + n' + n'' : Nat) : Int)))) (fun _ i _ => 3 - (intOf i).toNat)
  case atStart => exact ⟨rfl, .inl ⟨rfl, rfl⟩⟩
  case round =>
    obtain ⟨rfl, ⟨rfl, rfl⟩ | ⟨rfl, rfl⟩ | ⟨rfl, rfl⟩ | ⟨rfl, rfl⟩⟩ := hrel
    · go_wp2
      go_roundw
      case rel => exact ⟨(by trivial), .inr (.inl ⟨rfl, by go_num⟩)⟩
      case measure => simp [intOf]
    · go_wp2
      go_roundw
      case rel => exact ⟨(by trivial), .inr (.inr (.inl ⟨rfl, by go_num⟩))⟩
      case measure => simp [intOf]
    · go_wp2
      go_roundw
      case rel => exact ⟨(by trivial), .inr (.inr (.inr ⟨rfl, by go_num⟩))⟩
      case measure => simp [intOf]
    · go_wp2_with fail
      refine (grow_any (n + n' + n'') _ (by omega)).mono ?_
      rintro x w1 ⟨G, gc, rfl, ho, hf⟩
      have HO := Lib.hid ho
      have HF := Lib.hid hf
      clear ho hf s0 s1 s2
      go_wp2
      go_loopw [6, 27] (fun v i wr => ∃ (k : Nat) (m : Nat) (ls : List Int), i = .int .i64 k ∧ k ≤ 3 ∧ Hid ((k = 0 ∧ m = 0 ∧ ls = []) ∨ (k = 1 ∧ m = n ∧ ls = l) ∨ (k = 2 ∧ m = n + n' ∧ ls = l ++ l') ∨ (k = 3 ∧ m = n + n' + n'' ∧ ls = l ++ l' ++ l'')) ∧ Hid (wr.ownsRow w.heap.size 3 1 v m (ls.map (Value.int .i64))) ∧ Hid (Fr No w wr)) (fun _ i _ => 3 - (intOf i).toNat)
      case atStart => exact ⟨0, 0, [], rfl, by omega, Lib.hid (.inl ⟨rfl, rfl, rfl⟩), HO, HF⟩
      case round =>
        clear HO HF
        obtain ⟨k, m, ls, rfl, hk, HC, HO, HF⟩ := hrel
        obtain ⟨G2, gc2, rfl⟩ := own_form' HO.out
        obtain ⟨t0, t1, t2⟩ := (show wr.cell? ⟨gb, 0, none⟩ = some (.slice A n c) ∧ wr.cell? ⟨gb, 1, none⟩ = some (.slice A' n' c') ∧ wr.cell? ⟨gb, 2, none⟩ = some (.slice A'' n'' c'') from ⟨(HB.out.fr HF.out (fun x => x)).cell 0, (HB.out.fr HF.out (fun x => x)).cell 1, (HB.out.fr HF.out (fun x => x)).cell 2⟩)
        have R1 := Lib.hid (HR.out.fr0 HF.out)
        have R2 := Lib.hid (HR'.out.fr0 HF.out)
        have R3 := Lib.hid (HR''.out.fr0 HF.out)
        have HSZ := Lib.hid HF.out.size
        rcases HC.out with ⟨rfl, rfl, rfl⟩ | ⟨rfl, rfl, rfl⟩ | ⟨rfl, rfl, rfl⟩ | ⟨rfl, rfl, rfl⟩
        · go_wp2_with (at_builtin; refine wpList_append_any _ rfl (.tmp 31) (.tmp 32) 39 rfl w.heap.size 3 i0 (.int .i64 0) 1 8 Try.underlying39 hi hz0 hz1 hz2 rfl (by omega) (.slice G2 _ gc2) _ _ rfl HO.out _ A n c (l.map (Value.int .i64)) rfl R1.out (HONE.out _) (by unfold maxLen; omega) (by omega) HSZ.out ?_)
          intro v' w2 hown2 hg2 hloc2
          go_wp2
          go_roundw
          case rel => exact ⟨1, n, l, rfl, by omega, Lib.hid (.inr (.inl ⟨rfl, rfl, rfl⟩)), Lib.hid (by simpa using hown2), Lib.hid (HF.out.ownS (Fr.of_grown (S := fun b => w.heap.size ≤ b) hg2 (fun k hk => (HO.out.lt k hk).1)) (fun _ x => x))⟩
          case measure => simp [intOf]
        · go_wp2_with (at_builtin; refine wpList_append_any _ rfl (.tmp 31) (.tmp 32) 39 rfl w.heap.size 3 i0 (.int .i64 0) 1 8 Try.underlying39 hi hz0 hz1 hz2 rfl (by omega) (.slice G2 _ gc2) _ _ rfl HO.out _ A' n' c' (l'.map (Value.int .i64)) rfl R2.out (HONE.out _) (by unfold maxLen; omega) (by omega) HSZ.out ?_)
          intro v' w2 hown2 hg2 hloc2
          go_wp2
          go_roundw
          case rel => exact ⟨2, m + n', ls ++ l', rfl, by omega, Lib.hid (.inr (.inr (.inl ⟨rfl, rfl, rfl⟩))), Lib.hid (by rw [List.map_append]; exact hown2), Lib.hid (HF.out.ownS (Fr.of_grown (S := fun b => w.heap.size ≤ b) hg2 (fun k hk => (HO.out.lt k hk).1)) (fun _ x => x))⟩
          case measure => simp [intOf]
        · go_wp2_with (at_builtin; refine wpList_append_any _ rfl (.tmp 31) (.tmp 32) 39 rfl w.heap.size 3 i0 (.int .i64 0) 1 8 Try.underlying39 hi hz0 hz1 hz2 rfl (by omega) (.slice G2 _ gc2) _ _ rfl HO.out _ A'' n'' c'' (l''.map (Value.int .i64)) rfl R3.out (HONE.out _) (by unfold maxLen; omega) (by omega) HSZ.out ?_)
          intro v' w2 hown2 hg2 hloc2
          go_wp2
          go_roundw
          case rel => exact ⟨3, n + n' + n'', l ++ l' ++ l'', rfl, by omega, Lib.hid (.inr (.inr (.inr ⟨rfl, rfl, rfl⟩))), Lib.hid (by simpa using hown2), Lib.hid (HF.out.ownS (Fr.of_grown (S := fun b => w.heap.size ≤ b) hg2 (fun k hk => (HO.out.lt k hk).1)) (fun _ x => x))⟩
          case measure => simp [intOf]
        · go_wp2
          go_ret
          exact ⟨G2, gc2, rfl, by have := HO.out; simpa [cells] using this, HF.out⟩
/-- An entry goes behind those that come before it. -/
theorem ins_split {bf : Int → Int → Bool} (e : En Int) : ∀ (l1 l2 : List (En Int)), (∀ x ∈ l1, fst bf x e = true) → (∀ x t, l2 = x :: t → fst bf x e = false) → ins bf e (l1 ++ l2) = l1 ++ e :: l2
  | [], [], _, _ => rfl
  | [], x :: t, _, h => by
    have := h x t rfl
    simp [ins, this]
  | a :: l1, l2, h1, h2 => by
    rw [List.cons_append]
    unfold ins
    rw [if_pos (h1 a (List.mem_cons_self ..)), ins_split e l1 l2 (fun x hx => h1 x (List.mem_cons_of_mem _ hx)) h2]
    rfl
theorem ids_app (a b : List (En Int)) : ids (a ++ b) = ids a ++ ids b := by simp [ids]
end Go.Proofs.Ytbndmelkdamgjaa.So
