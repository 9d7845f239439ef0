/- The document's caps: New. -/
import Derived.Test.YtjgjbjigghfnbaaRefC
namespace Go.Proofs.Ytjgjbjigghfnbaa
open Go.RowKit Go.Wk

theorem beyondB_iff (x : Int) : beyondB x = true ↔ x < 0 ∨ 1000 < x := by simp [beyondB]
theorem beyondB_not (x : Int) : beyondB x = false ↔ 0 ≤ x ∧ x ≤ 1000 := by simp [beyondB]

theorem rnew_bad (all : Int) (A : Option Addr) (n c B : Nat) (xs : List Int) (w : World) (hn : n ≤ 9223372036854775807) (h : Reads w B 1 A n (xs.map (Value.int .i64)))
    (hbad : beyondB all = true ∨ 64 < n ∨ xs.any beyondB = true) :
    Calls Try.prog 19 #[.int .i64 all, .slice A n c] w fun e w' => e = .returned (.tuple #[.pointer none, .int .i64 2]) ∧ w = w' := by
  have HR := Lib.hid h
  have HA := Lib.hid h.length_ints
  clear h
  by_cases h1 : beyondB all = true
  · rcases (beyondB_iff all).1 h1 with h1 | h1
    · clear hbad
      go_enter Try.func19, Try.ntmps19
      go_wp2
      go_ret2
      exact ⟨rfl, rfl⟩
    · clear hbad
      have h2 : ¬ all < 0 := by omega
      go_enter Try.func19, Try.ntmps19
      go_wp2
      go_ret2
      exact ⟨rfl, rfl⟩
  · have hg := (beyondB_not all).1 (by simpa using h1)
    have hg1 : ¬ all < 0 := by omega
    have hg2 : ¬ 1000 < all := by omega
    by_cases h2 : 64 < n
    · clear hbad
      go_enter Try.func19, Try.ntmps19
      go_wp2
      go_ret2
      exact ⟨rfl, rfl⟩
    · have H3 := Lib.hid (show xs.any beyondB = true by simpa [h1, h2] using hbad)
      clear h1 hbad
      go_enter Try.func19, Try.ntmps19
      go_wp2
      go_loop [6] (fun i => ∃ k : Nat, k ≤ n ∧ i = .int .i64 k ∧ Hid (∀ j, j < k → beyondB (xs.getD j 0) = false)) (fun i => n - (intOf i).toNat)
      case atStart => exact ⟨0, Nat.zero_le _, rfl, fun j h => by omega⟩
      case round =>
        obtain ⟨k, hk, rfl, hbe⟩ := hrel
        by_cases hlt : k < n
        · obtain ⟨b, off, rfl, _, hc⟩ := HR.out.int_at hlt
          have HY := Lib.hid (show ∀ y, xs.getD k 0 = y → y < 0 ∨ 1000 < y ∨ (¬ y < 0 ∧ ¬ 1000 < y) from fun y _ => by omega)
          obtain ⟨y, hy⟩ : ∃ y, xs.getD k 0 = y := ⟨_, rfl⟩
          rw [hy] at hc
          have hyy := HY.out y hy
          clear HY
          have HYY := Lib.hid hy
          clear hy
          rcases hyy with hyy | hyy | ⟨hy1, hy2⟩
          · go_wp2
            go_ret2
            exact ⟨rfl, rfl⟩
          · have hy1 : ¬ y < 0 := by omega
            go_wp2
            go_ret2
            exact ⟨rfl, rfl⟩
          · go_wp2
            go_round
            case rel =>
              refine ⟨k + 1, by omega, by go_num, fun j hj => ?_⟩
              rcases Nat.lt_or_ge j k with h1 | h1
              · exact hbe j h1
              · obtain rfl : j = k := by omega
                rw [HYY.out]
                exact (beyondB_not y).2 ⟨by omega, by omega⟩
            case measure => simp [intOf]; omega
        · exfalso
          have hl := HA.out
          have h3 := H3.out
          rw [List.any_eq_true] at h3
          obtain ⟨x, hx, hb⟩ := h3
          obtain ⟨j, hj, rfl⟩ := List.mem_iff_getElem.1 hx
          have := hbe j (by omega)
          rw [show xs.getD j 0 = xs[j] by simp [hj], hb] at this
          cases this

theorem fresh_most (all : Int) (xs : List Int) : (CS.fresh all xs).most.take xs.length = xs := by simp [CS.fresh]
theorem fresh_runs (all : Int) (xs : List Int) (h : xs.length ≤ 64) : (CS.fresh all xs).runs.take xs.length = List.replicate xs.length 0 := by
  show (List.replicate 64 (0 : Int)).take xs.length = _
  rw [List.take_replicate, Nat.min_eq_left h]

theorem rnew_end {w : World} {all : Int} {xs : List Int} {b base g q n : Nat} {A : Option Addr} (hok : (CS.fresh all xs).ok) (hn : n = xs.length) (hl : n ≤ 64)
    (hb : Blk w b 65 #[.bool true, .int .i64 all, .slice A n q, .slice (some ⟨g, 0, none⟩) n n]) (hM : Blk w g 3 (cells .i64 (List.replicate n 0)).toArray)
    (hown : w.ownsRow base 3 1 (.slice A n q) n (cells .i64 xs)) (hap : (Value.slice A n q).ownBlock ≠ some g) (hg : base ≤ g) (hbase : base ≤ b) :
    ∃ e r, base ≤ e ∧ base ≤ r ∧ e < w.heap.size ∧ r < w.heap.size ∧ RefAt w b e r (.fresh all xs) := by
  subst hn
  have h2 := Blk.own (base := base) hM hg (by simp [cells, maxLen]; omega)
  rw [show (cells .i64 (List.replicate xs.length 0)).length = xs.length by simp [cells]] at h2
  refine RefAt.mk_own (s := .fresh all xs) hb ?_ ?_ (fun k hk h => ?_) hok (fun j _ => CS.fresh_r _ _ _) hbase
  · show w.ownsRow base 3 1 _ xs.length _
    rw [show (CS.fresh all xs).jobs = xs.length from rfl, fresh_most]
    exact hown
  · rw [show (CS.fresh all xs).jobs = xs.length from rfl, fresh_runs all xs hl]
    exact h2
  · have hkg : k = g := by simpa [Value.ownBlock] using h.symm
    subst hkg
    exact hap hk

/-- What the document's New leaves. -/
def RNew (w : World) (s : CS) (x : Ending) (w' : World) : Prop := ∃ b' e' r', x = .returned (.tuple #[.pointer (some ⟨b', 0, none⟩), .int .i64 0]) ∧ w.heap.size ≤ b' ∧ w.heap.size ≤ e' ∧ w.heap.size ≤ r' ∧ e' < w'.heap.size ∧ r' < w'.heap.size ∧ RefAt w' b' e' r' s ∧ Fr No w w'

theorem rnew_good (all : Int) (A : Option Addr) (c B : Nat) (xs : List Int) (w : World) (h : Reads w B 1 A xs.length (xs.map (Value.int .i64))) (hB : B ≤ w.heap.size)
    (h1 : beyondB all = false) (h2 : xs.length ≤ 64) (h3 : xs.any beyondB = false) :
    Calls Try.prog 19 #[.int .i64 all, .slice A xs.length c] w fun x w' => RNew w (.fresh all xs) x w' := by
  have HR := Lib.hid h
  have HF := Lib.hid (CS.fresh_ok all xs h2 h1 h3)
  have hg := (beyondB_not all).1 h1
  have hg1 : ¬ all < 0 := by omega
  have hg2 : ¬ 1000 < all := by omega
  have H3 := Lib.hid (fun j => (show 0 ≤ xs.getD j 0 ∧ xs.getD j 0 ≤ 1000 from by
    rcases Nat.lt_or_ge j xs.length with hj | hj
    · have := List.any_eq_false.1 h3 xs[j] (List.getElem_mem hj)
      rw [show xs.getD j 0 = xs[j] by simp [hj]]
      exact (beyondB_not _).1 (by simpa using this)
    · simp [List.getElem?_eq_none hj]))
  clear h h1 h3
  obtain ⟨i0, hi, hz0, hz1, hz2⟩ : ∃ i, Try.prog.info? 3 = some i ∧ i.zero = some (.int .i64 0) ∧ i.size = 1 ∧ i.bytes = 8 := ⟨_, rfl, rfl, rfl, rfl⟩
  obtain ⟨n, hn⟩ : ∃ n, n = xs.length := ⟨_, rfl⟩
  rw [← hn] at HR h2 ⊢
  have HN := Lib.hid hn
  clear hn
  have info3 : (Try.prog.info? 3).map (fun i => (i.zero, i.size, i.bytes)) = some (some (.int .i64 0), 1, 8) := by kernel_rfl
  have hmk := fun w => run_make_row' (P := Try.prog) 24 3 (.int .i64 0) 8 Try.underlying24 info3 rfl .i64 .i64 n (by omega) (by omega) w
  clear info3
  obtain ⟨M, hM⟩ : ∃ M, M = Obj.cells (madeCells #[.int .i64 0] n) 3 := ⟨_, rfl⟩
  rw [← hM] at hmk
  have HM := Lib.hid (show M = Obj.cells (cells .i64 (List.replicate n 0)).toArray 3 by
    rw [hM, ← madeCells_int]; simp [Value.cells])
  clear hM
  have R0 := HR.out.more hB
  have o1 : ((w.alloc (.cells #[] 3)).drew).ownsRow w.heap.size 3 1 (.slice (some ⟨w.heap.size, 0, none⟩) 0 0) 0 [] := Blk.own (xs := []) (Blk.new w 3 #[]) (Nat.le_refl _) (Nat.zero_le _)
  have o2 : (((w.alloc (.cells #[] 3)).alloc M).drew).ownsRow w.heap.size 3 1 (.slice (some ⟨w.heap.size, 0, none⟩) 0 0) 0 [] := Blk.own (xs := []) ((Blk.new w 3 #[]).alloc M) (Nat.le_refl _) (Nat.zero_le _)
  have o3 : (((w.alloc M).alloc (.cells #[] 3)).drew).ownsRow w.heap.size 3 1 (.slice (some ⟨w.heap.size + 1, 0, none⟩) 0 0) 0 [] := Blk.own (xs := []) (by have := Blk.new (w.alloc M) 3 #[]; rw [World.size_alloc] at this; exact this) (Nat.le_succ _) (Nat.zero_le _)
  have r1 : Reads ((w.alloc (.cells #[] 3)).drew) w.heap.size 1 A n (cells .i64 xs) := R0.alloc (Nat.le_refl _) _
  have r2 : Reads (((w.alloc (.cells #[] 3)).alloc M).drew) w.heap.size 1 A n (cells .i64 xs) := (R0.alloc (Nat.le_refl _) _).alloc (by simp) _
  have r3 : Reads (((w.alloc M).alloc (.cells #[] 3)).drew) w.heap.size 1 A n (cells .i64 xs) := (R0.alloc (Nat.le_refl _) _).alloc (by simp) _
  have s1 : w.heap.size ≤ ((w.alloc (.cells #[] 3)).drew).heap.size := by show _ ≤ (w.alloc _).heap.size; simp
  have s2 : w.heap.size ≤ (((w.alloc (.cells #[] 3)).alloc M).drew).heap.size := by show _ ≤ ((w.alloc _).alloc _).heap.size; simp; omega
  have s3 : w.heap.size ≤ (((w.alloc M).alloc (.cells #[] 3)).drew).heap.size := by show _ ≤ ((w.alloc _).alloc _).heap.size; simp; omega
  have m2 : Blk (((w.alloc (.cells #[] 3)).alloc M).drew) (w.heap.size + 1) 3 (cells .i64 (List.replicate n 0)).toArray := by
    rw [HM.out]
    have := Blk.new (w.alloc (.cells #[] 3)) 3 (cells .i64 (List.replicate n 0)).toArray
    rw [World.size_alloc] at this; exact this
  have m3 : Blk (((w.alloc M).alloc (.cells #[] 3)).drew) w.heap.size 3 (cells .i64 (List.replicate n 0)).toArray := by
    rw [HM.out]
    exact (Blk.new w 3 _).alloc _
  have O1 := Lib.hid o1; have O2 := Lib.hid o2; have O3 := Lib.hid o3
  have R1 := Lib.hid r1; have R2 := Lib.hid r2; have R3 := Lib.hid r3
  have S1 := Lib.hid s1; have S2 := Lib.hid s2; have S3 := Lib.hid s3
  have M2 := Lib.hid m2; have M3 := Lib.hid m3
  have HB1 := Lib.hid (show (0 + n) * 8 ≤ 140737488355328 by omega)
  have HB0 := Lib.hid (show 0 + n ≤ maxLen by unfold maxLen; omega)
  clear o1 o2 o3 r1 r2 r3 s1 s2 s3 m2 m3 R0
  go_enter Try.func19, Try.ntmps19
  go_wp2
  go_loop [6] (fun i => ∃ k : Nat, k ≤ n ∧ i = .int .i64 k) (fun i => n - (intOf i).toNat)
  case atStart => exact ⟨0, Nat.zero_le _, rfl⟩
  case round =>
    obtain ⟨k, hk, rfl⟩ := hrel
    by_cases hlt : k < n
    · obtain ⟨b, off, rfl, _, hc⟩ := HR.out.int_at hlt
      have hy0 := H3.out k
      generalize xs.getD k 0 = y at *
      have hy1 : ¬ y < 0 := by omega
      have hy2 : ¬ 1000 < y := by omega
      go_wp2
      go_round
      case rel => exact ⟨k + 1, by omega, by go_num⟩
      case measure => simp [intOf]; omega
    · go_wp2_with fail
      go_region_law (first
        | (refine step_append_any ((w.alloc (.cells #[] 3)).drew) rfl (.tmp 37) (.tmp 38) 24 rfl w.heap.size 3 i0 (.int .i64 0) 1 8 Try.underlying24 hi hz0 hz1 hz2 rfl (by omega) (.slice (some ⟨w.heap.size, 0, none⟩) 0 0) 0 [] (by simp [Act.eval]) O1.out w.heap.size A n c (cells .i64 xs) (by simp [Act.eval]) R1.out (cells_one _) HB0.out HB1.out S1.out ?_; intro v' w2 hown2 hg2 hloc2; obtain ⟨A2, q2, rfl, _, _, _⟩ := Reads.of_cells hown2 (Nat.le_refl _); have F2 : Fr No w w2 := ((Fr.refl No w).alloc (.cells #[] 3)).drew.own (Fr.of_grown (S := (· = w.heap.size)) hg2 (fun k hk => by simpa [Value.ownBlock] using hk.symm)) (Nat.le_refl _); have CASE := Lib.hid (show 1 = 1 from rfl))
        | (refine step_append_any (((w.alloc (.cells #[] 3)).alloc M).drew) rfl (.tmp 37) (.tmp 38) 24 rfl w.heap.size 3 i0 (.int .i64 0) 1 8 Try.underlying24 hi hz0 hz1 hz2 rfl (by omega) (.slice (some ⟨w.heap.size, 0, none⟩) 0 0) 0 [] (by simp [Act.eval]) O2.out w.heap.size A n c (cells .i64 xs) (by simp [Act.eval]) R2.out (cells_one _) HB0.out HB1.out S2.out ?_; intro v' w2 hown2 hg2 hloc2; obtain ⟨A2, q2, rfl, _, _, _⟩ := Reads.of_cells hown2 (Nat.le_refl _); have G2 := Fr.of_grown (S := (· = w.heap.size)) hg2 (fun k hk => by simpa [Value.ownBlock] using hk.symm); have F2 : Fr No w w2 := (((Fr.refl No w).alloc (.cells #[] 3)).alloc M).drew.own G2 (Nat.le_refl _); have CASE := Lib.hid (M2.out.fr G2 (by omega)))
        | (refine step_append_any (((w.alloc M).alloc (.cells #[] 3)).drew) rfl (.tmp 37) (.tmp 38) 24 rfl w.heap.size 3 i0 (.int .i64 0) 1 8 Try.underlying24 hi hz0 hz1 hz2 rfl (by omega) (.slice (some ⟨w.heap.size + 1, 0, none⟩) 0 0) 0 [] (by simp [Act.eval]) O3.out w.heap.size A n c (cells .i64 xs) (by simp [Act.eval]) R3.out (cells_one _) HB0.out HB1.out S3.out ?_; intro v' w2 hown2 hg2 hloc2; obtain ⟨A2, q2, rfl, _, _, _⟩ := Reads.of_cells hown2 (Nat.le_refl _); have G2 := Fr.of_grown (S := (· = w.heap.size + 1)) hg2 (fun k hk => by simpa [Value.ownBlock] using hk.symm); have F2 : Fr No w w2 := (((Fr.refl No w).alloc M).alloc (.cells #[] 3)).drew.own G2 (Nat.le_succ _); have CASE := Lib.hid (M3.out.fr G2 (by omega))))
      all_goals go_wp2
      all_goals go_ret2
      all_goals rw [Nat.zero_add, List.nil_append] at hown2
      all_goals rw [Nat.zero_add] at hloc2
      all_goals have hsz := F2.size
      all_goals have l2 := h2
      · obtain ⟨e', r', h1, h2, h3, h4, hR⟩ := rnew_end (w := (w2.alloc M).alloc (.cells #[.bool true, .int .i64 all, .slice A2 n q2, .slice (some ⟨w2.heap.size, 0, none⟩) n n] 65)) (base := w.heap.size) (b := w2.heap.size + 1) (g := w2.heap.size) HF.out HN.out l2
          (by have := Blk.new (w2.alloc M) 65 #[.bool true, .int .i64 all, .slice A2 n q2, .slice (some ⟨w2.heap.size, 0, none⟩) n n]; rw [World.size_alloc] at this; exact this)
          (by rw [HM.out]; exact (Blk.new w2 3 _).alloc _) (own_fr hown2 (((Fr.refl No w2).alloc M).alloc _) (fun _ _ x => x)) (fun h => by have := hown2.lt _ h; omega) hsz (by omega)
        exact ⟨_, e', r', rfl, by omega, h1, h2, h3, h4, hR, (F2.alloc M).alloc _⟩
      · obtain ⟨e', r', h1, h2, h3, h4, hR⟩ := rnew_end (w := w2.alloc (.cells #[.bool true, .int .i64 all, .slice A2 n q2, .slice (some ⟨w.heap.size + 1, 0, none⟩) n n] 65)) (base := w.heap.size) (b := w2.heap.size) (g := w.heap.size + 1) HF.out HN.out l2
          (Blk.new w2 65 _)
          (CASE.out.alloc _) (own_fr hown2 ((Fr.refl No w2).alloc _) (fun _ _ x => x)) (fun h => by
            rw [h] at hloc2
            rcases hloc2 with h | h
            · exact absurd h (by simp [Value.ownBlock])
            · exact absurd h (by simp)) (by omega) hsz
        exact ⟨_, e', r', rfl, hsz, h1, h2, h3, h4, hR, F2.alloc _⟩
      · obtain ⟨e', r', h1, h2, h3, h4, hR⟩ := rnew_end (w := w2.alloc (.cells #[.bool true, .int .i64 all, .slice A2 n q2, .slice (some ⟨w.heap.size, 0, none⟩) n n] 65)) (base := w.heap.size) (b := w2.heap.size) (g := w.heap.size) HF.out HN.out l2
          (Blk.new w2 65 _)
          (CASE.out.alloc _) (own_fr hown2 ((Fr.refl No w2).alloc _) (fun _ _ x => x)) (fun h => by
            rw [h] at hloc2
            rcases hloc2 with h | h
            · exact absurd h (by simp [Value.ownBlock])
            · exact absurd h (by simp; omega)) (Nat.le_refl _) hsz
        exact ⟨_, e', r', rfl, hsz, h1, h2, h3, h4, hR, F2.alloc _⟩
end Go.Proofs.Ytjgjbjigghfnbaa
