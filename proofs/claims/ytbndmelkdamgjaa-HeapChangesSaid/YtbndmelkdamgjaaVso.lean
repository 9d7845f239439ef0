/- sorted: the ids of filled in their order. -/
import Derived.Test.YtbndmelkdamgjaaVStb
import Derived.Test.YtbndmelkdamgjaaW
namespace Go.Proofs.Ytbndmelkdamgjaa.So
open Go.RowKit Go.Wk

/-! ### The entries that filled pushes -/
def stF (xs : List Int) : Nat → List (En Int)
  | 0 => []
  | k + 1 => ins ltI ⟨100 - k, xs.getD k 0, k⟩ (stF xs k)
structure OkF (xs : List Int) (k : Nat) : Prop where
  so : Sorted ltI (stF xs k)
  ln : (stF xs k).length = k
  ent : ∀ e ∈ stF xs k, e.v = xs.getD e.p.toNat 0 ∧ e.id = 100 - e.p ∧ 0 ≤ e.p ∧ e.p < k
theorem okF (xs : List Int) : ∀ k : Nat, OkF xs k
  | 0 => ⟨List.Pairwise.nil, rfl, fun e he => by cases he⟩
  | k + 1 => by
    obtain ⟨so, ln, ent⟩ := okF xs k
    refine ⟨ins_sorted weak_lt _ _ so (fun a ha => by have := (ent a ha).2.2.2; dsimp only; omega), by simp only [stF]; rw [ins_len, ln], fun e he => ?_⟩
    rcases (mem_ins _ e (stF xs k)).1 he with rfl | he
    · dsimp only
      exact ⟨by simp, rfl, by omega, by omega⟩
    · have := ent e he
      exact ⟨this.1, this.2.1, this.2.2.1, by omega⟩
theorem OkF.nid {xs : List Int} {k : Nat} (h : OkF xs k) : (100 - (k : Int)) ∉ ids (stF xs k) := fun hc => by
  obtain ⟨e, he, h1⟩ := List.mem_map.1 hc
  have := h.ent e he
  omega
theorem ins_perm (e : En Int) : ∀ s : List (En Int), (ins ltI e s).Perm (e :: s)
  | [] => List.Perm.refl _
  | a :: s => by
    unfold ins
    split
    · exact ((ins_perm e s).cons a).trans (List.Perm.swap e a s)
    · exact List.Perm.refl _
/-- The ids in the order of pushes. -/
def ids0 (k : Nat) : List Int := (List.range k).map (fun i : Nat => 100 - (i : Int))
theorem ids0_len (k : Nat) : (ids0 k).length = k := by simp [ids0]
theorem ids0_succ (k : Nat) : ids0 (k + 1) = ids0 k ++ [100 - (k : Int)] := by simp [ids0, List.range_succ]
theorem ids0_at {k i : Nat} (h : i < k) : (ids0 k).getD i 0 = 100 - (i : Int) := by simp [ids0, h]
theorem tagged_snoc (l : List Int) (x : Int) : tagged (l ++ [x]) = tagged l ++ [(x, l.length)] := by simp [tagged, List.zipIdx_append]
def tg (e : En Int) : TI := (e.id, e.p.toNat)
theorem stF_perm (xs : List Int) : ∀ k, ((stF xs k).map tg).Perm (tagged (ids0 k))
  | 0 => List.Perm.refl _
  | k + 1 => by
    have h := ((ins_perm ⟨100 - k, xs.getD k 0, k⟩ (stF xs k)).map tg)
    rw [ids0_succ, tagged_snoc, ids0_len]
    simp only [stF]
    refine h.trans ?_
    rw [List.map_cons]
    have e : tg ⟨100 - k, xs.getD k 0, k⟩ = (100 - (k : Int), k) := by simp [tg]
    rw [e]
    exact ((stF_perm xs k).cons _).trans (List.perm_append_singleton _ _).symm
/-- Where and how sorted compares. -/
def KK (xs : List Int) (n : Nat) : KY := ⟨fun u => xs.getD (100 - u).toNat 0, fun u => 0 ≤ 100 - u ∧ 100 - u < n⟩
theorem stF_srt (xs : List Int) (k n : Nat) : Srt (KK xs n) 0 k ((stF xs k).map tg) := by
  have h := okF xs k
  intro i j h1 h2 h3
  have hi : i < (stF xs k).length := by rw [h.ln]; omega
  have hj : j < (stF xs k).length := by rw [h.ln]; omega
  have ha : ∀ q (hq : q < (stF xs k).length), ati ((stF xs k).map tg) q = tg (stF xs k)[q] := fun q hq => by simp [ati, hq]
  rw [ha i hi, ha j hj]
  have hs := List.pairwise_iff_getElem.1 h.so i j hi hj h2
  have e1 := h.ent _ (List.getElem_mem hi)
  have e2 := h.ent _ (List.getElem_mem hj)
  generalize (stF xs k)[i] = a at *
  generalize (stF xs k)[j] = b at *
  rw [fst_true] at hs
  unfold tlt tg KK
  dsimp only
  rw [e1.2.1, e2.2.1, show 100 - (100 - a.p) = a.p by omega, show 100 - (100 - b.p) = b.p by omega, ← e1.1, ← e2.1]
  unfold ltI at hs
  simp only [decide_eq_true_eq, decide_eq_false_iff_not] at hs
  omega
theorem sorted_ids {xs : List Int} {n : Nat} {L : List TI} (hp : L.Perm (tagged (ids0 n))) (hs : Srt (KK xs n) 0 n L) : L.map Prod.fst = ids (stF xs n) := by
  have hl : L.length = n := by rw [hp.length_eq, tagged_len, ids0_len]
  have hl2 : ((stF xs n).map tg).length = n := by rw [List.length_map, (okF xs n).ln]
  have := srt_one (y := KK xs n) (hp.trans (stF_perm xs n).symm) (by rw [hl]; exact hs) (by rw [hl2]; exact stF_srt xs n n)
  rw [this, List.map_map]
  rfl

/-! ### The row -/
theorem RowT.of_own {w : World} {base n c g : Nat} {l : List Int} (h : w.ownsRow base 3 1 (.slice (some ⟨g, 0, none⟩) n c) n (Go.Wk.cells .i64 l)) : RowT w g c (tagged l) := by
  have hl : l.length = n := by have := h.1; rw [cells_length] at this; omega
  rcases h.2 with ⟨h1, _⟩ | ⟨g', cap, cur, h1, _, h3, h4, _, h6, h7⟩
  · cases h1
  · injection h1 with h1 _ h2
    cases h1
    subst h2
    refine ⟨cur, h3, by omega, by rw [tagged_len, hl]; exact h4, fun i hi => ?_⟩
    rw [tagged_len] at hi
    rw [tagged_at l i hi]
    have e : (Go.Wk.cells .i64 l)[i]? = some (.int .i64 (l.getD i 0)) := by simp [Go.Wk.cells, hi]
    rw [← e, ← h7, List.getElem?_take, if_pos (by omega), Array.getElem?_toList]
theorem RowT.own {w : World} {base b c n : Nat} {L : List TI} (h : RowT w b c L) (hn : L.length = n) (hb : base ≤ b) (hc : c ≤ maxLen) : w.ownsRow base 3 1 (.slice (some ⟨b, 0, none⟩) n c) n (Go.Wk.cells .i64 (L.map Prod.fst)) := by
  obtain ⟨cs, hB, h1, h2, h4⟩ := h
  refine ⟨by rw [cells_length, List.length_map, hn]; omega, .inr ⟨b, c, cs, rfl, hb, hB, by omega, hc, by omega, ?_⟩⟩
  apply List.ext_getElem?
  intro j
  rw [List.getElem?_take]
  by_cases hj : j < n * 1
  · have hj2 : j < L.length := by omega
    rw [if_pos hj, Array.getElem?_toList, h4 j hj2]
    simp [Go.Wk.cells, ati, hj2]
  · rw [if_neg hj, List.getElem?_eq_none (by rw [cells_length, List.length_map, hn]; omega)]
theorem ins_zero (A : Option Addr) (c : Nat) (F : Value) (w : World) : Calls Try.prog 97 #[.slice A 0 c, .int .i64 0, .int .i64 0, F] w fun x w' => x = .returned (.tuple #[]) ∧ Fr No w w' := by
  go_enter Try.func97, Try.ntmps97
  go_wp2
  go_loopw [8] (fun i wr => i = .int .i64 1 ∧ w = wr) (fun _ _ => 0)
  case atStart => exact ⟨rfl, rfl⟩
  case round =>
    obtain ⟨rfl, rfl⟩ := hrel
    go_wp2
    go_end0
    exact ⟨rfl, Fr.refl _ _⟩
theorem sortS_zero (A : Option Addr) (c : Nat) (F : Value) (w : World) : Calls Try.prog 77 #[.slice A 0 c, F] w fun x w' => x = .returned (.tuple #[]) ∧ Fr No w w' := by
  have H : Calls Try.prog 94 #[.slice A 0 c, .int .i64 0, F] w fun x w' => x = .returned (.tuple #[]) ∧ Fr No w w' := by
    go_enter Try.func94, Try.ntmps94
    go_wp2
    go_loopw [7, 8] (fun i j wr => i = .int .i64 0 ∧ j = .int .i64 20 ∧ w = wr) (fun _ _ _ => 0)
    case atStart => exact ⟨rfl, rfl, rfl⟩
    case round =>
      obtain ⟨rfl, rfl, rfl⟩ := hrel
      go_wp2_with fail
      refine (ins_zero A c F _).mono ?_
      rintro x w1 ⟨rfl, hf⟩
      go_wp2
      go_loopw [6] (fun i wr => i = .int .i64 20 ∧ w1 = wr) (fun _ _ => 0)
      case atStart => exact ⟨rfl, rfl⟩
      case round =>
        obtain ⟨rfl, rfl⟩ := hrel
        go_wp2
        go_end0
        exact ⟨rfl, hf⟩
  have HH := Lib.hid H
  clear H
  go_enter Try.func77, Try.ntmps77
  go_wp2_with fail
  refine HH.out.mono ?_
  rintro x w' ⟨rfl, hf⟩
  go_wp2
  go_end0
  exact ⟨rfl, hf⟩
/-! ### The comparison -/
theorem cmp_any (g : Nat) (A : Option Addr) (n c B : Nat) (xs : List Int) (u v : Int) (w : World) (hb : w.cell? ⟨g, 0, none⟩ = some (.slice A n c)) (h : Reads w B 1 A n (xs.map (Value.int .u8))) (hw : ∀ x ∈ xs, 0 ≤ x ∧ x ≤ 255) (hu : 0 ≤ 100 - u ∧ 100 - u < n) (hv : 0 ≤ 100 - v ∧ 100 - v < n) (hn : n ≤ 1000) :
    Calls Try.prog 78 #[.int .i64 u, .int .i64 v, .pointer (some ⟨g, 0, none⟩)] w fun e w' => e = .returned (.int .i64 (ordI (KK xs n) u v)) ∧ Fr No w w' := by
  obtain ⟨i, hi⟩ : ∃ i : Nat, 100 - u = (i : Int) := ⟨(100 - u).toNat, by omega⟩
  obtain ⟨j, hj⟩ : ∃ j : Nat, 100 - v = (j : Int) := ⟨(100 - v).toNat, by omega⟩
  have hl := h.length_ints
  obtain ⟨b, off, rfl, _, c1⟩ := h.int_at (k := i) (by omega)
  obtain ⟨b', off', e1, _, c2⟩ := h.int_at (k := j) (by omega)
  obtain ⟨rfl, rfl⟩ : b' = b ∧ off' = off := by injection e1 with e1; injection e1 with e1 e2; exact ⟨e1.symm, e2.symm⟩
  have hx : ∀ q, q < n → 0 ≤ xs.getD q 0 ∧ xs.getD q 0 ≤ 255 := fun q hq => by
    have hq2 : q < xs.length := by omega
    have : xs.getD q 0 = xs[q] := by simp [hq2]
    rw [this]
    exact hw _ (List.getElem_mem _)
  have hx1 := hx i (by omega)
  have hx2 := hx j (by omega)
  have HE := Lib.hid (show ordI (KK xs n) u v = xs.getD i 0 - xs.getD j 0 by unfold ordI KK; dsimp only; rw [hi, hj]; simp)
  rw [HE.out]
  generalize xs.getD i 0 = x at *
  generalize xs.getD j 0 = y at *
  have x0 := hx1.1
  have x1 := hx1.2
  have y0 := hx2.1
  have y1 := hx2.2
  have hin : (i : Int) < (n : Int) := by omega
  have hjn : (j : Int) < (n : Int) := by omega
  have hu1 : u ≤ 100 := by omega
  have hu2 : -1000 ≤ u := by omega
  have hv1 : v ≤ 100 := by omega
  have hv2 : -1000 ≤ v := by omega
  clear e1 hx hx1 hx2 HE hu hv h hw hl
  go_enter Try.func78, Try.ntmps78
  go_wp2
  go_quiet (fail)
  go_wp2
  go_ret
  exact ⟨rfl, (Fr.refl No w).drewN _⟩
theorem clo_any {w : World} {g b : Nat} {A : Option Addr} {n c B : Nat} {xs : List Int} (hg : Blk w g 56 #[.slice A n c]) (h : Reads w B 1 A n (xs.map (Value.int .u8))) (hw : ∀ x ∈ xs, 0 ≤ x ∧ x ≤ 255) (hgb : g ≠ b) (hB : B ≤ b) (hBw : B ≤ w.heap.size) (hn : n ≤ 1000) : Clo w g b (KK xs n) := fun X hX u v hu hv =>
  cmp_any g A n c B xs u v X ((hg.fr hX hgb).cell 0) (h.fr hX hBw (fun q hq e => by omega)) hw hu hv hn
/-- What sorted leaves. -/
def SortedR (w : World) (xs : List Int) (n : Nat) (e : Ending) (w' : World) : Prop := ∃ A c, e = .returned (.slice A n c) ∧ w'.ownsRow w.heap.size 3 1 (.slice A n c) n (cells .i64 (ids (stF xs n))) ∧ Fr No w w'
set_option maxRecDepth 100000 in
set_option maxHeartbeats 4000000 in
theorem sorted_any (A : Option Addr) (n c : Nat) (xs : List Int) (w : World) (h : Reads w w.heap.size 1 A n (xs.map (Value.int .u8))) (hw : ∀ x ∈ xs, 0 ≤ x ∧ x ≤ 255) (hn : n ≤ 100) :
    Calls Try.prog 47 #[.slice A n c] w fun e w' => SortedR w xs n e w' := by
  obtain ⟨i0, hi, hz0, hz1, hz2⟩ : ∃ i, Try.prog.info? 3 = some i ∧ i.zero = some (.int .i64 0) ∧ i.size = 1 ∧ i.bytes = 8 := ⟨_, rfl, rfl, rfl, rfl⟩
  have HR := Lib.hid h
  have HWF := Lib.hid hw
  obtain ⟨w0, hw0⟩ : ∃ w0, w0 = w.alloc (.cells #[.slice A n c] 56) := ⟨_, rfl⟩
  have F0 := Lib.hid (show Fr No w w0 by rw [hw0]; exact (Fr.refl No w).alloc _)
  have B0 := Lib.hid (show Blk w0 w.heap.size 56 #[.slice A n c] by rw [hw0]; exact Blk.new _ _ _)
  have hg0 := B0.out.cell 0
  simp only [List.getElem?_toArray, List.getElem?_cons_zero] at hg0
  have HW0 := Lib.hid hw0
  have hs0 := Lib.hid (show w0.heap.size = w.heap.size + 1 by rw [hw0]; simp)
  generalize hg : w.heap.size = G at *
  have HG := Lib.hid hg
  clear h hw hw0 hg
  go_enter Try.func47, Try.ntmps47
  go_wp2
  rw [HG.out, ← HW0.out]
  go_loopw [3, 7] (fun ov iv wr => ∃ (A1 : Option Addr) (k q : Nat), ov = .slice A1 k q ∧ iv = .int .i64 k ∧ k ≤ n ∧ Hid (wr.ownsRow w0.heap.size 3 1 (.slice A1 k q) k (cells .i64 (ids0 k))) ∧ Hid (Fr No w0 wr)) (fun _ iv _ => n - (intOf iv).toNat)
  case atStart => exact ⟨none, 0, 0, rfl, rfl, Nat.zero_le _, Lib.hid (show w0.ownsRow w0.heap.size 3 1 (.slice none 0 0) 0 (cells .i64 (ids0 0)) from own_nil _ _ _ _), Lib.hid (Fr.refl _ _)⟩
  case round =>
    obtain ⟨A1, k, q, rfl, rfl, hk, HO, HF⟩ := hrel
    have hbs := HF.out.size
    by_cases hlt : k < n
    · have hlt2 : (k : Int) < (n : Int) := by omega
      have O3 := Lib.hid (HO.out.alloc (.cells #[.int .i64 (100 - (k : Int))] 3))
      have RX := Lib.hid (reads_blk wr 3 [.int .i64 (100 - (k : Int))] 1 1 rfl)
      have HX0 := Lib.hid (show k + 1 ≤ maxLen by unfold maxLen; omega)
      have HX1 := Lib.hid (show (k + 1) * 8 ≤ 140737488355328 by omega)
      have HONE := Lib.hid (show ∀ z ∈ [Value.int .i64 (100 - (k : Int))], z.oneCell' = true from fun z hz => by simp at hz; subst hz; rfl)
      clear hg0
      go_wp2_with (at_builtin; refine wpList_append_any (wr.alloc (.cells #[.int .i64 (100 - (k : Int))] 3)) rfl (.tmp 10) (.tmp 13) 39 rfl w0.heap.size 3 i0 (.int .i64 0) 1 8 Try.underlying39 hi hz0 hz1 hz2 rfl (by omega) (.slice A1 k q) k _ rfl O3.out _ (some ⟨wr.heap.size, 0, none⟩) 1 1 _ rfl RX.out HONE.out HX0.out HX1.out (by simp; omega) ?_)
      intro v' w3 hown3 hg3 hloc3
      obtain ⟨A3, q3, rfl⟩ := own_form' hown3
      have F3 := Lib.hid (HF.out.ownS (((Fr.refl _ wr).alloc _).trans (Fr.of_grown (S := fun z => (Value.slice A1 k q).ownBlock = some z) hg3 (fun z hz => hz)) (fun _ _ z => z)) (fun z hz => (HO.out.lt z hz).1))
      have HN := Lib.hid (show w3.ownsRow w0.heap.size 3 1 (.slice A3 (k + 1) q3) (k + 1) (cells .i64 (ids0 (k + 1))) from by rw [ids0_succ, cells_snoc]; exact hown3)
      clear hown3 hg3 hloc3
      go_wp2
      go_roundw
      case rel => exact ⟨A3, k + 1, q3, rfl, by go_num, by omega, HN, F3⟩
      case measure => simp [intOf]; omega
    · obtain rfl : k = n := by omega
      rcases Nat.eq_zero_or_pos k with h0 | h0
      · subst h0
        have HZ := Lib.hid (fun F => sortS_zero A1 q F wr)
        clear hg0
        go_wp2_with fail
        refine (HZ.out _).mono ?_
        rintro e w5 ⟨rfl, hf⟩
        go_wp2
        go_ret
        refine ⟨A1, q, rfl, ?_, (F0.out.then0 HF.out).then0 hf⟩
        have hs := hs0.out
        have hGG := HG.out
        exact own_base (base' := w.heap.size) (own_fr HO.out hf (fun _ _ z => z)) (by omega)
      · have hs := hs0.out
        have hGG := HG.out
        obtain ⟨b, q', hv, hb⟩ := own_some HO.out h0
        injection hv with hA _ hq
        subst hA
        subst hq
        have hcm : q ≤ maxLen := by
          rcases HO.out.2 with ⟨e, _⟩ | ⟨g2, cap2, cur2, e, _, _, _, h5, _⟩
          · cases e
          · injection e with _ _ e
            omega
        have HS := Lib.hid (show Srtr wr G b q (KK xs k) (tagged (ids0 k)) from ⟨clo_any (B0.out.fr HF.out (fun z => z)) (B := G) (by have := HR.out; exact this.keep (fun p hp => (F0.out.then0 HF.out).cell (by rw [HG.out]; exact hp) (fun z => z))) HWF.out (by omega) (by omega) (by omega) (by omega), RowT.of_own HO.out, fun i hi => by
          rw [tagged_len, ids0_len] at hi
          rw [tagged_at _ i (by rw [ids0_len]; exact hi), ids0_at hi]
          unfold KK
          dsimp only
          omega⟩)
        have HSO := Lib.hid (sortS_any G b q k (KK xs k) (tagged (ids0 k)) wr HS.out (by rw [tagged_len, ids0_len]) (by have := tagged_tags (ids0 k); rw [ids0_len] at this; exact this) (by omega))
        have HBG := Lib.hid (show w.heap.size ≤ b by omega)
        clear hg0 hs hb hGG
        go_wp2_with fail
        refine HSO.out.mono ?_
        rintro e w5 ⟨rfl, L', hs', ht', hsr', hf'⟩
        have HO5 := Lib.hid (hs'.row.own (base := w.heap.size) (n := k) (by rw [ht'.perm.length_eq, tagged_len, ids0_len]) HBG.out hcm)
        rw [sorted_ids ht'.perm hsr'] at HO5
        have F5 := Lib.hid ((F0.out.then0 HF.out).own hf' HBG.out)
        clear hs' ht' hsr' hf'
        go_wp2
        go_ret
        exact ⟨some ⟨b, 0, none⟩, q, rfl, HO5.out, F5.out⟩
end Go.Proofs.Ytbndmelkdamgjaa.So
