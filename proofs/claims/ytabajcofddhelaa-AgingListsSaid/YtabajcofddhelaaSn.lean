/- What a sorted list is; the contracts of the law's count and tied. -/
import Derived.Test.YtabajcofddhelaaAh
import Derived.Laws.StructEq
import Derived.Test.YtabajcofddhelaaFlat
namespace Go.Proofs.Ytabajcofddhelaa
open Go.RowKit Go.Wk

/-- In order. -/
def leI (y : Int) (a b : IV) : Prop := ¬ ordI y b a < 0
def InOrder (y : Int) (l : List IV) : Prop := ∀ i j, i < j → j < l.length → leI y (l.getD i IV.zero) (l.getD j IV.zero)
theorem SortOf.inOrder {y : Int} {l s : List IV} (h : SortOf y l s) : InOrder y s := by
  obtain ⟨L, rfl, hp, hs⟩ := h
  have hlen : L.length = l.length := by rw [hp.length_eq, tagged_len]
  intro i j hij hj
  rw [List.length_map] at hj
  rw [map_at L i (by omega), map_at L j hj]
  have := hs i j (Nat.zero_le _) hij (by omega)
  unfold leI
  rw [ordI_lt]
  unfold tlt at this
  omega
theorem SortOf.self {y : Int} {l s : List IV} (h : SortOf y l s) : SortOf y s s := by
  obtain ⟨L, rfl, hp, hs⟩ := h
  have hlen : L.length = l.length := by rw [hp.length_eq, tagged_len]
  refine ⟨tagged (L.map Prod.fst), (tagged_map _).symm, List.Perm.refl _, fun i j h0 hij hj => ?_⟩
  rw [List.length_map] at hj
  rw [tagged_at _ i (by rw [List.length_map]; omega), tagged_at _ j (by rw [List.length_map]; omega), map_at L i (by omega), map_at L j hj]
  have := hs i j h0 hij (by omega)
  unfold tlt at this ⊢
  dsimp only
  omega
theorem SortOf.fix {y : Int} {l s s' : List IV} (h : SortOf y l s) (h' : SortOf y s s') : s' = s := h'.one h.self
theorem SortOf.count {y : Int} {l s : List IV} (h : SortOf y l s) (x : IV) : s.count x = l.count x := h.perm.count_eq x
theorem SortOf.ahead {y : Int} {l s : List IV} (h : SortOf y l s) (x : IV) : aheadN y l x = aheadN y s x := (h.perm.countP_eq _).symm
theorem aheadN_split (y : Int) (l : List IV) (x : IV) (k : Nat) : aheadN y l x = aheadN y (l.take k) x + aheadN y (l.drop k) x := by
  unfold aheadN; rw [← List.countP_append, List.take_append_drop]
theorem getD_mem' {l : List IV} {i : Nat} (h : i < l.length) : l.getD i IV.zero ∈ l := by
  have : l.getD i IV.zero = l[i] := by simp [h]
  rw [this]; exact List.getElem_mem _
/-- In a list in order, those that come before one stand in front of it. -/
theorem ahead_at {y : Int} {s : List IV} (h : InOrder y s) {i : Nat} (hi : i < s.length) : aheadN y s (s.getD i IV.zero) ≤ i ∧ ∀ j, aheadN y s (s.getD i IV.zero) ≤ j → j ≤ i → ¬ ordI y (s.getD j IV.zero) (s.getD i IV.zero) < 0 := by
  have hd : ∀ k, (∀ j, k ≤ j → j < s.length → ¬ ordI y (s.getD j IV.zero) (s.getD i IV.zero) < 0) → aheadN y (s.drop k) (s.getD i IV.zero) = 0 := fun k hk => by
    unfold aheadN
    rw [List.countP_eq_zero]
    intro z hz
    obtain ⟨m, hm, rfl⟩ := List.mem_iff_getElem.1 hz
    rw [List.length_drop] at hm
    have := hk (k + m) (by omega) (by omega)
    rw [List.getElem_drop]
    have e : s.getD (k + m) IV.zero = s[k + m]'(by omega) := by simp [show k + m < s.length by omega]
    rw [e] at this
    simpa using this
  have h1 : aheadN y s (s.getD i IV.zero) ≤ i := by
    rw [aheadN_split y s _ i, hd i (fun j h1 h2 => ?_)]
    · have := aheadN_le y (s.take i) (s.getD i IV.zero)
      rw [List.length_take] at this
      omega
    · by_cases e : j = i
      · subst e; rw [ordI_lt]; omega
      · exact h i j (by omega) h2
  refine ⟨h1, fun j hj1 hj2 hlt => ?_⟩
  -- all in front of j come before, too
  have hall : ∀ m, m < j + 1 → ordI y (s.getD m IV.zero) (s.getD i IV.zero) < 0 := fun m hm => by
    by_cases e : m = j
    · rw [e]; exact hlt
    · have := h m j (by omega) (by omega)
      unfold leI at this
      rw [ordI_lt] at this hlt ⊢
      omega
  have : j + 1 ≤ aheadN y s (s.getD i IV.zero) := by
    rw [aheadN_split y s _ (j + 1)]
    have e : aheadN y (s.take (j + 1)) (s.getD i IV.zero) = j + 1 := by
      unfold aheadN
      rw [List.countP_eq_length.2]
      · rw [List.length_take]; omega
      · intro z hz
        obtain ⟨m, hm, rfl⟩ := List.mem_iff_getElem.1 hz
        rw [List.length_take] at hm
        have := hall m (by omega)
        rw [List.getElem_take]
        have e : s.getD m IV.zero = s[m]'(by omega) := by simp [show m < s.length by omega]
        rw [e] at this
        simpa using this
    omega
  omega
theorem ahead_tied {y : Int} {s : List IV} (h : InOrder y s) {i : Nat} (hi : i < s.length) : ∀ j, aheadN y s (s.getD i IV.zero) ≤ j → j ≤ i → (s.getD j IV.zero).seq = (s.getD i IV.zero).seq ∧ (s.getD j IV.zero).id = (s.getD i IV.zero).id := by
  intro j h1 h2
  have h3 := (ahead_at h hi).2 j h1 h2
  by_cases e : j = i
  · rw [e]; exact ⟨rfl, rfl⟩
  · have h4 := h j i (by omega) hi
    unfold leI at h4
    rw [ordI_lt] at h3 h4
    omega
theorem listE_zero {y : Int} {l more : List IV} (hy : 1 ≤ y ∧ y ≤ 68719476736) (hl : l.length ≤ 1024) (h1 : ∀ x ∈ l, Ok x) (h2 : ∀ x ∈ more, Ok x) : listE y l more = 0 := by
  have e : yearsE y = 0 := by unfold yearsE; rw [if_neg (by omega)]
  unfold listE
  rw [if_neg (by rw [e]; decide), if_neg (by omega)]
  exact chkE_good hy.1 hy.2 (fun x hx => (List.mem_append.1 hx).elim (h1 x) (h2 x))

/-- Two items that are not the same. -/
theorem item_ne {z x : IV} (h : z ≠ x) (W : World) :
    (binOp .eql 23 (.agg #[.int .i64 z.id, .int .i64 z.pr, .int .i64 z.since, .int .i64 z.seq]) (.agg #[.int .i64 x.id, .int .i64 x.pr, .int .i64 x.since, .int .i64 x.seq])).run Try.prog W = .ok (.bool false) W ∧
    (binOp .neq 23 (.agg #[.int .i64 z.id, .int .i64 z.pr, .int .i64 z.since, .int .i64 z.seq]) (.agg #[.int .i64 x.id, .int .i64 x.pr, .int .i64 x.since, .int .i64 x.seq])).run Try.prog W = .ok (.bool true) W := by
  obtain ⟨zi, zp, zs, zq⟩ := z
  obtain ⟨xi, xp, xs, xq⟩ := x
  dsimp only
  by_cases h1 : zi = xi
  · subst h1
    by_cases h2 : zp = xp
    · subst h2
      by_cases h3 : zs = xs
      · subst h3
        have h4 : zq ≠ xq := fun e => h (by rw [e])
        have h5 : (zq == xq) = false := by simpa using h4
        constructor <;> go_simp
      · have h5 : (zs == xs) = false := by simpa using h3
        constructor <;> go_simp
    · have h5 : (zp == xp) = false := by simpa using h2
      constructor <;> go_simp
  · have h5 : (zi == xi) = false := by simpa using h1
    constructor <;> go_simp

theorem count_snoc (l : List IV) (x : IV) (k : Nat) (hk : k < l.length) : (l.take (k + 1)).count x = (l.take k).count x + if l.getD k IV.zero = x then 1 else 0 := by
  have e : l.getD k IV.zero = l[k] := by simp [hk]
  rw [List.take_succ_eq_append_getElem hk, List.count_append, e, List.count_singleton]
  by_cases h : l[k] = x
  · rw [if_pos h, if_pos (by simpa using h)]
  · rw [if_neg h, if_neg (by simpa using h)]
set_option maxRecDepth 100000 in
set_option maxHeartbeats 4000000 in
theorem count_any (A : Option Addr) (n c : Nat) (l : List IV) (x : IV) (w : World) (h : Reads w w.heap.size 4 A n (icells l)) (hn : n ≤ 10000) :
    Calls Try.prog 24 #[.slice A n c, .agg #[.int .i64 x.id, .int .i64 x.pr, .int .i64 x.since, .int .i64 x.seq]] w fun e w' => e = .returned (.int .i64 (l.count x : Nat)) ∧ Fr No w w' := by
  have HR := Lib.hid h
  have HL := Lib.hid (reads_ilen h)
  obtain ⟨w0, hw0⟩ : ∃ w0, w0 = w.alloc (.cells #[.int .i64 x.id, .int .i64 x.pr, .int .i64 x.since, .int .i64 x.seq] 23) := ⟨_, rfl⟩
  have B := Lib.hid (show Blk w0 w.heap.size 23 #[.int .i64 x.id, .int .i64 x.pr, .int .i64 x.since, .int .i64 x.seq] by rw [hw0]; exact Blk.new _ _ _)
  have F0 := Lib.hid (show Fr No w w0 by rw [hw0]; exact (Fr.refl No w).alloc _)
  have HW := Lib.hid hw0
  have HSN := Lib.hid (fun k (hk : k < n) => count_snoc l x k (by rw [HL.out]; exact hk))
  have HFIN := Lib.hid (show (l.take n).count x = l.count x by rw [List.take_of_length_le (by rw [HL.out]; omega)])
  have HNL := Lib.hid (show ∀ k, k ≤ n → (l.take k).count x ≤ 10000 from fun k hk => by have := List.count_le_length (a := x) (l := l.take k); rw [List.length_take] at this; omega)
  clear h hw0
  go_enter Try.func24, Try.ntmps24
  go_wp2
  rw [← HW.out]
  go_loopw [5, 6] (fun m i wr => ∃ k : Nat, i = .int .i64 k ∧ m = .int .i64 ((l.take k).count x : Nat) ∧ k ≤ n ∧ Hid (Fr No w0 wr)) (fun _ i _ => n - (intOf i).toNat)
  case atStart => exact ⟨0, rfl, by simp, Nat.zero_le _, Lib.hid (Fr.refl _ _)⟩
  case round =>
    obtain ⟨k, rfl, rfl, hk, HF⟩ := hrel
    have hq := HNL.out k hk
    by_cases hlt : k < n
    · obtain ⟨q, off, rfl, hq, _, a0, a1, a2, a3⟩ := reads_item' HR.out hlt (F0.out.then0 HF.out)
      obtain ⟨b0, b1, b2, b3⟩ := blk4 (B.out.fr HF.out (fun x => x))
      have HS := Lib.hid (HSN.out k hlt)
      have hlt2 : (k : Int) < (n : Int) := by omega
      by_cases he : l.getD k IV.zero = x
      · rw [if_pos he] at HS
        rw [he] at a0 a1 a2 a3
        clear he
        obtain ⟨xi, xp, xs, xq⟩ := x
        dsimp only at *
        go_wp2
        go_quiet (fail)
        go_wp2
        go_roundw
        case rel => exact ⟨k + 1, by go_num, by rw [HS.out]; go_num, by omega, Lib.hid (HF.out.drewN _)⟩
        case measure => simp [intOf]; omega
      · rw [if_neg he] at HS
        have hne := fun W => (item_ne he W).1
        generalize l.getD k IV.zero = z at *
        clear he
        obtain ⟨xi, xp, xs, xq⟩ := x
        obtain ⟨zi, zp, zs, zq⟩ := z
        dsimp only at *
        go_wp2
        go_quiet (fail)
        go_wp2
        go_roundw
        case rel => exact ⟨k + 1, by go_num, by rw [HS.out]; go_num, by omega, Lib.hid (HF.out.drewN _)⟩
        case measure => simp [intOf]; omega
    · obtain rfl : k = n := by omega
      rw [HFIN.out]
      go_wp2
      go_ret
      exact ⟨rfl, F0.out.then0 HF.out⟩

theorem icells_drop (l : List IV) : ∀ m, (icells l).drop (m * 4) = icells (l.drop m) := by
  induction l with
  | nil => intro m; simp [icells]
  | cons a l ih =>
    intro m
    cases m with
    | zero => simp
    | succ m =>
      rw [List.drop_succ_cons, ← ih m]
      have e : icells (a :: l) = a.cells ++ icells l := by simp [icells]
      rw [e, show (m + 1) * 4 = a.cells.length + m * 4 by simp [IV.cells]; omega, List.drop_length_add_append]
theorem icells_take (l : List IV) : ∀ m, (icells l).take (m * 4) = icells (l.take m) := by
  induction l with
  | nil => intro m; simp [icells]
  | cons a l ih =>
    intro m
    cases m with
    | zero => simp [icells]
    | succ m =>
      have e : icells (a :: l) = a.cells ++ icells l := by simp [icells]
      have e2 : icells (a :: l.take m) = a.cells ++ icells (l.take m) := by simp [icells]
      rw [List.take_succ_cons, e2, ← ih m, e, show (m + 1) * 4 = a.cells.length + m * 4 by simp [IV.cells]; omega, List.take_length_add_append]
/-- A part of a list. -/
theorem reads_part {w : World} {B n cap m k : Nat} {g off : Nat} {l : List IV} (h : Reads w B 4 (some ⟨g, off, none⟩) n (icells l)) (hmk : m ≤ k) (hk : k < n) (hc : n ≤ cap) :
    Reads w B 4 (some ⟨g, off + m * 4, none⟩) (k + 1 - m) (icells ((l.drop m).take (k + 1 - m))) := by
  have h1 := h.cut (k := m) (cap := cap) (by omega) hc
  rw [if_neg (by omega), Option.map_some, add_plain, icells_drop] at h1
  rw [← icells_take]
  refine ⟨by rw [List.length_take, h1.1]; omega, fun h0 => ?_⟩
  obtain ⟨ad, hA, hb, hx⟩ := h1.2 (by omega)
  exact ⟨ad, hA, hb, fun j u hu => hx j u (by rw [List.getElem?_take] at hu; split at hu <;> simp_all)⟩
theorem part_at (l : List IV) {m k j : Nat} (hj : j < k + 1 - m) : ((l.drop m).take (k + 1 - m)).getD j IV.zero = l.getD (m + j) IV.zero := by
  rw [List.getD_eq_getElem?_getD, List.getElem?_take, if_pos hj, List.getElem?_drop, ← List.getD_eq_getElem?_getD]
set_option maxRecDepth 100000 in
set_option maxHeartbeats 4000000 in
theorem tied_any (A : Option Addr) (n c : Nat) (l : List IV) (q0 i0 : Int) (w : World) (h : Reads w w.heap.size 4 A n (icells l)) (hn : n ≤ 10000) (ht : ∀ j, j < n → (l.getD j IV.zero).seq = q0 ∧ (l.getD j IV.zero).id = i0) :
    Calls Try.prog 26 #[.slice A n c] w fun e w' => e = .returned (.bool true) ∧ Fr No w w' := by
  have HR := Lib.hid h
  have HT := Lib.hid ht
  clear h ht
  go_enter Try.func26, Try.ntmps26
  go_wp2
  go_loopw [3] (fun i wr => ∃ k : Nat, i = .int .i64 k ∧ k ≤ n ∧ Hid (Fr No w wr)) (fun i _ => n - (intOf i).toNat)
  case atStart => exact ⟨0, rfl, Nat.zero_le _, Lib.hid (Fr.refl _ _)⟩
  case round =>
    obtain ⟨k, rfl, hk, HF⟩ := hrel
    by_cases hlt : k < n
    · have h0n : 0 < n := by omega
      obtain ⟨q, off, rfl, hq, _, a0, a1, a2, a3⟩ := reads_item' HR.out hlt HF.out
      obtain ⟨q', off', e, _, _, b0, b1, b2, b3⟩ := reads_item' HR.out h0n HF.out
      cases e
      rw [(HT.out k hlt).1] at a3
      rw [(HT.out k hlt).2] at a0
      rw [(HT.out 0 h0n).1] at b3
      rw [(HT.out 0 h0n).2] at b0
      simp only [Nat.zero_mul, Nat.add_zero] at b0 b3
      have hlt2 : (k : Int) < (n : Int) := by omega
      have h0n2 : (0 : Int) < (n : Int) := by omega
      clear a1 a2 b1 b2
      go_wp2
      go_quiet (fail)
      go_wp2
      go_roundw
      case rel => exact ⟨k + 1, by go_num, by omega, Lib.hid (HF.out.drewN _)⟩
      case measure => simp [intOf]; omega
    · go_wp2
      go_ret
      exact ⟨rfl, HF.out⟩

/-- A list of items that came in. -/
def iv4 (ns : List Int) : IV := ⟨ns.getD 0 0, ns.getD 1 0, ns.getD 2 0, ns.getD 3 0⟩
theorem rowOf_cells : ∀ (es : List (List Int)), (∀ ns ∈ es, ns.length = 4) → es.flatMap (rowOf [.i64, .i64, .i64, .i64]) = icells (es.map iv4)
  | [], _ => rfl
  | e :: es, h => by
    have h0 := h e (by simp)
    have ih := rowOf_cells es (fun ns hn => h ns (by simp [hn]))
    match e, h0 with
    | [a, b, c, d], _ =>
      have e1 : icells (([a, b, c, d] :: es).map iv4) = (iv4 [a, b, c, d]).cells ++ icells (es.map iv4) := by simp [icells]
      rw [List.flatMap_cons, ih, e1]
      rfl
theorem reads_rowF {bytes : Nat} {w : World} {A : Option Addr} {n c : Nat} {es : List (List Int)} (h : RowF [.i64, .i64, .i64, .i64] bytes w A n c es) (hb : 0 < bytes) : Reads w w.heap.size 4 A n (icells (es.map iv4)) ∧ n ≤ 9223372036854775807 := by
  obtain ⟨h1, h2, h3, h4, h5⟩ := h
  refine ⟨?_, ?_⟩
  · rw [← rowOf_cells es (fun ns hn => (h5 ns hn).1)]
    exact h3
  · have := Nat.le_mul_of_pos_right c hb
    omega
end Go.Proofs.Ytabajcofddhelaa
