/- HeapTurns: strings in order; the three orders of one list of values; slices.Reverse. -/
import Derived.Test.YtbndmelkdamgjaaShT
import Derived.Laws.BytesArg
namespace Go.Proofs.Ytbndmelkdamgjaa.Sh
open Go.RowKit Go.Wk

theorem bl_irr : ∀ a : List UInt8, Op.bytesLess a a = false
  | [] => rfl
  | a :: x => by simp [Op.bytesLess, bl_irr x]
theorem bl_tr : ∀ a b c : List UInt8, Op.bytesLess a b = true → Op.bytesLess b c = true → Op.bytesLess a c = true
  | _, [], _, h, _ => by simp [Op.bytesLess] at h
  | _, _ :: _, [], _, h => by simp [Op.bytesLess] at h
  | [], _ :: _, _ :: _, _, _ => rfl
  | a :: x, b :: y, c :: z, h1, h2 => by
    simp only [Op.bytesLess, Bool.or_eq_true, Bool.and_eq_true, decide_eq_true_eq, beq_iff_eq, UInt8.lt_iff_toNat_lt, ← UInt8.toNat_inj] at *
    rcases h1 with h1 | ⟨h1, h3⟩ <;> rcases h2 with h2 | ⟨h2, h4⟩
    · left; omega
    · left; omega
    · left; omega
    · right; exact ⟨h1.trans h2, bl_tr x y z h3 h4⟩
theorem bl_neg : ∀ a b c : List UInt8, Op.bytesLess a b = false → Op.bytesLess b c = false → Op.bytesLess a c = false
  | _, _, [], _, _ => by simp [Op.bytesLess]
  | _, [], _ :: _, _, h => by simp [Op.bytesLess] at h
  | [], _ :: _, _, h, _ => by simp [Op.bytesLess] at h
  | a :: x, b :: y, c :: z, h1, h2 => by
    rw [← Bool.not_eq_true] at *
    simp only [Op.bytesLess, Bool.or_eq_true, Bool.and_eq_true, decide_eq_true_eq, beq_iff_eq, UInt8.lt_iff_toNat_lt, ← UInt8.toNat_inj, not_or, not_and] at *
    refine ⟨by omega, fun h => ?_⟩
    have e1 : a.toNat = b.toNat := by omega
    have e2 : b.toNat = c.toNat := by omega
    have h3 := h1.2 e1
    have h4 := h2.2 e2
    rw [Bool.not_eq_true] at *
    exact bl_neg x y z h3 h4
def befS (a b : SV) : Bool := Op.bytesLess a.b.toList b.b.toList
theorem weak_S : Weak befS := ⟨fun _ => bl_irr _, fun _ _ _ h1 h2 => bl_tr _ _ _ h1 h2, fun _ _ _ h1 h2 => bl_neg _ _ _ h1 h2⟩
theorem str_any (a1 a2 b1 b2 : ByteArray) (w : World) : Calls Try.prog 42 #[.agg #[.string a1, .string a2], .agg #[.string b1, .string b2]] w fun e w' => e = .returned (.bool (befS ⟨a1, a2⟩ ⟨b1, b2⟩)) ∧ Fr No w w' := by
  obtain ⟨wa, hwa⟩ : ∃ wa, wa = (w.alloc (.cells #[.string a1, .string a2] 59)).alloc (.cells #[.string b1, .string b2] 59) := ⟨_, rfl⟩
  have FA := Lib.hid (show Fr No w wa by rw [hwa]; exact ((Fr.refl No w).alloc _).alloc _)
  have BA := Lib.hid (show Blk wa w.heap.size 59 #[.string a1, .string a2] by rw [hwa]; exact (Blk.new _ _ _).alloc _)
  have BB := Lib.hid (show Blk wa (w.heap.size + 1) 59 #[.string b1, .string b2] by
    rw [hwa]
    have := Blk.new (w.alloc (.cells #[.string a1, .string a2] 59)) 59 #[.string b1, .string b2]
    rwa [World.size_alloc] at this)
  have p1 := (show wa.cell? ⟨w.heap.size, 1, none⟩ = some (.string a2) from BA.out.cell 1)
  have q1 := (show wa.cell? ⟨w.heap.size + 1, 1, none⟩ = some (.string b2) from BB.out.cell 1)
  have HWA := Lib.hid hwa
  have HE := Lib.hid (show befS ⟨a1, a2⟩ ⟨b1, b2⟩ = Op.bytesLess a2.toList b2.toList from rfl)
  rw [HE.out]
  clear hwa HE
  go_enter Try.func42, Try.ntmps42
  go_wp2_with fail
  rw [← HWA.out]
  go_wp2
  go_ret
  exact ⟨rfl, FA.out⟩
theorem bef_S : Bef valSV befS 42 := ⟨fun _ _ => by kernel_rfl, fun a b X => str_any _ _ _ _ X, weak_S⟩

/-- A value as the pair of strings that the law makes of it. -/
def enc (v : Int) : SV := ⟨⟨#[120]⟩, strOfNums [v.tdiv 128, v.tmod 128]⟩
theorem befS_enc {u v : Int} (hu : 0 ≤ u ∧ u < 16384) (hv : 0 ≤ v ∧ v < 16384) : befS (enc u) (enc v) = ltI u v := by
  have e1 : u.tdiv 128 = u / 128 := Int.tdiv_eq_ediv_of_nonneg hu.1
  have e2 : v.tdiv 128 = v / 128 := Int.tdiv_eq_ediv_of_nonneg hv.1
  have e3 : u.tmod 128 = u % 128 := Int.tmod_eq_emod_of_nonneg hu.1
  have e4 : v.tmod 128 = v % 128 := Int.tmod_eq_emod_of_nonneg hv.1
  have hl : ∀ a b : Int, (strOfNums [a, b]).toList = [UInt8.ofNat a.toNat, UInt8.ofNat b.toNat] := fun a b => by
    unfold strOfNums
    simp [ByteArray.toList, ByteArray.toList.loop, ByteArray.size, ByteArray.get!]
  unfold befS enc ltI
  dsimp only
  rw [hl, hl, e1, e2, e3, e4, Bool.eq_iff_iff]
  simp only [Op.bytesLess, Bool.or_eq_true, Bool.and_eq_true, decide_eq_true_eq, beq_iff_eq, UInt8.lt_iff_toNat_lt, ← UInt8.toNat_inj, UInt8.toNat_ofNat', Bool.false_eq_true, and_false, or_false]
  omega
def mE (e : En Int) : En SV := ⟨e.id, enc e.v, e.p⟩
theorem ins_map (e : En Int) (he : 0 ≤ e.v ∧ e.v < 16384) : ∀ s : List (En Int), (∀ a ∈ s, 0 ≤ a.v ∧ a.v < 16384) → ins befS (mE e) (s.map mE) = (ins ltI e s).map mE
  | [], _ => rfl
  | a :: s, h => by
    have ha := h a (List.mem_cons_self ..)
    have hf : fst befS (mE a) (mE e) = fst ltI a e := by
      unfold fst mE
      dsimp only
      rw [befS_enc ha he, befS_enc he ha]
    rw [List.map_cons]
    unfold ins
    rw [hf]
    by_cases hc : fst ltI a e = true
    · rw [if_pos hc, if_pos hc, List.map_cons, ins_map e he s (fun b hb => h b (List.mem_cons_of_mem _ hb))]
    · rw [if_neg hc, if_neg hc, List.map_cons, List.map_cons]
theorem ids_map (s : List (En Int)) : ids (s.map mE) = ids s := by simp [ids, mE]
/-- The opposite order, where all values differ. -/
theorem sorted_rev {s : List (En Int)} (h : Sorted ltI s) (hd : ∀ a ∈ s, ∀ b ∈ s, a.v = b.v → a.p = b.p) : Sorted gtI s.reverse := by
  unfold Sorted
  rw [List.pairwise_reverse]
  refine List.Pairwise.imp_of_mem (fun ha hb hab => ?_) h
  rw [fst_true] at hab ⊢
  rcases hab with h1 | ⟨h1, h2⟩
  · left
    unfold ltI at h1
    unfold gtI
    simpa using h1
  · left
    rename_i a b
    unfold gtI
    simp only [decide_eq_true_eq]
    unfold ltI at h1
    simp at h1
    rcases Int.lt_or_eq_of_le h1 with h3 | h3
    · exact h3
    · have := hd a ha b hb h3
      omega
theorem ins_rev {s : List (En Int)} {e : En Int} (h : Sorted ltI s) (hd : ∀ a ∈ e :: s, ∀ b ∈ e :: s, a.v = b.v → a.p = b.p) (hp : ∀ a ∈ s, a.p ≠ e.p) : ins gtI e s.reverse = (ins ltI e s).reverse := by
  have hd2 : ∀ a ∈ s, ∀ b ∈ s, a.v = b.v → a.p = b.p := fun a ha b hb => hd a (List.mem_cons_of_mem _ ha) b (List.mem_cons_of_mem _ hb)
  refine sorted_unique weak_gt (ins_sorted weak_gt e _ (sorted_rev h hd2) (fun a ha => hp a (List.mem_reverse.1 ha))) (sorted_rev (ins_sorted weak_lt e s h hp) (fun a ha b hb => ?_)) (fun x => ?_)
  · rw [mem_ins] at ha hb
    exact hd a (by simpa using ha) b (by simpa using hb)
  · rw [mem_ins, List.mem_reverse, List.mem_reverse, mem_ins]
/-- The values of the law, pushed in order. -/
def vT (l : List Int) (i : Nat) : Int := l.getD i 0 * 64 + i
def stT (l : List Int) : Nat → List (En Int)
  | 0 => []
  | k + 1 => ins ltI ⟨k, vT l k, k⟩ (stT l k)
structure OkT (l : List Int) (k : Nat) : Prop where
  so : Sorted ltI (stT l k)
  ln : (stT l k).length = k
  ent : ∀ e ∈ stT l k, 0 ≤ e.v ∧ e.v < 16384 ∧ e.v.tmod 64 = e.p ∧ e.id = e.p ∧ 0 ≤ e.p ∧ e.p < k
theorem okT {l : List Int} (hl : ∀ x ∈ l, 0 ≤ x ∧ x ≤ 255) : ∀ k : Nat, k ≤ l.length → k ≤ 60 → OkT l k
  | 0, _, _ => ⟨List.Pairwise.nil, rfl, fun e he => by cases he⟩
  | k + 1, h1, h2 => by
    obtain ⟨so, ln, ent⟩ := okT hl k (by omega) (by omega)
    have hx : 0 ≤ l.getD k 0 ∧ l.getD k 0 ≤ 255 := by
      have hk : k < l.length := by omega
      have : l.getD k 0 = l[k] := by simp [hk]
      rw [this]
      exact hl _ (List.getElem_mem _)
    refine ⟨ins_sorted weak_lt _ _ so (fun a ha => by have := (ent a ha).2.2.2.2; dsimp only; omega), by simp only [stT]; rw [ins_len, ln], fun e he => ?_⟩
    rcases (mem_ins _ e (stT l k)).1 he with rfl | he
    · dsimp only
      unfold vT
      have e4 : (l.getD k 0 * 64 + k).tmod 64 = (l.getD k 0 * 64 + k) % 64 := Int.tmod_eq_emod_of_nonneg (by omega)
      rw [e4]
      refine ⟨by omega, by omega, by omega, rfl, by omega, by omega⟩
    · have := ent e he
      refine ⟨this.1, this.2.1, this.2.2.1, this.2.2.2.1, this.2.2.2.2.1, by omega⟩
theorem OkT.rng {l : List Int} {k : Nat} (h : OkT l k) : ∀ e ∈ stT l k, 0 ≤ e.v ∧ e.v < 16384 := fun e he => ⟨(h.ent e he).1, (h.ent e he).2.1⟩
theorem OkT.nid {l : List Int} {k : Nat} (h : OkT l k) : (k : Int) ∉ ids (stT l k) := fun hc => by
  obtain ⟨e, he, h1⟩ := List.mem_map.1 hc
  have := h.ent e he
  omega
theorem stT_rev {l : List Int} {k : Nat} (h : OkT l k) (h' : OkT l (k + 1)) : ins gtI ⟨k, vT l k, k⟩ (stT l k).reverse = (stT l (k + 1)).reverse := by
  refine ins_rev h.so (fun a ha b hb hab => ?_) (fun a ha => by have := (h.ent a ha).2.2.2.2; dsimp only; omega)
  have m : ∀ x, x ∈ (⟨k, vT l k, k⟩ : En Int) :: stT l k → x ∈ stT l (k + 1) := fun x hx => by
    simp only [stT]
    rw [mem_ins]
    simpa using hx
  rw [← (h'.ent a (m a ha)).2.2.1, ← (h'.ent b (m b hb)).2.2.1, hab]
theorem stT_map {l : List Int} {k : Nat} (h : OkT l k) (h' : OkT l (k + 1)) : ins befS ⟨k, enc (vT l k), k⟩ ((stT l k).map mE) = (stT l (k + 1)).map mE := by
  have hm : (⟨k, vT l k, k⟩ : En Int) ∈ stT l (k + 1) := by simp only [stT]; rw [mem_ins]; exact .inl rfl
  exact ins_map ⟨k, vT l k, k⟩ (h'.rng _ hm) (stT l k) h.rng

/-! ### slices.Reverse -/
/-- k exchanges are made. -/
def RevI (xs M : List Int) (k : Nat) : Prop := M.length = xs.length ∧ ∀ p, p < xs.length → M.getD p 0 = if p < k ∨ xs.length - k ≤ p then xs.getD (xs.length - 1 - p) 0 else xs.getD p 0
theorem RevI.start (xs : List Int) : RevI xs xs 0 := ⟨rfl, fun p hp => by rw [if_neg (by omega)]⟩
theorem getD_setI (l : List Int) (i j : Nat) (x : Int) (hi : i < l.length) : (l.set i x).getD j 0 = if j = i then x else l.getD j 0 := by
  by_cases h : j = i
  · subst h; simp [hi]
  · rw [if_neg h]; simp [Ne.symm h]
theorem RevI.step {xs M : List Int} {k : Nat} (h : RevI xs M k) (hk : 2 * k + 1 < xs.length) : RevI xs ((M.set k (M.getD (xs.length - 1 - k) 0)).set (xs.length - 1 - k) (M.getD k 0)) (k + 1) := by
  obtain ⟨h1, h2⟩ := h
  refine ⟨by simp [h1], fun p hp => ?_⟩
  rw [getD_setI _ _ _ _ (by rw [List.length_set]; omega), getD_setI _ _ _ _ (by omega), h2 k (by omega), h2 (xs.length - 1 - k) (by omega), h2 p hp]
  rw [if_neg (by omega : ¬ (k < k ∨ xs.length - k ≤ k)), if_neg (by omega : ¬ (xs.length - 1 - k < k ∨ xs.length - k ≤ xs.length - 1 - k))]
  by_cases e1 : p = xs.length - 1 - k
  · rw [if_pos e1, if_pos (by omega)]
    congr 1; omega
  · rw [if_neg e1]
    by_cases e2 : p = k
    · rw [if_pos e2, if_pos (by omega)]
      congr 1; omega
    · rw [if_neg e2]
      by_cases e3 : p < k ∨ xs.length - k ≤ p
      · rw [if_pos e3, if_pos (by omega)]
      · rw [if_neg e3, if_neg (by omega)]
theorem RevI.done {xs M : List Int} {k : Nat} (h : RevI xs M k) (hk : xs.length ≤ 2 * k + 1) : M = xs.reverse := by
  obtain ⟨h1, h2⟩ := h
  apply List.ext_getElem
  · simp [h1]
  · intro p hp hp2
    have hp3 : p < xs.length := by omega
    have := h2 p hp3
    have g1 : M.getD p 0 = M[p] := by simp [hp]
    have g2 : xs.getD (xs.length - 1 - p) 0 = xs[xs.length - 1 - p]'(by omega) := by simp [show xs.length - 1 - p < xs.length by omega]
    have g3 : xs.getD p 0 = xs[p] := by simp [hp3]
    rw [g1, g2, g3] at this
    rw [List.getElem_reverse, this]
    split
    · rfl
    · congr 1; omega
set_option maxRecDepth 100000 in
set_option maxHeartbeats 4000000 in
theorem reverse_any (A : Option Addr) (n c : Nat) (base : Nat) (xs : List Int) (w : World) (ho : w.ownsRow base 3 1 (.slice A n c) n (cells .i64 xs)) (hn : n ≤ 1000000000) :
    Calls Try.prog 45 #[.slice A n c] w fun e w' => e = .returned (.tuple #[]) ∧ w'.ownsRow base 3 1 (.slice A n c) n (cells .i64 xs.reverse) ∧ Fr (fun k => (Value.slice A n c).ownBlock = some k) w w' := by
  have hl : xs.length = n := by have := ho.1; simpa [cells] using this
  rcases Nat.eq_zero_or_pos n with h0 | h0
  · have hx : xs = [] := List.eq_nil_of_length_eq_zero (by omega)
    have HO := Lib.hid ho
    subst h0
    subst hx
    clear ho hl
    go_enter Try.func45, Try.ntmps45
    go_wp2
    go_loopw [2, 3] (fun iv jv wr => iv = .int .i64 0 ∧ jv = .int .i64 (-1) ∧ wr = w) (fun _ _ _ => 0)
    case atStart => exact ⟨rfl, rfl, rfl⟩
    case round =>
      obtain ⟨rfl, rfl, rfl⟩ := hrel
      go_wp2
      go_end0
      exact ⟨rfl, HO.out, Fr.refl _ _⟩
  · obtain ⟨G, q, hv, hG⟩ := own_some ho h0
    injection hv with hA _ hc
    subst hA
    subst hc
    have HO := Lib.hid ho
    have HL := Lib.hid hl
    clear ho hl
    go_enter Try.func45, Try.ntmps45
    go_wp2
    go_loopw [2, 3] (fun iv jv wr => ∃ (k : Nat) (M : List Int), iv = .int .i64 k ∧ jv = .int .i64 ((n : Int) - 1 - k) ∧ 2 * k ≤ n ∧ Hid (RevI xs M k) ∧ Hid (wr.ownsRow base 3 1 (.slice (some ⟨G, 0, none⟩) n c) n (cells .i64 M)) ∧ Hid (Fr (· = G) w wr)) (fun iv _ _ => n - (intOf iv).toNat)
    case atStart => exact ⟨0, xs, rfl, by simp, by omega, Lib.hid (RevI.start xs), HO, Lib.hid (Fr.refl _ _)⟩
    case round =>
      obtain ⟨k, M, rfl, rfl, hk, HI, HM, HF⟩ := hrel
      by_cases hlt : 2 * k + 1 < n
      · obtain ⟨j, hj⟩ : ∃ j, j = n - 1 - k := ⟨_, rfl⟩
        have hj2 : (n : Int) - 1 - k = (j : Int) := by omega
        have hml : M.length = n := HI.out.1.trans HL.out
        have HS := Lib.hid (HI.out.step (by rw [HL.out]; exact hlt))
        rw [HL.out, ← hj] at HS
        have c1 : wr.cell? ⟨G, k, none⟩ = some (.int .i64 (M.getD k 0)) := (HM.out.cellAt k (by omega)).trans (by simp [cells, show k < M.length by omega])
        have c2 : wr.cell? ⟨G, j, none⟩ = some (.int .i64 (M.getD j 0)) := (HM.out.cellAt j (by omega)).trans (by simp [cells, show j < M.length by omega])
        have z1 := HM.out.frozenAt k
        have z2 := HM.out.frozenAt j
        have HN := Lib.hid (show ((wr.setCell ⟨G, k, none⟩ (.int .i64 (M.getD j 0))).setCell ⟨G, j, none⟩ (.int .i64 (M.getD k 0))).ownsRow base 3 1 (.slice (some ⟨G, 0, none⟩) n c) n (cells .i64 ((M.set k (M.getD j 0)).set j (M.getD k 0))) from by
          have a := (HM.out.stored k (.int .i64 (M.getD j 0))).1
          have b := (a.stored j (.int .i64 (M.getD k 0))).1
          have e : ((cells .i64 M).set k (.int .i64 (M.getD j 0))).set j (.int .i64 (M.getD k 0)) = cells .i64 ((M.set k (M.getD j 0)).set j (M.getD k 0)) := by simp [cells, List.map_set]
          rw [e] at b
          exact b)
        have FN := Lib.hid (show Fr (· = G) w ((wr.setCell ⟨G, k, none⟩ (.int .i64 (M.getD j 0))).setCell ⟨G, j, none⟩ (.int .i64 (M.getD k 0))) from (HF.out.setCell (.inr rfl) _).setCell (.inr rfl) _)
        generalize (M.set k (M.getD j 0)).set j (M.getD k 0) = M' at *
        generalize M.getD k 0 = x at *
        generalize M.getD j 0 = y at *
        have hkn : (k : Int) < (n : Int) := by omega
        have hjn : (j : Int) < (n : Int) := by omega
        have hkj : (k : Int) < (j : Int) := by omega
        have hkj2 : k ≠ j := by omega
        have HJ := Lib.hid hj
        rw [hj2]
        clear hj hj2 hml
        go_wp2
        go_region
        all_goals
          go_wp2
          go_roundw
          case rel => exact ⟨k + 1, M', by go_num, by have := HJ.out; congr 1; omega, by omega, HS, Lib.hid HN.out.drew, Lib.hid FN.out.drew⟩
          case measure => simp [intOf]; omega
      · have hge : ¬ (k : Int) < (n : Int) - 1 - (k : Int) := by omega
        have HD := Lib.hid (HI.out.done (by rw [HL.out]; omega))
        go_wp2
        go_end0
        refine ⟨rfl, ?_, HF.out.mono (fun q hq => by rw [hq]; rfl)⟩
        rw [← HD.out]; exact HM.out
end Go.Proofs.Ytbndmelkdamgjaa.Sh
