/- The laws' made: lists that are in order. -/
import Derived.Test.YtclhdhgagjpicaaW
namespace Go.Proofs.Ytclhdhgagjpicaa
open Go.RowKit Go.Wk

def madeAt (f : Int) (gs : List Int) : Nat → Int
  | 0 => f
  | k + 1 => madeAt f gs k + (gs.getD k 0 + 1)
def madeL (f : Int) (gs : List Int) (m : Nat) : List Int := (List.range (m + 1)).map (madeAt f gs)
theorem madeL_len (f : Int) (gs : List Int) (m : Nat) : (madeL f gs m).length = m + 1 := by simp [madeL]
theorem madeL_get (f : Int) (gs : List Int) {m i : Nat} (h : i ≤ m) : (madeL f gs m).getD i 0 = madeAt f gs i := by
  unfold madeL
  simp [show i < m + 1 by omega]
theorem madeL_succ (f : Int) (gs : List Int) (m : Nat) : madeL f gs (m + 1) = madeL f gs m ++ [madeAt f gs (m + 1)] := by
  unfold madeL
  rw [List.range_succ (n := m + 1), List.map_append]
  rfl
theorem madeAt_bnd {f : Int} {gs : List Int} (hg : ∀ x ∈ gs, 0 ≤ x ∧ x ≤ 65535) : ∀ i : Nat, f + i ≤ madeAt f gs i ∧ madeAt f gs i ≤ f + i * 65536
  | 0 => by simp [madeAt]
  | i + 1 => by
    have h := madeAt_bnd hg (f := f) i
    have hx : 0 ≤ gs.getD i 0 ∧ gs.getD i 0 ≤ 65535 := by
      rcases Nat.lt_or_ge i gs.length with hi | hi
      · have := hg gs[i] (List.getElem_mem _)
        rwa [show gs.getD i 0 = gs[i] by simp [hi]]
      · simp [List.getElem?_eq_none hi]
    unfold madeAt
    rw [Int.natCast_add]
    omega
theorem madeL_good {f : Int} {gs : List Int} {m : Nat} (hf : 0 ≤ f ∧ f ≤ 4294967295) (hg : ∀ x ∈ gs, 0 ≤ x ∧ x ≤ 65535) (hm : m ≤ 300) : Good (madeL f gs m) := by
  refine ⟨by rw [madeL_len]; omega, fun i hi => ?_, fun i hi => ?_⟩
  · rw [madeL_len] at hi
    rw [madeL_get _ _ (by omega)]
    have := madeAt_bnd hg (f := f) i
    omega
  · rw [madeL_len] at hi
    rw [madeL_get _ _ (by omega), madeL_get _ _ (by omega)]
    have hx : 0 ≤ gs.getD i 0 := by
      rcases Nat.lt_or_ge i gs.length with hi | hi
      · have := (hg gs[i] (List.getElem_mem _)).1
        rwa [show gs.getD i 0 = gs[i] by simp [hi]]
      · simp [List.getElem?_eq_none hi]
    show madeAt f gs i < madeAt f gs i + (gs.getD i 0 + 1)
    omega
theorem ok_of_good {l : List Int} (h : Good l) : chk [l] = 0 := by
  have h1 : many l = false := by simpa [many] using h.len
  have h2 : inv l = false := List.any_eq_false.2 (fun x hx => by have := h.mem x hx; simp [vld]; exact this)
  have h3 : ord l = false := by
    have key : ∀ k, k ≤ l.length → ob l k = false := fun k => by
      induction k with
      | zero => intro _; rfl
      | succ k ih =>
        intro hk
        unfold ob
        rw [ih (by omega), Bool.false_or]
        rcases Nat.eq_zero_or_pos k with h0 | h0
        · simp [h0]
        · have := h.inc (k - 1) (by omega)
          rw [show k - 1 + 1 = k by omega] at this
          rw [show decide (l.getD k 0 ≤ l.getD (k - 1) 0) = false from decide_eq_false (by omega), Bool.and_false]
    exact key _ (Nat.le_refl _)
  unfold chk
  simp [h1, h2, h3]

/-- What made leaves. -/
def Made (w : World) (l : List Int) (e : Ending) (w' : World) : Prop := ∃ A c, e = .returned (.slice A l.length c) ∧ w'.ownsRow w.heap.size 2 1 (.slice A l.length c) l.length (cells .i64 l) ∧ Fr No w w'

set_option maxRecDepth 100000 in
set_option maxHeartbeats 2000000 in
theorem made_any (f : Int) (A : Option Addr) (n c : Nat) (gs : List Int) (w : World) (h : Reads w w.heap.size 1 A n (gs.map (Value.int .u16))) (hn : n ≤ 9223372036854775807) (hc : n ≤ c) (hf0 : 0 ≤ f) (hf1 : f ≤ 4294967295) (hg : ∀ x ∈ gs, 0 ≤ x ∧ x ≤ 65535) :
    Calls Try.prog 14 #[.int .u32 f, .slice A n c] w fun e w' => Made w (madeL f gs (min n 300)) e w' := by
  obtain ⟨i0, hi, hz0, hz1, hz2⟩ : ∃ i, Try.prog.info? 2 = some i ∧ i.zero = some (.int .i64 0) ∧ i.size = 1 ∧ i.bytes = 8 := ⟨_, rfl, rfl, rfl, rfl⟩
  have HR := Lib.hid h
  have HN := Lib.hid h.length_ints
  have HG := Lib.hid hg
  have hnew := Blk.new w 2 #[.int .i64 f]
  have O0 := Lib.hid (show (w.alloc (.cells #[.int .i64 f] 2)).ownsRow w.heap.size 2 1 (.slice (some ⟨w.heap.size, 0, none⟩) 1 1) 1 (cells .i64 (madeL f gs 0)) from Blk.own (xs := [.int .i64 f]) hnew (Nat.le_refl _) (by simp [maxLen]))
  have HF0 := Lib.hid ((Fr.refl No w).alloc (.cells #[.int .i64 f] 2))
  clear h hg hnew
  obtain ⟨m, hm⟩ : ∃ m, m = min n 300 := ⟨_, rfl⟩
  rw [← hm]
  have hm1 : m ≤ n := by omega
  have hm2 : m ≤ 300 := by omega
  have hmc : m ≤ c := by omega
  by_cases h3 : n ≤ 300
  all_goals
    have hmn : ((m : Nat) : Int) = min (n : Int) 300 := by omega
    have HMN := Lib.hid hmn
    first
      | (have hmm : m = n := by omega)
      | (have hmm : m = 300 := by omega)
    have HMM := Lib.hid hmm
    clear hm hmn hmm
    go_enter Try.func14, Try.ntmps14
    go_wp2_with fail
    go_loopw [5, 6, 19] (fun tv lv i wr => ∃ (k : Nat) (A2 : Option Addr) (q : Nat), i = .int .i64 k ∧ k ≤ m ∧ tv = .int .i64 (madeAt f gs k) ∧ lv = .slice A2 (k + 1) q ∧ wr.ownsRow w.heap.size 2 1 (.slice A2 (k + 1) q) (k + 1) (cells .i64 (madeL f gs k)) ∧ Fr No w wr) (fun _ _ i _ => m - (intOf i).toNat)
    case atStart => exact ⟨0, _, _, rfl, Nat.zero_le _, rfl, rfl, O0.out, HF0.out⟩
    case round =>
      clear O0 HF0
      obtain ⟨k, A2, q, rfl, hk, rfl, rfl, ho, hf⟩ := hrel
      have HO := Lib.hid ho
      have HF := Lib.hid hf
      clear ho hf
      by_cases hlt : k < m
      · obtain ⟨b, off, rfl, hb, hc0⟩ := HR.out.int_at (k := k) (by omega)
        have hc1 := (HF.out.cell (p := ⟨b, off + k, none⟩) hb (fun x => x)).trans hc0
        have hb1 := madeAt_bnd HG.out (f := f) k
        have hx : 0 ≤ gs.getD k 0 ∧ gs.getD k 0 ≤ 65535 := by
          have hkl : k < gs.length := by rw [HN.out]; omega
          have := HG.out gs[k] (List.getElem_mem _)
          rwa [show gs.getD k 0 = gs[k] by simp [hkl]]
        have HAT := Lib.hid (show madeAt f gs (k + 1) = madeAt f gs k + (gs.getD k 0 + 1) from rfl)
        have HML := Lib.hid (madeL_succ f gs k)
        obtain ⟨hx1, hx2⟩ := hx
        obtain ⟨hb1, hb2⟩ := hb1
        have hl1 : (k : Int) < (n : Int) := by omega
        have hl2 : (k : Int) < 300 := by omega
        clear hc0
        rw [HAT.out] at HML
        generalize gs.getD k 0 = x at *
        generalize madeAt f gs k = t at *
        have ht1 : 0 ≤ t := by omega
        have ht2 : t ≤ 4294967295 + 300 * 65536 := by omega
        obtain ⟨wa, hwa⟩ : ∃ wa, wa = wr.alloc (.cells #[.int .i64 (t + (x + 1))] 2) := ⟨_, rfl⟩
        have FA : Fr No wr wa := by rw [hwa]; exact (Fr.refl No wr).alloc _
        have NEW : Blk wa wr.heap.size 2 #[.int .i64 (t + (x + 1))] := by rw [hwa]; exact Blk.new wr 2 _
        have HNR := Lib.hid (show Reads wa wa.heap.size 1 (some ⟨wr.heap.size, 0, none⟩) 1 [.int .i64 (t + (x + 1))] from ⟨rfl, fun _ => ⟨_, rfl, NEW.lt, fun j u hu => by rw [add_plain, Nat.zero_add, NEW.cell, List.getElem?_toArray, ← hu]⟩⟩)
        have ON := Lib.hid (own_fr HO.out FA (fun _ _ x => x))
        have HB0 := Lib.hid (show k + 1 + 1 ≤ maxLen by unfold maxLen; omega)
        have HB1 := Lib.hid (show (k + 1 + 1) * 8 ≤ 140737488355328 by omega)
        have HBS := Lib.hid (Nat.le_trans HF.out.size FA.size)
        have HWA := Lib.hid hwa
        have HFA := Lib.hid FA
        have H1C : Hid (∀ v ∈ ([.int .i64 (t + (x + 1))] : List Value), v.oneCell' = true) := Lib.hid (fun v hv => by simp at hv; subst hv; rfl)
        rw [hwa] at HNR ON HBS
        clear FA NEW hwa
        go_wp2_with (at_builtin; refine wpList_append_any (wr.alloc (.cells #[.int .i64 (t + (x + 1))] 2)) rfl (.tmp 28) (.tmp 30) 25 rfl w.heap.size 2 i0 (.int .i64 0) 1 8 Try.underlying25 hi hz0 hz1 hz2 rfl (by omega) (.slice A2 (k + 1) q) (k + 1) (cells .i64 (madeL f gs k)) rfl ON.out _ (some ⟨wr.heap.size, 0, none⟩) 1 1 [.int .i64 (t + (x + 1))] rfl HNR.out H1C.out HB0.out HB1.out HBS.out ?_; intro v' w3 ho3 hg3 hl3; obtain ⟨A3, q3, rfl⟩ := own_form' ho3; have HO3 := Lib.hid ho3; rw [← HWA.out] at hg3; have HF3 := Lib.hid ((HF.out.then0 HFA.out).ownS (Fr.of_grown (S := fun k' => (Value.slice A2 (k + 1) q).ownBlock = some k') hg3 (fun _ hk => hk)) (fun _ hk => (HO.out.lt _ hk).1)); clear ho3 hg3 hl3)
        go_roundw
        case rel => exact ⟨k + 1, A3, q3, by go_num, by omega, by rw [HAT.out], rfl, by rw [HML.out, cells_snoc]; exact HO3.out, HF3.out⟩
        case measure => simp [intOf]; omega
      · have hkm : k = m := by omega
        first
          | (have hx : ¬ (k : Int) < (n : Int) := by have := HMM.out; omega)
          | (have hx : ¬ (k : Int) < 300 := by have := HMM.out; omega)
        have HKM := Lib.hid hkm
        clear hkm
        go_wp2
        go_ret
        rw [← HKM.out]
        refine ⟨A2, q, ?_, ?_, HF.out⟩
        · rw [madeL_len]; rfl
        · rw [madeL_len]; exact HO.out
end Go.Proofs.Ytclhdhgagjpicaa
