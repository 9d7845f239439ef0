/- HeapSorts: the walk. -/
import Derived.Test.YtbndmelkdamgjaaVf
namespace Go.Proofs.Ytbndmelkdamgjaa.So
open Go.RowKit Go.Wk

theorem run_min2 (ts : Array TypeId) (t : TypeId) (n N : Nat) (m : Int) (hN : (N : Int) = min (n : Int) m) (W : World) : (Builtin.min_ ts t #[.int .i64 (n : Int), .int .i64 m]).run Try.prog W = .ok (.int .i64 (N : Int)) W := by
  simp [Builtin.min_, Builtin.min2]
  omega
theorem reads_cut {k : IntKind} {w : World} {B n N : Nat} {A : Option Addr} {xs : List Int} (h : Reads w B 1 A n (xs.map (Value.int k))) (hN : N ≤ n) : Reads w B 1 A N ((xs.take N).map (Value.int k)) := by
  have hl := h.length_ints
  refine ⟨by rw [List.length_map, List.length_take]; omega, fun h0 => ?_⟩
  obtain ⟨ad, hA, hb, hc⟩ := h.2 (by omega)
  refine ⟨ad, hA, hb, fun j u hu => hc j u ?_⟩
  rw [List.map_take, List.getElem?_take] at hu
  split at hu
  · exact hu
  · cases hu
theorem _root_.Go.Proofs.Ytbndmelkdamgjaa.OwnI.nodup {f : Nat} {bf : Int → Int → Bool} {w w1 : World} {b : Nat} {K : Nat → Prop} {s : List (En Int)} {g : Int} (hw : Weak bf) (h : OwnI f bf w w1 b K s g) : (ids s).Nodup := by
  obtain ⟨D, h, _⟩ := h
  exact (h.ok hw).nd
theorem _root_.Go.Proofs.Ytbndmelkdamgjaa.OwnI.fits {f : Nat} {bf : Int → Int → Bool} {w w1 : World} {b : Nat} {K : Nat → Prop} {s : List (En Int)} {g : Int} (hw : Weak bf) (h : OwnI f bf w w1 b K s g) {e : En Int} (he : e ∈ s) : Go.Wk.fits e.id := by
  obtain ⟨D, h, _⟩ := h
  exact (h.ok hw).fit e he
theorem drop_cons {s : List (En Int)} {k : Nat} (h : k < s.length) : ∃ x t, s.drop k = x :: t ∧ s.drop (k + 1) = t ∧ (ids s).getD k 0 = x.id := by
  refine ⟨s[k], s.drop (k + 1), List.drop_eq_getElem_cons h, rfl, ?_⟩
  simp [ids, h]
/-- The blocks of a slice. -/
def BlkOf (v : Value) : Nat → Prop := fun k => v.ownBlock = some k
theorem own_keep {w w1 w2 : World} {K : Nat → Prop} {base n size : Nat} {e : TypeId} {v : Value} {xs : List Value} (h : w1.ownsRow base e size v n xs) (hf : Fr (Els w K) w1 w2) (hK : ∀ k, v.ownBlock = some k → K k) : w2.ownsRow base e size v n xs :=
  own_fr h hf (fun k hk hc => hc.2 (hK k hk))
set_option maxRecDepth 100000 in
set_option maxHeartbeats 40000000 in
theorem heapSorts_walk (A : Option Addr) (n c : Nat) (xs : List Int) (w : World) (h : Reads w w.heap.size 1 A n (xs.map (Value.int .u8))) (hw : ∀ x ∈ xs, 0 ≤ x ∧ x ≤ 255) (hc : n ≤ c) (hn : n ≤ 9223372036854775807) :
    Calls Try.prog 7 #[.slice A n c] w fun e w' => e = .returned (.bool true) ∧ Fr No w w' := by
  obtain ⟨N, hN⟩ : ∃ N : Nat, N = min n 100 := ⟨_, rfl⟩
  have hNn : N ≤ n := by omega
  have hN60 : N ≤ 100 := by omega
  have hNc : (N : Int) ≤ (c : Int) := by omega
  have hmin := fun ts t W => run_min2 ts t n N 100 (by omega) W
  have hl := h.length_ints
  have HW := Lib.hid (show ∀ x ∈ xs.take N, 0 ≤ x ∧ x ≤ 255 from fun x hx => hw x (List.mem_of_mem_take hx))
  have HR := Lib.hid (reads_cut h hNn)
  generalize xs.take N = ys at *
  have HFL := Lib.hid (filled_any A N c ys w HR.out HW.out hN60)
  have HLN := Lib.hid (okF ys N).ln
  obtain ⟨S, hS⟩ : ∃ S, S = stF ys N := ⟨_, rfl⟩
  have HSE := Lib.hid hS
  rw [← hS] at HLN
  clear h hw hl hN hS
  go_enter Try.func7, Try.ntmps7
  go_wp2_with fail
  refine HFL.out.mono ?_
  rintro e w1 ⟨b, rfl, h1⟩
  have H1 := Lib.hid h1
  have F1 := Lib.hid h1.fr
  have HSO := Lib.hid (sorted_any A N c ys w1 (HR.out.fr0 h1.fr) HW.out hN60)
  clear h1 hmin
  go_wp2_with fail
  refine HSO.out.mono ?_
  rintro e w2 ⟨A2, c2, rfl, ho2, hf2⟩
  rw [← HSE.out] at ho2
  have HO := Lib.hid (show OwnI 39 ltI w w2 b (BlkOf (.slice A2 N c2)) S N from by
    rw [HSE.out]
    exact H1.out.add hf2 (fun k hk => .inr ⟨(ho2.lt k hk).1, (ho2.lt k hk).2⟩))
  have OW := Lib.hid (own_base ho2 F1.out.size)
  clear ho2 hf2 H1 HSO HFL
  go_wp2_with fail
  refine (oIds bef_lt HO.out).mono ?_
  rintro e w3 ⟨A3, n3, c3, rfl, hn3, ho3, hf3⟩
  obtain rfl : n3 = N := hn3.trans (by simp [ids, HLN.out])
  have O3 := Lib.hid (own_fr OW.out hf3 (fun _ _ z => z))
  have EQ := Lib.hid (equal_ids ho3 (Fr.refl No w3) A2 c2 w3.heap.size (by omega) (Reads.of_own O3.out))
  have H3 := Lib.hid (HO.out.fr0 hf3)
  clear ho3 hf3 hn3 HO OW
  go_wp2_with fail
  refine EQ.out.mono ?_
  rintro e w4 ⟨rfl, hf4⟩
  have O4 := Lib.hid (own_fr O3.out hf4 (fun _ _ z => z))
  have H4 := Lib.hid (H3.out.fr0 hf4)
  clear hf4 EQ O3 H3
  go_wp2_with fail
  go_loopw [33] (fun iv wr => ∃ k : Nat, iv = .int .i64 k ∧ k ≤ n3 ∧ Hid (OwnI 39 ltI w wr b (BlkOf (.slice A2 n3 c2)) (S.drop k) n3) ∧ Hid (wr.ownsRow w.heap.size 3 1 (.slice A2 n3 c2) n3 (cells .i64 (ids S)))) (fun iv _ => n3 - (intOf iv).toNat)
  case atStart => exact ⟨0, rfl, Nat.zero_le _, H4, O4⟩
  case round =>
    clear H4 O4
    obtain ⟨k, rfl, hk, HO, OW⟩ := hrel
    by_cases hlt : k < n3
    · obtain ⟨G, q, hv, _⟩ := own_some OW.out (by omega)
      injection hv with hA _ hq
      subst hA
      subst hq
      obtain ⟨x, t, hxt, ht, hid⟩ := drop_cons (s := S) (k := k) (by rw [HLN.out]; exact hlt)
      have c0 : wr.cell? ⟨G, k, none⟩ = some (.int .i64 x.id) := (OW.out.cellAt k (by omega)).trans (by rw [← hid]; simp [cells, ids, show k < S.length by rw [HLN.out]; exact hlt])
      have HO1 := HO.out
      rw [hxt] at HO1
      have hnd := HO1.nodup weak_lt
      have hxn : decide (x.id ∈ ids t) = false := by
        have := (List.nodup_cons.1 (show (x.id :: ids t).Nodup from hnd)).1
        simpa using this
      have HFT := Lib.hid (HO1.fits weak_lt (List.mem_cons_self ..))
      have HT := Lib.hid (oTop weak_lt HO1)
      have HP := Lib.hid (oPop bef_lt HO1)
      have HE := Lib.hid (show topV (x :: t) = x.id ∧ topB (x :: t) = true ∧ (x :: t).tail = t from ⟨rfl, rfl, rfl⟩)
      rw [HE.out.1, HE.out.2.1] at HT
      rw [HE.out.1, HE.out.2.1, HE.out.2.2] at HP
      have htl : t.length = n3 - (k + 1) := by rw [← ht, List.length_drop, HLN.out]
      have HXN := Lib.hid hxn
      have HTD := Lib.hid ht
      have HTL := Lib.hid htl
      generalize hxi : x.id = xi at *
      have hlt2 : (k : Int) < (n3 : Int) := by omega
      have hne : (xi != xi) = false := by simp
      have hln : (((n3 - (k + 1) : Nat) : Int) != (n3 : Int) - 1 - (k : Int)) = false := by simp; omega
      clear hxt ht hid HO1 hnd hxn htl HE hxi HO
      go_wp2_with fail
      refine HT.out.mono ?_
      rintro e w5 ⟨rfl, rfl⟩
      go_wp2_with fail
      refine HP.out.mono ?_
      rintro e w6 ⟨rfl, h6, hf6⟩
      have H6 := Lib.hid h6
      have O6 := Lib.hid (own_keep OW.out hf6 (fun _ hk => hk))
      have C48 := Lib.hid (oHas h6 xi HFT.out)
      rw [HXN.out] at C48
      have C38 := Lib.hid (oLen h6)
      rw [HTL.out] at C38
      clear h6 hf6 c0 OW
      go_wp2_with fail
      refine C48.out.mono ?_
      rintro e w7 ⟨rfl, rfl⟩
      go_wp2_with fail
      refine C38.out.mono ?_
      rintro e w8 ⟨rfl, rfl⟩
      go_wp2
      go_roundw
      case rel => exact ⟨k + 1, by go_num, hlt, by rw [HTD.out]; exact H6, O6⟩
      case measure => simp [intOf]; omega
    · obtain rfl : k = n3 := by omega
      have HO1 := HO.out
      rw [List.drop_of_length_le (by rw [HLN.out]; exact Nat.le_refl _)] at HO1
      have HP := Lib.hid (oPop bef_lt HO1)
      rw [show topV ([] : List (En Int)) = 0 from rfl, show topB ([] : List (En Int)) = false from rfl] at HP
      clear HO1 OW HO
      go_wp2_with fail
      refine HP.out.mono ?_
      rintro e w5 ⟨rfl, h5, _⟩
      have F5 := Lib.hid h5.fr
      clear h5
      go_wp2_with fail
      refine (works_any _).mono ?_
      rintro e w6 ⟨rfl, hf⟩
      go_wp2
      go_ret
      exact ⟨rfl, F5.out.then0 hf⟩
end Go.Proofs.Ytbndmelkdamgjaa.So
