/- slices.IndexFunc and slices.DeleteFunc of one number that stands once. -/
import Derived.Test.YtbndmelkdamgjaaCa
import Derived.Test.YtbndmelkdamgjaaDel
namespace Go.Proofs.Ytbndmelkdamgjaa.So
open Go.RowKit Go.Wk

/-- The number y stands at k, and nowhere else. -/
def Once (L : List Int) (y : Int) (k : Nat) : Prop := k < L.length ∧ L.getD k 0 = y ∧ ∀ q, q < L.length → q ≠ k → L.getD q 0 ≠ y
theorem once_of {L : List Int} {y : Int} (hn : L.Nodup) (hm : y ∈ L) : ∃ k, Once L y k := by
  obtain ⟨k, hk, he⟩ := List.getElem_of_mem hm
  refine ⟨k, hk, by simp [hk, he], fun q hq hne e => hne ?_⟩
  have : L[q] = L[k] := by rw [he]; simpa [hq] using e
  exact (List.getElem_inj hn).1 this
theorem indexf_any (A : Option Addr) (n c B : Nat) (L : List Int) (y : Int) (k0 g : Nat) (w : World) (h : Reads w B 1 A n (L.map (Value.int .i64))) (hg : w.cell? ⟨g, 0, none⟩ = some (.int .i64 y)) (ho : Once L y k0) (hn : n ≤ 1000000) :
    Calls Try.prog 81 #[.slice A n c, .func (.func 55) #[] #[.pointer (some ⟨g, 0, none⟩)]] w fun e w' => e = .returned (.int .i64 k0) ∧ w' = w := by
  have HR := Lib.hid h
  have hl := h.length_ints
  have HO := Lib.hid ho
  have HL := Lib.hid hl
  have hk0 : k0 < n := by rw [← hl]; exact ho.1
  clear h ho hl
  go_enter Try.func81, Try.ntmps81
  go_wp2
  go_loopw [8] (fun iv wr => ∃ i : Nat, iv = .int .i64 i ∧ i ≤ k0 ∧ w = wr) (fun iv _ => n - (intOf iv).toNat)
  case atStart => exact ⟨0, rfl, Nat.zero_le _, rfl⟩
  case round =>
    obtain ⟨i, rfl, hi, rfl⟩ := hrel
    have hlt : i < n := by omega
    obtain ⟨b, off, rfl, hb, x0⟩ := HR.out.int_at hlt
    have hlt2 : (i : Int) < (n : Int) := by omega
    by_cases hx : i = k0
    · subst hx
      rw [HO.out.2.1] at x0
      go_wp2_with fail
      refine (is_any y y g _ hg).mono ?_
      rintro e w1 ⟨rfl, rfl⟩
      have hyy : (y == y) = true := by simp
      go_wp2
      go_ret
      exact ⟨rfl, by first | rfl | trivial⟩
    · have hne := HO.out.2.2 i (by rw [HL.out]; exact hlt) hx
      generalize L.getD i 0 = z at *
      have hzy : (z == y) = false := by simpa using hne
      go_wp2_with fail
      refine (is_any z y g _ hg).mono ?_
      rintro e w1 ⟨rfl, rfl⟩
      go_wp2
      go_roundw
      case rel => exact ⟨i + 1, by go_num, by omega, by first | rfl | trivial⟩
      case measure => simp [intOf]; omega
/-- Behind the place k all up to p have moved down. -/
def DlI (L M : List Int) (k p : Nat) : Prop := M.length = L.length ∧ ∀ q, q < L.length → M.getD q 0 = if q < k then L.getD q 0 else if q < p then L.getD (q + 1) 0 else L.getD q 0
theorem DlI.start (L : List Int) (k : Nat) : DlI L L k k := ⟨rfl, fun q _ => by split <;> simp_all⟩
theorem DlI.step {L M : List Int} {k p : Nat} (h : DlI L M k p) (hk : k ≤ p) (hp : p + 1 < L.length) : M.getD (p + 1) 0 = L.getD (p + 1) 0 ∧ DlI L (M.set p (L.getD (p + 1) 0)) k (p + 1) := by
  obtain ⟨h1, h2⟩ := h
  refine ⟨by rw [h2 _ hp, if_neg (by omega), if_neg (by omega)], by rw [List.length_set, h1], fun q hq => ?_⟩
  have e : (M.set p (L.getD (p + 1) 0)).getD q 0 = if q = p then L.getD (p + 1) 0 else M.getD q 0 := by
    by_cases e : q = p
    · subst e; rw [if_pos rfl]; simp [show q < M.length by omega]
    · rw [if_neg e]; simp [Ne.symm e]
  rw [e]
  by_cases e1 : q = p
  · subst e1
    rw [if_pos rfl, if_neg (by omega), if_pos (by omega)]
  · rw [if_neg e1, h2 q hq]
    by_cases e2 : q < k
    · rw [if_pos e2, if_pos e2]
    · rw [if_neg e2, if_neg e2]
      by_cases e3 : q < p
      · rw [if_pos e3, if_pos (by omega)]
      · rw [if_neg e3, if_neg (by omega)]
theorem DlI.done {L M : List Int} {k p : Nat} (h : DlI L M k p) (hk : k ≤ p) (hp : p + 1 = L.length) : M.take p = L.eraseIdx k := by
  obtain ⟨h1, h2⟩ := h
  apply List.ext_getElem
  · rw [List.length_take, List.length_eraseIdx, if_pos (by omega)]; omega
  · intro q hq hq2
    rw [List.length_take] at hq
    rw [List.getElem_take, List.getElem_eraseIdx]
    have := h2 q (by omega)
    have g1 : M.getD q 0 = M[q]'(by omega) := by simp [show q < M.length by omega]
    rw [g1] at this
    rw [this]
    by_cases e : q < k
    · rw [if_pos e, dif_pos e]; simp [show q < L.length by omega]
    · rw [if_neg e, dif_neg e, if_pos (by omega)]; simp [show q + 1 < L.length by omega]
set_option maxRecDepth 100000 in
set_option maxHeartbeats 4000000 in
theorem deletef_any (G n c base : Nat) (L : List Int) (y : Int) (k0 g : Nat) (w : World) (ho : w.ownsRow base 3 1 (.slice (some ⟨G, 0, none⟩) n c) n (cells .i64 L)) (hg : Blk w g 3 #[.int .i64 y]) (hgG : g ≠ G) (hk : Once L y k0) (hn : n ≤ 100000) :
    Calls Try.prog 54 #[.slice (some ⟨G, 0, none⟩) n c, .func (.func 55) #[] #[.pointer (some ⟨g, 0, none⟩)]] w fun e w' => e = .returned (.slice (some ⟨G, 0, none⟩) (n - 1) c) ∧ w'.ownsRow base 3 1 (.slice (some ⟨G, 0, none⟩) (n - 1) c) (n - 1) (cells .i64 (L.eraseIdx k0)) ∧ Fr (· = G) w w' := by
  have hl : L.length = n := by have := ho.1; rw [cells_length] at this; omega
  have hk0 : k0 < n := by rw [← hl]; exact hk.1
  have HX := Lib.hid (indexf_any (some ⟨G, 0, none⟩) n c w.heap.size L y k0 g w (Reads.of_own ho) (hg.cell 0) hk (by omega))
  have HO := Lib.hid ho
  have HG := Lib.hid hg
  have HK := Lib.hid hk
  have HL := Lib.hid hl
  have hki : ((k0 : Int) == -1) = false := by simp
  have hcc := own_cap ho
  clear ho hg hk hl
  go_enter Try.func54, Try.ntmps54
  go_wp2_with fail
  refine HX.out.mono ?_
  rintro e w1 ⟨rfl, rfl⟩
  go_wp2
  clear hki HX
  go_loopw [5, 6] (fun iv jv wr => ∃ (p : Nat) (M : List Int), iv = .int .i64 p ∧ jv = .int .i64 ((p : Int) + 1) ∧ k0 ≤ p ∧ p + 1 ≤ n ∧ Hid (DlI L M k0 p) ∧ Hid (wr.ownsRow base 3 1 (.slice (some ⟨G, 0, none⟩) n c) n (cells .i64 M)) ∧ Hid (Fr (· = G) w1 wr)) (fun iv _ _ => n - (intOf iv).toNat)
  case atStart => exact ⟨k0, L, rfl, by go_num, Nat.le_refl _, by omega, Lib.hid (DlI.start L k0), HO, Lib.hid (Fr.refl _ _)⟩
  case round =>
    clear HO
    obtain ⟨p, M, rfl, rfl, hkp, hpn, HI, HM, HF⟩ := hrel
    by_cases hlt : p + 1 < n
    · have hst := HI.out.step hkp (by rw [HL.out]; exact hlt)
      have hml : M.length = n := HI.out.1.trans HL.out
      have hne := HK.out.2.2 (p + 1) (by rw [HL.out]; exact hlt) (by omega)
      have c1 : wr.cell? ⟨G, p + 1, none⟩ = some (.int .i64 (L.getD (p + 1) 0)) := (HM.out.cellAt (p + 1) (by omega)).trans (by rw [← hst.1]; simp [cells, show p + 1 < M.length by omega])
      have c2 : (wr.cell? ⟨G, p, none⟩).isSome = true := by
        rw [HM.out.cellAt p (by omega)]; simp [cells, show p < M.length by omega]
      obtain ⟨u2, c3⟩ := Option.isSome_iff_exists.1 c2
      have z1 := HM.out.frozenAt p
      have HNX := Lib.hid hst.2
      have HN := Lib.hid (show (wr.setCell ⟨G, p, none⟩ (.int .i64 (L.getD (p + 1) 0))).ownsRow base 3 1 (.slice (some ⟨G, 0, none⟩) n c) n (cells .i64 (M.set p (L.getD (p + 1) 0))) from by
        have a := (HM.out.stored p (.int .i64 (L.getD (p + 1) 0))).1
        have e : (cells .i64 M).set p (.int .i64 (L.getD (p + 1) 0)) = cells .i64 (M.set p (L.getD (p + 1) 0)) := by simp [cells, List.map_set]
        rw [e] at a
        exact a)
      have FN := Lib.hid (show Fr (· = G) w1 (wr.setCell ⟨G, p, none⟩ (.int .i64 (L.getD (p + 1) 0))) from HF.out.setCell (.inr rfl) _)
      have HC := Lib.hid (fun z => is_any z y g wr ((HG.out.fr HF.out hgG).cell 0))
      generalize L.getD (p + 1) 0 = z at *
      have hzy : (z == y) = false := by simpa using hne
      have hp1 : (p : Int) + 1 < (n : Int) := by omega
      have hp2 : (0 : Int) ≤ (p : Int) + 1 := by omega
      have hp3 : ((p : Int) + 1).toNat = p + 1 := by omega
      have hp4 : (p : Int) < (n : Int) := by omega
      clear hst hml hne c2
      go_wp2_with fail
      refine (HC.out z).mono ?_
      rintro e w2 ⟨rfl, rfl⟩
      rw [hzy]
      go_wp2
      go_roundw
      case rel => exact ⟨p + 1, _, by go_num, by go_num, by omega, by omega, HNX, HN, FN⟩
      case measure => simp [intOf]; omega
    · have hpn2 : p + 1 = n := by omega
      have hge : ¬ (p : Int) + 1 < (n : Int) := by omega
      have HD := Lib.hid (HI.out.done hkp (by rw [HL.out]; exact hpn2))
      have hml : M.length = n := HI.out.1.trans HL.out
      rcases HM.out.2 with ⟨e1, _⟩ | ⟨G', cap, cur, e1, hbG, hb, hnc, hcm, hcs, htk⟩
      · cases e1
      · injection e1 with e1 _ e2
        injection e1 with e1
        injection e1 with e1
        subst e1
        subst e2
        have hcl : ∀ ty, (Builtin.clear_ #[39] ty #[.slice (some ⟨G, p, none⟩) (n - p) (c - p)]).run Try.prog wr = .ok (.tuple #[]) (wr.setCells G p (List.replicate (n - p) (.int .i64 0))) := fun ty => run_clearN wr ty G p (n - p) (c - p) cur hb (by omega) (by omega)
        have hW := Lib.hid (blk_setCells (List.replicate (n - p) (.int .i64 0)) cur p wr hb)
        have FW := Lib.hid (fr_setCells (S := (· = G)) rfl (List.replicate (n - p) (.int .i64 0)) p HF.out)
        have HP := Lib.hid hpn2
        have HTK := Lib.hid htk
        have hpc : (p : Int) ≤ (c : Int) := by omega
        have hpn3 : (p : Int) ≤ (n : Int) := by omega
        have hcp : ¬ c = p := by omega
        clear hb htk hpn2 hge
        go_wp2_with fail
        go_ret
        have hpn4 := HP.out
        refine ⟨by rw [show n - 1 = p by omega]; rfl, ?_, FW.out⟩
        rw [show n - 1 = p by omega]
        refine ⟨by rw [← HD.out, cells_length, List.length_take]; omega, .inr ⟨G, c, _, rfl, hbG, hW.out, by omega, hcm, by rw [setL_size]; exact hcs, ?_⟩⟩
        rw [← HD.out]
        apply List.ext_getElem?
        intro q
        rw [List.getElem?_take]
        by_cases hq : q < p * 1
        · rw [if_pos hq, Array.getElem?_toList, setL_get _ _ _ _ (by rw [List.length_replicate]; omega), if_neg (by omega)]
          have h1 : cur[q]? = (cells .i64 M)[q]? := by rw [← HTK.out, List.getElem?_take, if_pos (by omega), Array.getElem?_toList]
          rw [h1]
          simp [cells, show q < p by omega]
        · rw [if_neg hq, List.getElem?_eq_none (by rw [cells_length, List.length_take]; omega)]
end Go.Proofs.Ytbndmelkdamgjaa.So
