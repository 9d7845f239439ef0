/- slices.Delete of a range of numbers. -/
import Derived.Test.YtbndmelkdamgjaaIow
namespace Go.Proofs.Ytbndmelkdamgjaa.So
open Go.RowKit Go.Wk

theorem zeros_list (m : Nat) : (Builtin.zeroCells #[Value.int .i64 0] m).toList = List.replicate m (.int .i64 0) := by
  apply List.ext_getElem?
  intro j
  unfold Builtin.zeroCells
  have h1 : (#[Value.int .i64 0] : Array Value).size = 1 := rfl
  rw [h1, Nat.mul_one, Array.getElem?_toList, Array.getElem?_map]
  by_cases h : j < m
  · rw [Array.getElem?_range, if_pos h, List.getElem?_replicate, if_pos h, Option.map_some, Nat.mod_one]
    rfl
  · rw [Array.getElem?_range, if_neg h, List.getElem?_replicate, if_neg h]; rfl
theorem run_clearN (W : World) (ty : TypeId) (g o m c : Nat) (cs : Array Value) (h : Blk W g 3 cs) (ho : o + m ≤ cs.size) (hm : 0 < m) :
    (Builtin.clear_ #[39] ty #[.slice (some ⟨g, o, none⟩) m c]).run Try.prog W = .ok (.tuple #[]) (W.setCells g o (List.replicate m (.int .i64 0))) := by
  have hst := run_storeCells_cells (P := Try.prog) g o (List.replicate m (.int .i64 0)) 0 W (fun j hj => by
    rw [List.length_replicate] at hj
    rw [Nat.add_zero, h.cell, Array.getElem?_eq_getElem (by omega)]; rfl) (fun j _ => h.frozen _) (fun v hv => by rw [(List.mem_replicate.1 hv).2]; rfl)
  rw [Nat.add_zero] at hst
  have hz2 := zeros_list m
  obtain ⟨k, rfl⟩ : ∃ k, m = k + 1 := ⟨m - 1, by omega⟩
  have e : (Value.int .i64 0).cells = #[Value.int .i64 0] := by simp [Value.cells]
  simp [Builtin.clear_, run_underlying Try.underlying39, e, hz2, hst]

/-- A list without a range. -/
def delL (l : List Value) (i j : Nat) : List Value := l.take i ++ l.drop j
theorem delL_len (l : List Value) (i j : Nat) (hi : i ≤ j) (hj : j ≤ l.length) : (delL l i j).length = i + (l.length - j) := by
  unfold delL; rw [List.length_append, List.length_take, List.length_drop]; omega
theorem del_row (cur : Array Value) (l : List Value) (n c i j p m : Nat) (hsz : cur.size = c) (ht : ∀ k, k < n → cur[k]? = l[k]?) (hl : l.length = n) (hij : i < j) (hj : j ≤ n) (hnc : n ≤ c) (hp : p = i + (n - j)) (hm : p + m = n) :
    (setL (setL cur i (l.drop j)) p (List.replicate m (.int .i64 0))).toList.take p = delL l i j := by
  have hdl : (l.drop j).length = n - j := by rw [List.length_drop, hl]
  apply List.ext_getElem?
  intro k
  rw [List.getElem?_take]
  by_cases hk : k < p
  · rw [if_pos hk, Array.getElem?_toList, setL_get _ _ _ _ (by rw [setL_size, hsz, List.length_replicate]; omega), if_neg (by omega), setL_get _ _ _ _ (by rw [hsz, hdl]; omega), hdl]
    unfold delL
    by_cases hk2 : k < i
    · rw [if_neg (by omega), List.getElem?_append_left (by rw [List.length_take, hl]; omega), List.getElem?_take, if_pos hk2, ht k (by omega)]
    · rw [if_pos (by omega), List.getElem?_append_right (by rw [List.length_take, hl]; omega), List.length_take, hl, Nat.min_eq_left (by omega)]
  · rw [if_neg hk, List.getElem?_eq_none (by rw [delL_len l i j (by omega) (by omega), hl]; omega)]

/-- What Delete leaves. -/
def Deleted (w : World) (A : Option Addr) (c p : Nat) (xs : List Value) (e : Ending) (w' : World) : Prop := e = .returned (.slice A p c) ∧ w'.ownsRow 0 3 1 (.slice A p c) p xs ∧ Fr (fun k => (Value.slice A p c).ownBlock = some k) w w'

theorem del_none (A : Option Addr) (n c i : Nat) (l : List Value) (w : World) (ho : w.ownsRow 0 3 1 (.slice A n c) n l) (hi : i ≤ n) (hn : n ≤ 100000) :
    Calls Try.prog 51 #[.slice A n c, .int .i64 i, .int .i64 i] w (Deleted w A c n l) := by
  have O := Lib.hid ho
  have hnc := own_cap ho
  have hcm : c ≤ 9223372036854775807 := by
    rcases ho.2 with ⟨h1, h0⟩ | ⟨_, _, _, h1, _, _, _, h5, _⟩
    · injection h1 with _ _ h2; omega
    · injection h1 with _ _ h2; rw [h2]; simpa [maxLen] using h5
  have h1 : (i : Int) ≤ (n : Int) := by omega
  have h2 : (n : Int) ≤ (c : Int) := by omega
  clear ho
  by_cases hni : n = i
  · subst hni
    by_cases hci : c = n
    · subst hci
      go_enter Try.func51, Try.ntmps51
      go_wp2_with fail
      go_ret
      exact ⟨rfl, O.out, Fr.refl _ _⟩
    · have hci2 := hci
      go_enter Try.func51, Try.ntmps51
      go_wp2_with fail
      go_ret
      exact ⟨rfl, O.out, Fr.refl _ _⟩
  · have hci : ¬ c = i := by omega
    go_enter Try.func51, Try.ntmps51
    go_wp2_with fail
    go_ret
    exact ⟨rfl, O.out, Fr.refl _ _⟩

set_option maxHeartbeats 1000000 in
set_option maxRecDepth 100000 in
theorem del_some (g n c i j : Nat) (l : List Int) (w : World) (cur : Array Value) (hb : Blk w g 3 cur) (hsz : cur.size = c) (ht : ∀ k, k < n → cur[k]? = (cells .i64 l)[k]?) (hl : (cells .i64 l).length = n) (hij : i < j) (hj : j ≤ n) (hnc : n ≤ c) (hcm : c ≤ maxLen) (hn : n ≤ 100000) :
    Calls Try.prog 51 #[.slice (some ⟨g, 0, none⟩) n c, .int .i64 i, .int .i64 j] w (Deleted w (some ⟨g, 0, none⟩) c (i + (n - j)) (delL (cells .i64 l) i j)) := by
  have HB := Lib.hid hb
  have hcm' : c ≤ 9223372036854775807 := by simpa [maxLen] using hcm
  have hii : ((i : Int) == (j : Int)) = false := by simp; omega
  have hcs : ∀ k, k < c → (w.drew.cell? ⟨g, k, none⟩).isSome = true := fun k hk => by
    have h1 : Blk w.drew g 3 cur := HB.out
    rw [h1.cell, Array.getElem?_eq_getElem (by omega)]; rfl
  have HCS := Lib.hid hcs
  have HFZ := Lib.hid (show ∀ k, w.drew.frozen? ⟨g, k, none⟩ = false from (show Blk w.drew g 3 cur from HB.out).frozen)
  obtain ⟨i0, hi0, hi1⟩ : ∃ i, Try.prog.info? 3 = some i ∧ i.size = 1 := ⟨_, rfl, rfl⟩
  clear hcs hb
  have hic : i ≤ c := by omega
  have hjc : j ≤ c := by omega
  have hic3 : (0 : Int) ≤ (j : Int) := by omega
  have hic4 : (j : Int) ≤ (n : Int) := by omega
  have hic5 : (i : Int) ≤ (j : Int) := by omega
  obtain ⟨p, hp⟩ : ∃ p, i + (n - j) = p := ⟨_, rfl⟩
  have HP := Lib.hid hp
  have hpn : p < n := by omega
  have hpc : p ≤ c := by omega
  have hpn1 : (p : Int) ≤ (n : Int) := by omega
  have hpn2 : (n : Int) ≤ (c : Int) := by omega
  rw [hp]
  have HONE := Lib.hid (show ∀ u ∈ cells .i64 l, u.oneCell' = true from fun v hv => by
    simp only [cells, List.mem_map] at hv
    obtain ⟨z, _, rfl⟩ := hv
    rfl)
  have hcp : ¬ c = p := by omega
  by_cases hci : c = j
  · obtain ⟨news, hnews⟩ : ∃ news, news = (cells .i64 l).drop j := ⟨_, rfl⟩
    have HNL := Lib.hid (show news.length = (n - j) * 1 by rw [hnews, List.length_drop, hl]; omega)
    have HN1 := Lib.hid (show ∀ u ∈ news, u.oneCell' = true by rw [hnews]; exact fun u hu => HONE.out u (List.mem_of_mem_drop hu))
    have HNC := Lib.hid (show ∀ k u, news[k]? = some u → w.drew.cell? ((⟨g, 0, none⟩ : Addr).add k) = some u from fun k u hu => by
      rw [hnews, List.getElem?_eq_none (by rw [List.length_drop, hl]; omega)] at hu
      cases hu)
    have HCI := Lib.hid hci
    have hct : (c = j) = True := by simpa using hci
    clear hci
    have HNEWS := Lib.hid hnews
    have HT := Lib.hid ht
    have HL := Lib.hid hl
    clear hnews ht hl
    go_enter Try.func51, Try.ntmps51
    go_wp2_with fail
    go_region_law ((refine step_append_room rfl (.tmp 22) (.tmp 25) 39 rfl 3 i0 1 Try.underlying39 hi0 hi1 g 0 i c (by simp [Act.eval, Act.put]) ⟨g, 0, none⟩ (n - j) (c - j) news (by simp [Act.eval, Act.put]) HNL.out HNC.out HN1.out (by omega) (fun k hk => ⟨HCS.out _ (by have := HNL.out; omega), HFZ.out _⟩) ?_; rw [hp, Nat.zero_add, Nat.mul_one]))
    have hW : Blk (w.drew.setCells g i news) g 3 (setL cur i news) := blk_setCells _ _ _ _ HB.out
    have FW : Fr (· = g) w (w.drew.setCells g i news) := fr_setCells (S := (· = g)) rfl _ _ (Fr.refl _ _).drew
    generalize w.drew.setCells g i news = w1 at *
    have hcl : ∀ ty, (Builtin.clear_ #[39] ty #[.slice (some ⟨g, p, none⟩) (n - p) (c - p)]).run Try.prog w1 = .ok (.tuple #[]) (w1.setCells g p (List.replicate (n - p) (.int .i64 0))) := fun ty =>
      run_clearN w1 ty g p (n - p) (c - p) _ hW (by rw [setL_size, hsz]; omega) (by omega)
    go_wp2_with fail
    go_ret
    have hW2 := blk_setCells (List.replicate (n - p) (.int .i64 0)) _ p _ hW
    have FW2 : Fr (· = g) w (w1.setCells g p (List.replicate (n - p) (.int .i64 0))) := fr_setCells (S := (· = g)) rfl _ _ FW
    refine ⟨rfl, ⟨by rw [delL_len _ i j (by omega) (by rw [HL.out]; exact hj), HL.out, HP.out]; omega, .inr ⟨g, c, _, rfl, Nat.zero_le _, hW2, by omega, hcm, by rw [setL_size, setL_size, hsz]; omega, ?_⟩⟩, FW2.mono (fun b hb => by rw [hb]; rfl)⟩
    rw [HNEWS.out, Nat.mul_one]
    exact del_row cur _ n c i j p (n - p) hsz HT.out HL.out hij hj hnc HP.out.symm (by omega)
  · obtain ⟨news, hnews⟩ : ∃ news, news = (cells .i64 l).drop j := ⟨_, rfl⟩
    have HNL := Lib.hid (show news.length = (n - j) * 1 by rw [hnews, List.length_drop, hl]; omega)
    have HN1 := Lib.hid (show ∀ u ∈ news, u.oneCell' = true by rw [hnews]; exact fun u hu => HONE.out u (List.mem_of_mem_drop hu))
    have HNC := Lib.hid (show ∀ k u, news[k]? = some u → w.drew.cell? ((⟨g, j, none⟩ : Addr).add k) = some u from fun k u hu => by
      have h1 : Blk w.drew g 3 cur := HB.out
      rw [hnews, List.getElem?_drop] at hu
      have hjk : j + k < n := by have := (List.getElem?_eq_some_iff.1 hu).1; omega
      rw [add_plain, h1.cell, ht _ hjk]; exact hu)
    have HNEWS := Lib.hid hnews
    have HT := Lib.hid ht
    have HL := Lib.hid hl
    clear hnews ht hl
    go_enter Try.func51, Try.ntmps51
    go_wp2_with fail
    go_region_law ((refine step_append_room rfl (.tmp 22) (.tmp 25) 39 rfl 3 i0 1 Try.underlying39 hi0 hi1 g 0 i c (by simp [Act.eval, Act.put]) ⟨g, j, none⟩ (n - j) (c - j) news (by simp [Act.eval, Act.put]) HNL.out HNC.out HN1.out (by omega) (fun k hk => ⟨HCS.out _ (by have := HNL.out; omega), HFZ.out _⟩) ?_; rw [hp, Nat.zero_add, Nat.mul_one]))
    have hW : Blk (w.drew.setCells g i news) g 3 (setL cur i news) := blk_setCells _ _ _ _ HB.out
    have FW : Fr (· = g) w (w.drew.setCells g i news) := fr_setCells (S := (· = g)) rfl _ _ (Fr.refl _ _).drew
    generalize w.drew.setCells g i news = w1 at *
    have hcl : ∀ ty, (Builtin.clear_ #[39] ty #[.slice (some ⟨g, p, none⟩) (n - p) (c - p)]).run Try.prog w1 = .ok (.tuple #[]) (w1.setCells g p (List.replicate (n - p) (.int .i64 0))) := fun ty =>
      run_clearN w1 ty g p (n - p) (c - p) _ hW (by rw [setL_size, hsz]; omega) (by omega)
    go_wp2_with fail
    go_ret
    have hW2 := blk_setCells (List.replicate (n - p) (.int .i64 0)) _ p _ hW
    have FW2 : Fr (· = g) w (w1.setCells g p (List.replicate (n - p) (.int .i64 0))) := fr_setCells (S := (· = g)) rfl _ _ FW
    refine ⟨rfl, ⟨by rw [delL_len _ i j (by omega) (by rw [HL.out]; exact hj), HL.out, HP.out]; omega, .inr ⟨g, c, _, rfl, Nat.zero_le _, hW2, by omega, hcm, by rw [setL_size, setL_size, hsz]; omega, ?_⟩⟩, FW2.mono (fun b hb => by rw [hb]; rfl)⟩
    rw [HNEWS.out, Nat.mul_one]
    exact del_row cur _ n c i j p (n - p) hsz HT.out HL.out hij hj hnc HP.out.symm (by omega)
end Go.Proofs.Ytbndmelkdamgjaa.So
