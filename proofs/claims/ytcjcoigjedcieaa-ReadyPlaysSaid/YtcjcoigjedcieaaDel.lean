/- slices.Delete of a range of items. -/
import Derived.Test.YtcjcoigjedcieaaIow
namespace Go.Proofs.Ytcjcoigjedcieaa
open Go.RowKit Go.Wk

def zs (m : Nat) : List Value := (Builtin.zeroCells zI.cells m).toList
theorem zs_len (m : Nat) : (zs m).length = m * 4 := by unfold zs; rw [Array.length_toList, zI_size]
theorem zs_one (m : Nat) : ∀ v ∈ zs m, v.oneCell' = true := by
  intro v hv
  unfold zs Builtin.zeroCells at hv
  rw [Array.mem_toList_iff, Array.mem_map] at hv
  obtain ⟨k, _, rfl⟩ := hv
  have e : zI.cells = #[.int .i64 0, .int .i64 0, .int .i64 0, .int .i64 0] := by unfold zI; simp [Value.cells]
  rw [e]
  have h4 : k % 4 < 4 := Nat.mod_lt _ (by decide)
  show ((#[Value.int .i64 0, .int .i64 0, .int .i64 0, .int .i64 0] : Array Value)[k % 4]!).oneCell' = true
  generalize k % 4 = r at *
  match r, h4 with
  | 0, _ => rfl
  | 1, _ => rfl
  | 2, _ => rfl
  | 3, _ => rfl
theorem run_clearN (W : World) (ty : TypeId) (g o m c : Nat) (cs : Array Value) (h : Blk W g 31 cs) (ho : o + m * 4 ≤ cs.size) (hm : 0 < m) :
    (Builtin.clear_ #[26] ty #[.slice (some ⟨g, o, none⟩) m c]).run Try.prog W = .ok (.tuple #[]) (W.setCells g o (zs m)) := by
  have hst := run_storeCells_cells (P := Try.prog) g o (zs m) 0 W (fun j hj => by
    rw [zs_len] at hj
    rw [Nat.add_zero, h.cell, Array.getElem?_eq_getElem (by omega)]; rfl) (fun j _ => h.frozen _) (zs_one m)
  rw [Nat.add_zero] at hst
  unfold zs zI at *
  obtain ⟨k, rfl⟩ : ∃ k, m = k + 1 := ⟨m - 1, by omega⟩
  simp [Builtin.clear_, run_underlying Try.underlying26, hst]

/-- A list without a range. -/
def delL (l : List Value) (i j : Nat) : List Value := l.take i ++ l.drop j
theorem delL_len (l : List Value) (i j : Nat) (hi : i ≤ j) (hj : j ≤ l.length) : (delL l i j).length = i + (l.length - j) := by
  unfold delL; rw [List.length_append, List.length_take, List.length_drop]; omega
theorem del_row (cur : Array Value) (l zz : List Value) (n c i j p m : Nat) (hzz : zz.length = m) (hsz : cur.size = c) (ht : ∀ k, k < n → cur[k]? = l[k]?) (hl : l.length = n) (hij : i < j) (hj : j ≤ n) (hnc : n ≤ c) (hp : p = i + (n - j)) (hm : p + m = n) :
    (setL (setL cur i (l.drop j)) p zz).toList.take p = delL l i j := by
  have hdl : (l.drop j).length = n - j := by rw [List.length_drop, hl]
  apply List.ext_getElem?
  intro k
  rw [List.getElem?_take]
  by_cases hk : k < p
  · rw [if_pos hk, Array.getElem?_toList, setL_get _ _ _ _ (by rw [setL_size, hsz, hzz]; omega), if_neg (by omega), setL_get _ _ _ _ (by rw [hsz, hdl]; omega), hdl]
    unfold delL
    by_cases hk2 : k < i
    · rw [if_neg (by omega), List.getElem?_append_left (by rw [List.length_take, hl]; omega), List.getElem?_take, if_pos hk2, ht k (by omega)]
    · rw [if_pos (by omega), List.getElem?_append_right (by rw [List.length_take, hl]; omega), List.length_take, hl, Nat.min_eq_left (by omega)]
  · rw [if_neg hk, List.getElem?_eq_none (by rw [delL_len l i j (by omega) (by omega), hl]; omega)]

/-- What Delete leaves. -/
def Deleted (w : World) (A : Option Addr) (c p : Nat) (xs : List Value) (e : Ending) (w' : World) : Prop := e = .returned (.slice A p c) ∧ w'.ownsRow 0 31 4 (.slice A p c) p xs ∧ Fr (fun k => (Value.slice A p c).ownBlock = some k) w w'

theorem del_none (A : Option Addr) (n c i : Nat) (l : List Value) (w : World) (ho : w.ownsRow 0 31 4 (.slice A n c) n l) (hi : i ≤ n) (hn : n ≤ 100000) :
    Calls Try.prog 28 #[.slice A n c, .int .i64 i, .int .i64 i] w (Deleted w A c n l) := by
  have O := Lib.hid ho
  have hnc := own_cap ho
  have hcm : c ≤ 9223372036854775807 := by
    rcases ho.2 with ⟨h1, h0⟩ | ⟨_, _, _, h1, _, _, _, h5, _⟩
    · injection h1 with _ _ h2; omega
    · injection h1 with _ _ h2; rw [h2]; simpa [maxLen] using h5
  have h1 : (i : Int) ≤ (n : Int) := by omega
  have h2 : (n : Int) ≤ (c : Int) := by omega
  clear ho
  by_cases hni : n = i
  · subst hni
    by_cases hci : c = n
    · subst hci
      go_enter Try.func28, Try.ntmps28
      go_wp2_with fail
      go_ret
      exact ⟨rfl, O.out, Fr.refl _ _⟩
    · have hci2 := hci
      go_enter Try.func28, Try.ntmps28
      go_wp2_with fail
      go_ret
      exact ⟨rfl, O.out, Fr.refl _ _⟩
  · have hci : ¬ c = i := by omega
    go_enter Try.func28, Try.ntmps28
    go_wp2_with fail
    go_ret
    exact ⟨rfl, O.out, Fr.refl _ _⟩

set_option maxRecDepth 100000 in
set_option maxHeartbeats 4000000 in
theorem del_some (g n c i j : Nat) (l : List IV) (w : World) (cur : Array Value) (hb : Blk w g 31 cur) (hsz : cur.size = c * 4) (ht : ∀ k, k < n * 4 → cur[k]? = (icells l)[k]?) (hl : (icells l).length = n * 4) (hij : i < j) (hj : j ≤ n) (hnc : n ≤ c) (hcm : c ≤ maxLen) (hn : n ≤ 100000) :
    Calls Try.prog 28 #[.slice (some ⟨g, 0, none⟩) n c, .int .i64 i, .int .i64 j] w (Deleted w (some ⟨g, 0, none⟩) c (i + (n - j)) (delL (icells l) (i * 4) (j * 4))) := by
  have HB := Lib.hid hb
  have hcm' : c ≤ 9223372036854775807 := by simpa [maxLen] using hcm
  have hii : ((i : Int) == (j : Int)) = false := by simp; omega
  have hcs : ∀ k, k < c * 4 → (w.drew.cell? ⟨g, k, none⟩).isSome = true := fun k hk => by
    have h1 : Blk w.drew g 31 cur := HB.out
    rw [h1.cell, Array.getElem?_eq_getElem (by omega)]; rfl
  have HCS := Lib.hid hcs
  have HFZ := Lib.hid (show ∀ k, w.drew.frozen? ⟨g, k, none⟩ = false from (show Blk w.drew g 31 cur from HB.out).frozen)
  obtain ⟨i0, hi0, hi1⟩ : ∃ i, Try.prog.info? 31 = some i ∧ i.size = 4 := ⟨_, rfl, rfl⟩
  clear hcs hb
  have hic : i ≤ c := by omega
  have hjc : j ≤ c := by omega
  have hic3 : (0 : Int) ≤ (j : Int) := by omega
  have hic4 : (j : Int) ≤ (n : Int) := by omega
  have hic5 : (i : Int) ≤ (j : Int) := by omega
  obtain ⟨p, hp⟩ : ∃ p, i + (n - j) = p := ⟨_, rfl⟩
  have HP := Lib.hid hp
  have hpn : p < n := by omega
  have hpc : p ≤ c := by omega
  have hpn1 : (p : Int) ≤ (n : Int) := by omega
  have hpn2 : (n : Int) ≤ (c : Int) := by omega
  rw [hp]
  have HONE := Lib.hid (icells_one l)
  have hcp : ¬ c = p := by omega
  by_cases hci : c = j
  · obtain ⟨news, hnews⟩ : ∃ news, news = (icells l).drop (j * 4) := ⟨_, rfl⟩
    have HNL := Lib.hid (show news.length = (n - j) * 4 by rw [hnews, List.length_drop, hl]; omega)
    have HN1 := Lib.hid (show ∀ u ∈ news, u.oneCell' = true by rw [hnews]; exact fun u hu => HONE.out u (List.mem_of_mem_drop hu))
    have HNC := Lib.hid (show ∀ k u, news[k]? = some u → w.drew.cell? ((⟨g, 0, none⟩ : Addr).add k) = some u from fun k u hu => by
      rw [hnews, List.getElem?_eq_none (by rw [List.length_drop, hl]; omega)] at hu
      cases hu)
    have HCI := Lib.hid hci
    have hct : (c = j) = True := by simpa using hci
    clear hci
    have HNEWS := Lib.hid hnews
    have HT := Lib.hid ht
    have HL := Lib.hid hl
    clear hnews ht hl
    go_enter Try.func28, Try.ntmps28
    go_wp2_with fail
    go_region_law ((refine step_append_room rfl (.tmp 22) (.tmp 25) 26 rfl 31 i0 4 Try.underlying26 hi0 hi1 g 0 i c (by simp [Act.eval, Act.put]) ⟨g, 0, none⟩ (n - j) (c - j) news (by simp [Act.eval, Act.put]) HNL.out HNC.out HN1.out (by omega) (fun k hk => ⟨HCS.out _ (by have := HNL.out; omega), HFZ.out _⟩) ?_; rw [hp, Nat.zero_add]))
    have hW : Blk (w.drew.setCells g (i * 4) news) g 31 (setL cur (i * 4) news) := blk_setCells _ _ _ _ HB.out
    have FW : Fr (· = g) w (w.drew.setCells g (i * 4) news) := fr_setCells (S := (· = g)) rfl _ _ (Fr.refl _ _).drew
    generalize w.drew.setCells g (i * 4) news = w1 at *
    have hcl : ∀ ty, (Builtin.clear_ #[26] ty #[.slice (some ⟨g, p * 4, none⟩) (n - p) (c - p)]).run Try.prog w1 = .ok (.tuple #[]) (w1.setCells g (p * 4) (zs (n - p))) := fun ty =>
      run_clearN w1 ty g (p * 4) (n - p) (c - p) _ hW (by rw [setL_size, hsz]; omega) (by omega)
    go_wp2_with fail
    go_ret
    have hW2 := blk_setCells (zs (n - p)) _ (p * 4) _ hW
    have FW2 : Fr (· = g) w (w1.setCells g (p * 4) (zs (n - p))) := fr_setCells (S := (· = g)) rfl _ _ FW
    refine ⟨rfl, ⟨by rw [delL_len _ (i * 4) (j * 4) (by omega) (by rw [HL.out]; omega), HL.out]; have := HP.out; omega, .inr ⟨g, c, _, rfl, Nat.zero_le _, hW2, by omega, hcm, by rw [setL_size, setL_size, hsz], ?_⟩⟩, FW2.mono (fun b hb => by rw [hb]; rfl)⟩
    rw [HNEWS.out]
    exact del_row cur _ _ (n * 4) (c * 4) (i * 4) (j * 4) (p * 4) ((n - p) * 4) (zs_len _) hsz HT.out HL.out (by omega) (by omega) (by omega) (by have := HP.out; omega) (by omega)
  · obtain ⟨news, hnews⟩ : ∃ news, news = (icells l).drop (j * 4) := ⟨_, rfl⟩
    have HNL := Lib.hid (show news.length = (n - j) * 4 by rw [hnews, List.length_drop, hl]; omega)
    have HN1 := Lib.hid (show ∀ u ∈ news, u.oneCell' = true by rw [hnews]; exact fun u hu => HONE.out u (List.mem_of_mem_drop hu))
    have HNC := Lib.hid (show ∀ k u, news[k]? = some u → w.drew.cell? ((⟨g, j * 4, none⟩ : Addr).add k) = some u from fun k u hu => by
      have h1 : Blk w.drew g 31 cur := HB.out
      rw [hnews, List.getElem?_drop] at hu
      have hjk : j * 4 + k < n * 4 := by have := (List.getElem?_eq_some_iff.1 hu).1; omega
      rw [add_plain, h1.cell, ht _ hjk]; exact hu)
    have HNEWS := Lib.hid hnews
    have HT := Lib.hid ht
    have HL := Lib.hid hl
    clear hnews ht hl
    go_enter Try.func28, Try.ntmps28
    go_wp2_with fail
    go_region_law ((refine step_append_room rfl (.tmp 22) (.tmp 25) 26 rfl 31 i0 4 Try.underlying26 hi0 hi1 g 0 i c (by simp [Act.eval, Act.put]) ⟨g, j * 4, none⟩ (n - j) (c - j) news (by simp [Act.eval, Act.put]) HNL.out HNC.out HN1.out (by omega) (fun k hk => ⟨HCS.out _ (by have := HNL.out; omega), HFZ.out _⟩) ?_; rw [hp, Nat.zero_add]))
    have hW : Blk (w.drew.setCells g (i * 4) news) g 31 (setL cur (i * 4) news) := blk_setCells _ _ _ _ HB.out
    have FW : Fr (· = g) w (w.drew.setCells g (i * 4) news) := fr_setCells (S := (· = g)) rfl _ _ (Fr.refl _ _).drew
    generalize w.drew.setCells g (i * 4) news = w1 at *
    have hcl : ∀ ty, (Builtin.clear_ #[26] ty #[.slice (some ⟨g, p * 4, none⟩) (n - p) (c - p)]).run Try.prog w1 = .ok (.tuple #[]) (w1.setCells g (p * 4) (zs (n - p))) := fun ty =>
      run_clearN w1 ty g (p * 4) (n - p) (c - p) _ hW (by rw [setL_size, hsz]; omega) (by omega)
    go_wp2_with fail
    go_ret
    have hW2 := blk_setCells (zs (n - p)) _ (p * 4) _ hW
    have FW2 : Fr (· = g) w (w1.setCells g (p * 4) (zs (n - p))) := fr_setCells (S := (· = g)) rfl _ _ FW
    refine ⟨rfl, ⟨by rw [delL_len _ (i * 4) (j * 4) (by omega) (by rw [HL.out]; omega), HL.out]; have := HP.out; omega, .inr ⟨g, c, _, rfl, Nat.zero_le _, hW2, by omega, hcm, by rw [setL_size, setL_size, hsz], ?_⟩⟩, FW2.mono (fun b hb => by rw [hb]; rfl)⟩
    rw [HNEWS.out]
    exact del_row cur _ _ (n * 4) (c * 4) (i * 4) (j * 4) (p * 4) ((n - p) * 4) (zs_len _) hsz HT.out HL.out (by omega) (by omega) (by omega) (by have := HP.out; omega) (by omega)
end Go.Proofs.Ytcjcoigjedcieaa
