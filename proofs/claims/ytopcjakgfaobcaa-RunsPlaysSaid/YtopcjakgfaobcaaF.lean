/- slices.Delete of one run. -/
import Derived.Test.YtopcjakgfaobcaaE
import Derived.Lib.SliceRun
namespace Go.Proofs.Ytopcjakgfaobcaa
open Go.RowKit Go.Wk

def setL (cs : Array Value) : Nat → List Value → Array Value
  | _, [] => cs
  | o, v :: r => setL (cs.setIfInBounds o v) (o + 1) r
theorem setL_size : ∀ (vs : List Value) (cs : Array Value) (o : Nat), (setL cs o vs).size = cs.size
  | [], _, _ => rfl
  | v :: r, cs, o => by rw [setL, setL_size r]; simp
theorem setL_get : ∀ (vs : List Value) (cs : Array Value) (o j : Nat), o + vs.length ≤ cs.size → (setL cs o vs)[j]? = if o ≤ j ∧ j < o + vs.length then vs[j - o]? else cs[j]?
  | [], cs, o, j, _ => by simp [setL]; intro h1 h2; omega
  | v :: r, cs, o, j, h => by
    simp only [List.length_cons] at h
    rw [setL, setL_get r (cs.setIfInBounds o v) (o + 1) j (by simp; omega), Array.getElem?_setIfInBounds]
    simp only [List.length_cons]
    rcases (show j < o ∨ j = o ∨ (o < j ∧ j < o + (r.length + 1)) ∨ o + (r.length + 1) ≤ j by omega) with h1 | h1 | h1 | h1
    · rw [if_neg (by omega), if_neg (by omega), if_neg (by omega)]
    · subst h1
      rw [if_neg (by omega), if_pos rfl, if_pos (by omega), if_pos (by omega), Nat.sub_self]
      rfl
    · rw [if_pos (by omega), if_pos (by omega), show j - o = (j - (o + 1)) + 1 by omega, List.getElem?_cons_succ]
    · rw [if_neg (by omega), if_neg (by omega), if_neg (by omega)]
theorem blk_setCells {g : Nat} {t : TypeId} : ∀ (vs : List Value) (cs : Array Value) (o : Nat) (w : World), Blk w g t cs → Blk (w.setCells g o vs) g t (setL cs o vs)
  | [], _, _, _, h => h
  | v :: r, cs, o, _, h => blk_setCells r (cs.setIfInBounds o v) (o + 1) _ (h.set_ o v)

theorem run_clear1 (W : World) (ty : TypeId) (g o c : Nat) (cs : Array Value) (h : Blk W g 31 cs) (ho : o + 5 ≤ cs.size) :
    (Builtin.clear_ #[37] ty #[.slice (some ⟨g, o, none⟩) 1 c]).run Try.prog W = .ok (.tuple #[]) (W.setCells g o RV.zero.cells) := by
  have hst := run_storeCells_cells (P := Try.prog) g o RV.zero.cells 0 W (fun j hj => by
    have : j < 5 := hj
    rw [Nat.add_zero, h.cell, Array.getElem?_eq_getElem (by omega)]; rfl) (fun j _ => h.frozen _) (by decide)
  rw [Nat.add_zero] at hst
  have hz : (Builtin.zeroCells (Value.agg #[.int .i64 0, .int .i64 0, .int .i64 0, .int .i64 0, .int .i64 0]).cells 1).toList = RV.zero.cells := by kernel_rfl
  simp [Builtin.clear_, run_underlying Try.underlying37, hz, hst]

theorem rcells_take (l : List RV) : ∀ i, rcells (l.take i) = (rcells l).take (i * 5) := by
  induction l with
  | nil => intro i; simp [rcells]
  | cons a l ih =>
    intro i
    cases i with
    | zero => simp [rcells]
    | succ i =>
      have h5 : a.cells.length = 5 := rfl
      have := ih i
      simp only [rcells, List.take_succ_cons, List.flatMap_cons] at this ⊢
      rw [this, List.take_append, h5, show (i + 1) * 5 - 5 = i * 5 by omega, List.take_of_length_le (show a.cells.length ≤ (i + 1) * 5 by omega)]
theorem rcells_drop (l : List RV) : ∀ i, rcells (l.drop i) = (rcells l).drop (i * 5) := by
  induction l with
  | nil => intro i; simp [rcells]
  | cons a l ih =>
    intro i
    cases i with
    | zero => simp
    | succ i =>
      have h5 : a.cells.length = 5 := rfl
      have := ih i
      simp only [rcells, List.drop_succ_cons, List.flatMap_cons] at this ⊢
      rw [this, List.drop_append, h5, show (i + 1) * 5 - 5 = i * 5 by omega, List.drop_of_length_le (show a.cells.length ≤ (i + 1) * 5 by omega), List.nil_append]
theorem rcells_erase (l : List RV) (i : Nat) : rcells (l.eraseIdx i) = (rcells l).take (i * 5) ++ (rcells l).drop ((i + 1) * 5) := by
  rw [List.eraseIdx_eq_take_drop_succ, rcells_app, rcells_take, rcells_drop]

/-- What lies in the row behind the deletion. -/
theorem del_row (cur : Array Value) (l : List RV) (n c i p : Nat) (hsz : cur.size = c * 5) (ht : cur.toList.take (n * 5) = rcells l) (hl : l.length = n) (hi : i < n) (hnc : n ≤ c) (hp : p + 1 = n) (zs : List Value) (hz : zs.length = 5) :
    (setL (setL cur (i * 5) ((rcells l).drop ((i + 1) * 5))) (p * 5) zs).toList.take (p * 5) = rcells (l.eraseIdx i) := by
  have hrl : (rcells l).length = n * 5 := by rw [rcells_len, hl]
  have hdl : ((rcells l).drop ((i + 1) * 5)).length = (p - i) * 5 := by rw [List.length_drop, hrl]; omega
  rw [rcells_erase]
  apply List.ext_getElem?
  intro j
  rw [List.getElem?_take]
  by_cases hj : j < p * 5
  · rw [if_pos hj, Array.getElem?_toList, setL_get _ _ _ _ (by rw [setL_size, hsz, hz]; omega), if_neg (by omega), setL_get _ _ _ _ (by rw [hsz, hdl]; omega), hdl]
    by_cases hj2 : j < i * 5
    · rw [if_neg (by omega), List.getElem?_append_left (by rw [List.length_take, hrl]; omega), List.getElem?_take, if_pos hj2, ← ht, List.getElem?_take, if_pos (by omega)]
      simp
    · rw [if_pos (by omega), List.getElem?_append_right (by rw [List.length_take, hrl]; omega), List.length_take, hrl, Nat.min_eq_left (by omega)]
  · rw [if_neg hj, List.getElem?_eq_none]
    rw [List.length_append, List.length_take, hdl, hrl]; omega

theorem del_any (g n c i : Nat) (l : List RV) (w : World) (cur : Array Value) (hb : Blk w g 31 cur) (hsz : cur.size = c * 5) (ht : cur.toList.take (n * 5) = rcells l) (hl : l.length = n) (hi : i < n) (hnc : n ≤ c) (hcm : c ≤ maxLen) (hn : n ≤ 1000) :
    Calls Try.prog 37 #[.slice (some ⟨g, 0, none⟩) n c, .int .i64 i, .int .i64 ((i : Int) + 1)] w fun x w' => x = .returned (.slice (some ⟨g, 0, none⟩) (n - 1 : Nat) c) ∧ w'.ownsRow 0 31 5 (.slice (some ⟨g, 0, none⟩) (n - 1 : Nat) c) (n - 1) (rcells (l.eraseIdx i)) ∧ Fr (· = g) w w' := by
  have HB := Lib.hid hb
  have hcm' : c ≤ 9223372036854775807 := by simpa [maxLen] using hcm
  have hii : ((i : Int) == (i : Int) + 1) = false := by simp; omega
  have hcs : ∀ k, k < c * 5 → (w.drew.cell? ⟨g, k, none⟩).isSome = true := fun k hk => by
    have h1 : Blk w.drew g 31 cur := HB.out
    rw [h1.cell, Array.getElem?_eq_getElem (by omega)]; rfl
  have HCS := Lib.hid hcs
  have HFZ := Lib.hid (show ∀ k, w.drew.frozen? ⟨g, k, none⟩ = false from (show Blk w.drew g 31 cur from HB.out).frozen)
  obtain ⟨i0, hi0, hi5⟩ : ∃ i, Try.prog.info? 31 = some i ∧ i.size = 5 := ⟨_, rfl, rfl⟩
  clear hcs hb
  have hic : i ≤ c := by omega
  have hic1 : i + 1 ≤ c := by omega
  have hic2 : i + 1 ≤ n := by omega
  have hic3 : (0 : Int) ≤ (i : Int) + 1 := by omega
  have hic4 : (i : Int) + 1 ≤ (n : Int) := by omega
  obtain ⟨p, hp⟩ : ∃ p, i + (n - (i + 1)) = p := ⟨_, rfl⟩
  have hpn : p + 1 = n := by omega
  have HPN := Lib.hid hpn
  have hpc : p ≤ c := by omega
  have hpn1 : (p : Int) ≤ (n : Int) := by omega
  have hpn2 : (n : Int) ≤ (c : Int) := by omega
  clear hpn
  by_cases hci : c = i + 1
  · obtain ⟨news, hnews⟩ : ∃ news, news = (rcells l).drop ((i + 1) * 5) := ⟨_, rfl⟩
    have HNL := Lib.hid (show news.length = (n - (i + 1)) * 5 by rw [hnews, List.length_drop, rcells_len, hl]; omega)
    have HN1 := Lib.hid (show ∀ u ∈ news, u.oneCell' = true by rw [hnews]; exact fun u hu => rcells_one l u (List.mem_of_mem_drop hu))
    have HNC := Lib.hid (show ∀ j u, news[j]? = some u → w.drew.cell? ((⟨g, 0, none⟩ : Addr).add j) = some u from fun j u hu => by
      rw [hnews, List.getElem?_eq_none (by rw [List.length_drop, rcells_len, hl]; omega)] at hu
      cases hu)
    have hct : (c = i + 1) = True := by simpa using hci
    have HCI := Lib.hid hci
    clear hci
    have HNEWS := Lib.hid hnews
    clear hnews
    go_enter Try.func37, Try.ntmps37
    go_wp2_with fail
    go_region_law ((refine step_append_room rfl (.tmp 22) (.tmp 25) 37 rfl 31 i0 5 Try.underlying37 hi0 hi5 g 0 i c (by simp [Act.eval, Act.put]) ⟨g, 0, none⟩ (n - (i + 1)) (c - (i + 1)) news (by simp [Act.eval, Act.put]) HNL.out HNC.out HN1.out (by omega) (fun j hj => ⟨HCS.out _ (by have := HNL.out; omega), HFZ.out _⟩) ?_; rw [hp, Nat.zero_add]))
    have hW : Blk (w.drew.setCells g (i * 5) news) g 31 (setL cur (i * 5) news) := blk_setCells _ _ _ _ HB.out
    have FW : Fr (· = g) w (w.drew.setCells g (i * 5) news) := fr_setCells (S := (· = g)) rfl _ _ (Fr.refl _ _).drew
    generalize w.drew.setCells g (i * 5) news = w1 at *
    have hcl : ∀ ty, (Builtin.clear_ #[37] ty #[.slice (some ⟨g, p * 5, none⟩) (n - p) (c - p)]).run Try.prog w1 = .ok (.tuple #[]) (w1.setCells g (p * 5) RV.zero.cells) := fun ty => by
      rw [show n - p = 1 by have := HPN.out; omega]
      exact run_clear1 w1 ty g (p * 5) (c - p) _ hW (by rw [setL_size, hsz]; have := HPN.out; omega)
    have hcp : ¬ c = p := by have := HPN.out; omega
    go_wp2_with fail
    go_ret
    have hW2 := blk_setCells RV.zero.cells _ (p * 5) _ hW
    have FW2 : Fr (· = g) w (w1.setCells g (p * 5) RV.zero.cells) := fr_setCells (S := (· = g)) rfl _ _ FW
    have hnp : n - 1 = p := by have := HPN.out; omega
    rw [hnp]
    refine ⟨rfl, ⟨by rw [rcells_len, List.length_eraseIdx_of_lt (by omega), hl]; have := HPN.out; omega, .inr ⟨g, c, _, rfl, Nat.zero_le _, hW2, by omega, hcm, by rw [setL_size, setL_size, hsz], ?_⟩⟩, FW2⟩
    rw [HNEWS.out]
    exact del_row cur l n c i p hsz ht hl hi hnc HPN.out _ rfl
  · obtain ⟨news, hnews⟩ : ∃ news, news = (rcells l).drop ((i + 1) * 5) := ⟨_, rfl⟩
    have HNL := Lib.hid (show news.length = (n - (i + 1)) * 5 by rw [hnews, List.length_drop, rcells_len, hl]; omega)
    have HN1 := Lib.hid (show ∀ u ∈ news, u.oneCell' = true by rw [hnews]; exact fun u hu => rcells_one l u (List.mem_of_mem_drop hu))
    have HNC := Lib.hid (show ∀ j u, news[j]? = some u → w.drew.cell? ((⟨g, (i + 1) * 5, none⟩ : Addr).add j) = some u from fun j u hu => by
      have h1 : Blk w.drew g 31 cur := HB.out
      rw [hnews, List.getElem?_drop, ← ht, List.getElem?_take] at hu
      split at hu
      · rw [add_plain, h1.cell]; simpa using hu
      · cases hu)
    have HNEWS := Lib.hid hnews
    clear hnews
    go_enter Try.func37, Try.ntmps37
    go_wp2_with fail
    go_region_law ((refine step_append_room rfl (.tmp 22) (.tmp 25) 37 rfl 31 i0 5 Try.underlying37 hi0 hi5 g 0 i c (by simp [Act.eval, Act.put]) ⟨g, (i + 1) * 5, none⟩ (n - (i + 1)) (c - (i + 1)) news (by simp [Act.eval, Act.put]) HNL.out HNC.out HN1.out (by omega) (fun j hj => ⟨HCS.out _ (by have := HNL.out; omega), HFZ.out _⟩) ?_; rw [hp, Nat.zero_add]))
    have hW : Blk (w.drew.setCells g (i * 5) news) g 31 (setL cur (i * 5) news) := blk_setCells _ _ _ _ HB.out
    have FW : Fr (· = g) w (w.drew.setCells g (i * 5) news) := fr_setCells (S := (· = g)) rfl _ _ (Fr.refl _ _).drew
    generalize w.drew.setCells g (i * 5) news = w1 at *
    have hcl : ∀ ty, (Builtin.clear_ #[37] ty #[.slice (some ⟨g, p * 5, none⟩) (n - p) (c - p)]).run Try.prog w1 = .ok (.tuple #[]) (w1.setCells g (p * 5) RV.zero.cells) := fun ty => by
      rw [show n - p = 1 by have := HPN.out; omega]
      exact run_clear1 w1 ty g (p * 5) (c - p) _ hW (by rw [setL_size, hsz]; have := HPN.out; omega)
    have hcp : ¬ c = p := by have := HPN.out; omega
    go_wp2_with fail
    go_ret
    have hW2 := blk_setCells RV.zero.cells _ (p * 5) _ hW
    have FW2 : Fr (· = g) w (w1.setCells g (p * 5) RV.zero.cells) := fr_setCells (S := (· = g)) rfl _ _ FW
    have hnp : n - 1 = p := by have := HPN.out; omega
    rw [hnp]
    refine ⟨rfl, ⟨by rw [rcells_len, List.length_eraseIdx_of_lt (by omega), hl]; have := HPN.out; omega, .inr ⟨g, c, _, rfl, Nat.zero_le _, hW2, by omega, hcm, by rw [setL_size, setL_size, hsz], ?_⟩⟩, FW2⟩
    rw [HNEWS.out]
    exact del_row cur l n c i p hsz ht hl hi hnc HPN.out _ rfl
end Go.Proofs.Ytopcjakgfaobcaa
