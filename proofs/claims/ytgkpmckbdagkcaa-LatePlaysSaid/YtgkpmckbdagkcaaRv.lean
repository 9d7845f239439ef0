/- What a list shows moves as the document's list does. -/
import Derived.Test.YtgkpmckbdagkcaaRc
namespace Go.Proofs.Ytgkpmckbdagkcaa
open Go.RowKit Go.Wk

theorem vw_cons (e : LE) (l : List LE) : vw (e :: l) = (e.id, e.at_) :: vw l := rfl
theorem vw_take (l : List LE) (k : Nat) : vw (l.take k) = (vw l).take k := List.map_take ..
theorem vw_drop (l : List LE) (k : Nat) : vw (l.drop k) = (vw l).drop k := List.map_drop ..
theorem vw_app (l m : List LE) : vw (l ++ m) = vw l ++ vw m := List.map_append ..
theorem vw_len (l : List LE) : (vw l).length = l.length := List.length_map ..
theorem idx_rix {s : LS} (h : s.ok) (d : Int) : idx s.l (d, s.seq + 1) = rix (vw s.l) d := by
  have hs : ∀ e ∈ s.l, e.sq ≤ s.seq := fun e he => (h.sqs e he).2
  unfold idx rix
  generalize s.l = l at *
  clear h
  induction l with
  | nil => rfl
  | cons a l ih =>
    have ha := hs a (List.mem_cons_self ..)
    have ih := ih (fun e he => hs e (List.mem_cons_of_mem _ he))
    rw [vw_cons]
    by_cases hd : a.at_ ≤ d
    · rw [List.takeWhile_cons_of_pos (by simp only [decide_eq_true_eq]; unfold ltM LE.mk_; dsimp only; omega), List.takeWhile_cons_of_pos (by simpa using hd)]
      simp only [List.length_cons]; rw [ih]
    · rw [List.takeWhile_cons_of_neg (by simp only [decide_eq_true_eq]; unfold ltM LE.mk_; dsimp only; omega), List.takeWhile_cons_of_neg (by simpa using hd)]
      rfl
theorem idx_rp {s : LS} (h : s.ok) (d : Int) : pastN s d = rpN (vw s.l) d := by
  have hs : ∀ e ∈ s.l, 1 ≤ e.sq := fun e he => (h.sqs e he).1
  unfold pastN idx rpN
  generalize s.l = l at *
  clear h
  induction l with
  | nil => rfl
  | cons a l ih =>
    have ha := hs a (List.mem_cons_self ..)
    have ih := ih (fun e he => hs e (List.mem_cons_of_mem _ he))
    rw [vw_cons]
    by_cases hd : a.at_ < d
    · rw [List.takeWhile_cons_of_pos (by simp only [decide_eq_true_eq]; unfold ltM LE.mk_; dsimp only; omega), List.takeWhile_cons_of_pos (by simpa using hd)]
      simp only [List.length_cons]; rw [ih]
    · rw [List.takeWhile_cons_of_neg (by simp only [decide_eq_true_eq]; unfold ltM LE.mk_; dsimp only; omega), List.takeWhile_cons_of_neg (by simpa using hd)]
      rfl
theorem vw_addE (s : LS) (x d : Int) : raddE (vw s.l) x d = addE s x d := by unfold raddE addE; rw [getB_vw]
theorem vw_addS {s : LS} (h : s.ok) (x d : Int) : vw (addS s x d).l = raddV (vw s.l) x d := by
  unfold addS raddV
  rw [vw_addE]
  by_cases he : addE s x d = 0
  · rw [if_pos he, if_pos he]
    show vw (insE s.l ⟨x, d, s.seq + 1⟩) = _
    unfold insE rins
    rw [show (⟨x, d, s.seq + 1⟩ : LE).mk_ = (d, s.seq + 1) from rfl, idx_rix h, vw_app, vw_cons, vw_take, vw_drop]
  · rw [if_neg he, if_neg he]
def rremE (v : VW) (x : Int) : Int := if (lookV v x).isSome = true then 0 else 5
def rremV (v : VW) (x : Int) : VW := if atI v x = -1 then v else v.take (atI v x).toNat ++ v.drop ((atI v x).toNat + 1)
theorem vw_remE (s : LS) (x : Int) : rremE (vw s.l) x = remE s x := by unfold rremE remE; rw [getB_vw]
theorem vw_get {l : List LE} {k : Nat} (hk : k < l.length) : (vw l).getD k (0, 0) = ((l.getD k LE.zero).id, (l.getD k LE.zero).at_) := by
  unfold vw
  rw [List.getD_eq_getElem?_getD, List.getElem?_map, List.getD_eq_getElem?_getD, List.getElem?_eq_getElem hk]
  rfl
theorem vw_remS {s : LS} (h : s.ok) (x : Int) : vw (remS s x).l = rremV (vw s.l) x := by
  unfold remS rremV
  rcases atI_look (vw s.l) x with ⟨e1, e2⟩ | ⟨k, hk, e1, e2, e3⟩
  · rw [if_pos e1]
    show vw (remL s.l x) = _
    have hg : getB s x = false := by rw [getB_vw, e2]; rfl
    have : remL s.l x = s.l := by
      unfold remL
      rw [List.filter_eq_self]
      intro e he
      have hn : mkOf s.l x = none := by unfold getB at hg; cases hm : mkOf s.l x with | none => rfl | some _ => rw [hm] at hg; cases hg
      have := mkOf_eq_none.1 hn e he
      simpa using this
    rw [this]
  · have hkl : k < s.l.length := by rw [vw_len] at hk; exact hk
    rw [if_neg (by rw [e1]; omega), e1]
    show vw (remL s.l x) = _
    have hid : (s.l.getD k LE.zero).id = x := by rw [vw_get hkl] at e2; exact e2
    rw [← hid, remL_at h hkl, vw_app, vw_take, vw_drop]
    rfl
theorem rvw_pastS {s : LS} (h : s.ok) (d : Int) : vw (pastS s d).l = (vw s.l).drop (rpN (vw s.l) d) := by
  unfold pastS; show vw (s.l.drop _) = _; rw [vw_drop, idx_rp h]
theorem rvw_pastG {s : LS} (h : s.ok) (d : Int) : pastG s d = fsts ((vw s.l).take (rpN (vw s.l) d)) := by
  unfold pastG; rw [ids_vw, vw_take, idx_rp h]; rfl
theorem vw_nextV (s : LS) : nextV s = rnextV (vw s.l) := by
  unfold nextV rnextV
  cases h : s.l with
  | nil => rfl
  | cons a l => rw [if_neg (by simp), if_neg (by rw [vw_cons]; simp)]; rfl
theorem vw_nextB (s : LS) : nextB s = !(vw s.l).isEmpty := by
  unfold nextB
  cases h : s.l with
  | nil => rfl
  | cons a l => rfl
end Go.Proofs.Ytgkpmckbdagkcaa
