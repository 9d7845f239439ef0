/- Plain lemmas on the states of caps. -/
import Derived.Test.YtjgjbjigghfnbaaG
namespace Go.Proofs.Ytjgjbjigghfnbaa
open Go.RowKit Go.Wk

theorem CS.takeS_all (s : CS) (job : Int) : (s.takeS job).all = s.all := by unfold CS.takeS; split <;> rfl
theorem CS.takeS_jobs (s : CS) (job : Int) : (s.takeS job).jobs = s.jobs := by unfold CS.takeS; split <;> rfl
theorem CS.takeS_m (s : CS) (job : Int) (j : Nat) : (s.takeS job).m j = s.m j := by unfold CS.takeS; split <;> rfl
theorem CS.giveS_all (s : CS) (job : Int) : (s.giveS job).all = s.all := by unfold CS.giveS; split <;> rfl
theorem CS.giveS_jobs (s : CS) (job : Int) : (s.giveS job).jobs = s.jobs := by unfold CS.giveS; split <;> rfl
theorem CS.giveS_m (s : CS) (job : Int) (j : Nat) : (s.giveS job).m j = s.m j := by unfold CS.giveS; split <;> rfl
theorem CS.has_of {s : CS} {job : Int} (h0 : 0 ≤ job) (h1 : job < s.jobs) : s.has job = true := by unfold CS.has; simp [h0, h1]
theorem CS.has_not {s : CS} {job : Int} (h1 : job < 0 ∨ (s.jobs : Int) ≤ job) : s.has job = false := by unfold CS.has; simp; omega

theorem CS.facts {s : CS} {job : Int} (h : s.has job = true) :
    s.err job = 0 ∧ s.leftV job = s.left job.toNat ∧ s.usedV job = s.r job.toNat ∧ (0 < s.left job.toNat → s.freeV job = true ∧ s.takeE job = 0 ∧ s.takeS job = s.add job.toNat 1) ∧
      (¬ 0 < s.left job.toNat → s.freeV job = false ∧ s.takeE job = 4 ∧ s.takeS job = s) := by
  refine ⟨by simp [CS.err, h], by simp [CS.leftV, h], by simp [CS.usedV, h], fun hl => ?_, fun hl => ?_⟩
  · have : s.freeV job = true := by simp [CS.freeV, h, hl]
    exact ⟨this, by simp [CS.takeE, h, hl], by simp [CS.takeS, this]⟩
  · have : s.freeV job = false := by simp [CS.freeV, hl]
    exact ⟨this, by simp [CS.takeE, h, hl], by simp [CS.takeS, this]⟩
theorem CS.facts_not {s : CS} {job : Int} (h : s.has job = false) : s.err job = 3 ∧ s.leftV job = 0 ∧ s.usedV job = 0 ∧ s.freeV job = false ∧ s.takeE job = 3 ∧ s.takeS job = s ∧ s.giveE job = 3 ∧ s.giveS job = s := by
  simp [CS.err, CS.leftV, CS.usedV, CS.freeV, CS.takeE, CS.takeS, CS.giveE, CS.giveS, h]

theorem CS.add_left (s : CS) (h : s.ok) (j : Nat) (hj : j < 64) (d : Int) : (s.add j d).left j = s.left j - d := by
  unfold CS.left
  rw [s.add_r j j d h.lr hj, s.add_m]
  show min (s.m j - _) (s.all - (s.total + d)) = _
  simp only [if_true]
  omega
end Go.Proofs.Ytjgjbjigghfnbaa
