/- The document's caps: Free, Left, Take, Give. -/
import Derived.Test.YtjgjbjigghfnbaaRefA
namespace Go.Proofs.Ytjgjbjigghfnbaa
open Go.RowKit Go.Wk

theorem RefAt.drewN {w : World} {b e r : Nat} {s : CS} (h : RefAt w b e r s) (n : Nat) : RefAt (w.drewN n) b e r s :=
  h.fr ((Fr.refl No w).drewN n) (fun x => x) (fun x => x) (fun x => x)
theorem rcheck_q (b e r : Nat) (s : CS) (w : World) (job : Int) (h : RefAt w b e r s) (n : Nat) :
    Calls Try.prog 35 #[.pointer (some ⟨b, 0, none⟩), .int .i64 job] (w.drewN n) fun x w' => x = .returned (.int .i64 (s.err job)) ∧ ∃ m, w' = w.drewN m :=
  Calls.quiet_of_same ((rcheck_any b e r s _ job (h.drewN n)).mono fun _ _ ⟨a, b⟩ => ⟨a, b.symm⟩)
theorem rtotal_q (b e r : Nat) (s : CS) (w : World) (h : RefAt w b e r s) (n : Nat) :
    Calls Try.prog 39 #[.pointer (some ⟨b, 0, none⟩)] (w.drewN n) fun x w' => x = .returned (.int .i64 s.total) ∧ ∃ m, w' = w.drewN m :=
  Calls.quiet_of_same ((rtotal_any b e r s _ (h.drewN n)).mono fun _ _ ⟨a, b⟩ => ⟨a, b.symm⟩)

theorem rfree_any (b e r : Nat) (s : CS) (w : World) (job : Int) (h : RefAt w b e r s) :
    Calls Try.prog 36 #[.pointer (some ⟨b, 0, none⟩), .int .i64 job] w fun x w' => x = .returned (.bool (s.freeV job)) ∧ ∃ m, w' = w.drewN m := by
  have HQ := Lib.hid (rcheck_q b e r s w job h)
  have HT := Lib.hid (rtotal_q b e r s w h)
  have hjb := h.ok.jobs
  by_cases hh : s.has job = true
  · obtain ⟨j, rfl, hj⟩ := CS.has_nat hh
    obtain ⟨c, c', c0, c1, c2, c3, ce, cr⟩ := h.open1 hj
    have he : s.err (j : Int) = 0 := by unfold CS.err; rw [hh]; rfl
    have hf : s.freeV (j : Int) = (decide (s.r j < s.m j) && decide (s.total < s.all)) := by
      unfold CS.freeV CS.left
      rw [hh, Bool.true_and, Int.toNat_natCast, ← Bool.decide_and]
      apply decide_eq_decide.2
      omega
    rw [hf]
    rw [he] at HQ
    clear h hh he hf
    by_cases h1 : s.r j < s.m j
    · have d1 : decide (s.r j < s.m j) = true := by simpa using h1
      rw [d1]
      have D1 := Lib.hid d1
      clear d1
      generalize s.r j = rj at *
      generalize s.m j = mj at *
      generalize s.all = al at *
      go_enter Try.func36, Try.ntmps36
      go_wp2
      go_quiet (first
        | (go_at_call 35; exact HQ.out _)
        | (go_at_call 39; exact HT.out _))
      go_wp2
      go_ret
      exact ⟨rfl, _, rfl⟩
    · have d1 : decide (s.r j < s.m j) = false := by simpa using h1
      rw [d1]
      generalize s.r j = rj at *
      generalize s.m j = mj at *
      go_enter Try.func36, Try.ntmps36
      go_wp2
      go_quiet (first
        | (go_at_call 35; exact HQ.out _)
        | (go_at_call 39; exact HT.out _))
      go_wp2
      go_ret
      exact ⟨rfl, _, rfl⟩
  · have hh' : s.has job = false := by simpa using hh
    have he : s.err job = 3 := by unfold CS.err; rw [hh']; rfl
    have hf : s.freeV job = false := by unfold CS.freeV; rw [hh']; rfl
    rw [hf]
    rw [he] at HQ
    clear h hh hh' he hf
    go_enter Try.func36, Try.ntmps36
    go_wp2
    go_quiet (first
      | (go_at_call 35; exact HQ.out _)
      | (go_at_call 39; exact HT.out _))
    go_wp2
    go_ret
    exact ⟨rfl, _, rfl⟩

theorem rleft_any (b e r : Nat) (s : CS) (w : World) (job : Int) (h : RefAt w b e r s) :
    Calls Try.prog 38 #[.pointer (some ⟨b, 0, none⟩), .int .i64 job] w fun x w' => x = .returned (.tuple #[.int .i64 (s.leftV job), .int .i64 (s.err job)]) ∧ Fr No w w' := by
  have H := Lib.hid (rcheck_any b e r s w job h)
  have HT := Lib.hid (rtotal_q b e r s w h)
  have hjb := h.ok.jobs
  by_cases hh : s.has job = true
  · obtain ⟨j, rfl, hj⟩ := CS.has_nat hh
    obtain ⟨c, c', c0, c1, c2, c3, ce, cr⟩ := h.open1 hj
    have he : s.err (j : Int) = 0 := by unfold CS.err; rw [hh]; rfl
    have hf : s.leftV (j : Int) = min (s.m j - s.r j) (s.all - s.total) := by
      unfold CS.leftV CS.left
      rw [hh, Int.toNat_natCast, if_pos rfl]
    have a1 := h.ok.all0; have a2 := h.ok.all1; have a3 := h.ok.tot0; have a4 := h.ok.tot1
    have a5 := h.ok.m0 j; have a6 := h.ok.m1 j; have a7 := h.ok.r0 j; have a8 := h.ok.r1 j
    rw [hf, he]
    rw [he] at H
    clear h hh he hf
    generalize s.r j = rj at *
    generalize s.m j = mj at *
    generalize s.all = al at *
    generalize s.total = tt at *
    by_cases ho : mj - rj ≤ al - tt
    · go_enter Try.func38, Try.ntmps38
      go_wp2_with (go_at_call 35; refine (H.out).mono ?_; rintro e w1 ⟨rfl, rfl⟩)
      go_quiet (first
        | (go_at_call 39; exact HT.out _))
      go_wp2
      all_goals
        go_ret2
        exact ⟨ret2i (by omega), (Fr.refl _ _).drewN _⟩
    · go_enter Try.func38, Try.ntmps38
      go_wp2_with (go_at_call 35; refine (H.out).mono ?_; rintro e w1 ⟨rfl, rfl⟩)
      go_quiet (first
        | (go_at_call 39; exact HT.out _))
      go_wp2
      all_goals
        go_ret2
        exact ⟨ret2i (by omega), (Fr.refl _ _).drewN _⟩
  · have hh' : s.has job = false := by simpa using hh
    have he : s.err job = 3 := by unfold CS.err; rw [hh']; rfl
    have hf : s.leftV job = 0 := by unfold CS.leftV; rw [hh']; rfl
    rw [hf, he]
    rw [he] at H
    clear h hh hh' he hf
    go_enter Try.func38, Try.ntmps38
    go_wp2_with (go_at_call 35; refine (H.out).mono ?_; rintro e w1 ⟨rfl, rfl⟩)
    go_ret2
    exact ⟨rfl, Fr.refl _ _⟩

theorem RowAt.set {w : World} {g n : Nat} {f : Nat → Int} (h : RowAt w g n f) (j : Nat) (x : Int) : RowAt (w.setCell ⟨g, j, none⟩ (.int .i64 x)) g n (fun k => if k = j then x else f k) := by
  obtain ⟨cs, h1, h2⟩ := h
  refine ⟨_, h1.set_ j _, fun k hk => ?_⟩
  have h3 := h2 k hk
  rw [Array.getElem?_setIfInBounds]
  by_cases e : k = j
  · subst e
    have hlt : k < cs.size := by
      rcases Nat.lt_or_ge k cs.size with h | h
      · exact h
      · rw [Array.getElem?_eq_none h] at h3; cases h3
    simp [hlt]
  · show _ = some (Value.int .i64 (if k = j then x else f k))
    rw [if_neg (fun h => e h.symm), if_neg e]; exact h3

/-- One run more or less: the document's caps behind the store. -/
theorem RefAt.add {w : World} {b e r : Nat} {s : CS} (h : RefAt w b e r s) {j : Nat} (hj : j < s.jobs) (d : Int) (hok : (s.add j d).ok) (m n : Nat) :
    RefAt (((w.drewN m).setCell ⟨r, j, none⟩ (.int .i64 (s.r j + d))).drewN n) b e r (s.add j d) := by
  obtain ⟨A, c, A', c', h1, h2⟩ := h.blk
  obtain ⟨hne, he, hr⟩ := h.rows (by omega)
  have hj64 : j < 64 := Nat.lt_of_lt_of_le hj h.ok.jobs
  have hbr : b ≠ r := by
    obtain ⟨cs, hc, _⟩ := hr
    exact Blk.ne_ h1 hc (by decide)
  have F : Fr (· = r) w (((w.drewN m).setCell ⟨r, j, none⟩ (.int .i64 (s.r j + d))).drewN n) := (((Fr.refl (· = r) w).drewN m).setCell (.inr rfl) _).drewN n
  refine ⟨⟨A, c, A', c', h1.fr F hbr, h2⟩, fun _ => ⟨hne, he.fr F hne, ?_⟩, hok, fun k hk => ?_⟩
  · obtain ⟨cs, g1, g2⟩ := hr.set j (s.r j + d)
    refine ⟨cs, g1, fun k hk => (g2 k hk).trans ?_⟩
    rw [CS.add_r s j k d h.ok.lr hj64]
  · have hk' : s.jobs ≤ k := hk
    rw [CS.add_r s j k d h.ok.lr hj64, if_neg (by omega)]
    exact h.tail k hk'

theorem rtake_any (b e r : Nat) (s : CS) (w : World) (job : Int) (h : RefAt w b e r s) :
    Calls Try.prog 20 #[.pointer (some ⟨b, 0, none⟩), .int .i64 job] w fun x w' => x = .returned (.int .i64 (s.takeE job)) ∧ RefAt w' b e r (s.takeS job) ∧ Fr (· = r) w w' := by
  have H := Lib.hid (rcheck_any b e r s w job h)
  have HF := Lib.hid (rfree_any b e r s w job h)
  have HR := Lib.hid h
  have hjb := h.ok.jobs
  by_cases hh : s.has job = true
  · obtain ⟨j, rfl, hj⟩ := CS.has_nat hh
    have he : s.err (j : Int) = 0 := by unfold CS.err; rw [hh]; rfl
    rw [he] at H
    by_cases hl : 0 < s.left j
    · have hf : s.freeV (j : Int) = true := by unfold CS.freeV; rw [hh]; simpa using hl
      have ht : s.takeE (j : Int) = 0 := by unfold CS.takeE; rw [hh]; simp [hl]
      have hs : s.takeS (j : Int) = s.add j 1 := by unfold CS.takeS; rw [hf]; simp
      rw [ht, hs]
      rw [hf] at HF
      have HO := Lib.hid (s.take_ok h.ok j (by omega) hl)
      have a7 := h.ok.r0 j; have a8 := h.ok.r1 j; have a6 := h.ok.m1 j
      obtain ⟨c, c', _, _, _, c3, _, cr⟩ := h.open1 hj
      obtain ⟨_, _, ⟨cs, hcs, _⟩⟩ := h.rows (by omega)
      have hfz := hcs.frozen j
      clear h hh he hf ht hs hl hcs
      have HADD := Lib.hid (HR.out.add hj 1 HO.out)
      generalize s.r j = rj at *
      go_enter Try.func20, Try.ntmps20
      go_wp2_with (first | (go_at_call 35; refine H.out.mono ?_; rintro x w1 ⟨rfl, rfl⟩) | (go_at_call 36; refine HF.out.mono ?_; rintro x w1 ⟨rfl, n1, rfl⟩))
      go_ret
      exact ⟨rfl, HADD.out n1 0, (((Fr.refl (· = r) w).drewN n1).setCell (.inr rfl) _)⟩
    · have hf : s.freeV (j : Int) = false := by unfold CS.freeV; rw [hh]; simpa using hl
      have ht : s.takeE (j : Int) = 4 := by unfold CS.takeE; rw [hh]; simp [hl]
      have hs : s.takeS (j : Int) = s := by unfold CS.takeS; rw [hf]; simp
      rw [ht, hs]
      rw [hf] at HF
      clear h hh he hf ht hs hl
      go_enter Try.func20, Try.ntmps20
      go_wp2_with (first | (go_at_call 35; refine H.out.mono ?_; rintro x w1 ⟨rfl, rfl⟩) | (go_at_call 36; refine HF.out.mono ?_; rintro x w1 ⟨rfl, n1, rfl⟩))
      go_ret
      exact ⟨rfl, HR.out.drewN n1, ((Fr.refl (· = r) w).drewN n1)⟩
  · have hh' : s.has job = false := by simpa using hh
    have he : s.err job = 3 := by unfold CS.err; rw [hh']; rfl
    have ht : s.takeE job = 3 := by unfold CS.takeE; rw [hh']; rfl
    have hs : s.takeS job = s := by unfold CS.takeS CS.freeV; rw [hh']; rfl
    rw [ht, hs]
    rw [he] at H
    clear h hh hh' he ht hs HF
    go_enter Try.func20, Try.ntmps20
    go_wp2_with (first | (go_at_call 35; refine H.out.mono ?_; rintro x w1 ⟨rfl, rfl⟩))
    go_ret
    exact ⟨rfl, HR.out, Fr.refl _ _⟩

theorem rgive_any (b e r : Nat) (s : CS) (w : World) (job : Int) (h : RefAt w b e r s) :
    Calls Try.prog 21 #[.pointer (some ⟨b, 0, none⟩), .int .i64 job] w fun x w' => x = .returned (.int .i64 (s.giveE job)) ∧ RefAt w' b e r (s.giveS job) ∧ Fr (· = r) w w' := by
  have H := Lib.hid (rcheck_any b e r s w job h)
  have HR := Lib.hid h
  have hjb := h.ok.jobs
  by_cases hh : s.has job = true
  · obtain ⟨j, rfl, hj⟩ := CS.has_nat hh
    have he : s.err (j : Int) = 0 := by unfold CS.err; rw [hh]; rfl
    rw [he] at H
    obtain ⟨c, c', _, _, _, c3, _, cr⟩ := h.open1 hj
    obtain ⟨_, _, ⟨cs, hcs, _⟩⟩ := h.rows (by omega)
    have hfz := hcs.frozen j
    by_cases hl : s.r j = 0
    · have ht : s.giveE (j : Int) = 5 := by unfold CS.giveE; rw [hh]; simp [hl]
      have hs : s.giveS (j : Int) = s := by unfold CS.giveS; rw [hh]; simp [hl]
      rw [ht, hs]
      rw [hl] at cr
      clear h hh he ht hs hl hcs
      go_enter Try.func21, Try.ntmps21
      go_wp2_with (first | (go_at_call 35; refine H.out.mono ?_; rintro x w1 ⟨rfl, rfl⟩))
      go_ret
      exact ⟨rfl, HR.out, Fr.refl _ _⟩
    · have ht : s.giveE (j : Int) = 0 := by unfold CS.giveE; rw [hh]; simp [hl]
      have hs : s.giveS (j : Int) = s.add j (-1) := by unfold CS.giveS; rw [hh]; simp [hl]
      rw [ht, hs]
      have a7 := h.ok.r0 j; have a8 := h.ok.r1 j; have a6 := h.ok.m1 j
      have HO := Lib.hid (s.give_ok h.ok j (by omega) (by omega))
      have hb : (s.r j == 0) = false := by simpa using hl
      clear h hh he ht hs hl hcs
      have HADD := Lib.hid (HR.out.add hj (-1) HO.out)
      generalize s.r j = rj at *
      go_enter Try.func21, Try.ntmps21
      go_wp2_with (first | (go_at_call 35; refine H.out.mono ?_; rintro x w1 ⟨rfl, rfl⟩))
      go_ret
      exact ⟨rfl, HADD.out 0 0, (((Fr.refl (· = r) w)).setCell (.inr rfl) _)⟩
  · have hh' : s.has job = false := by simpa using hh
    have he : s.err job = 3 := by unfold CS.err; rw [hh']; rfl
    have ht : s.giveE job = 3 := by unfold CS.giveE; rw [hh']; rfl
    have hs : s.giveS job = s := by unfold CS.giveS; rw [hh']; rfl
    rw [ht, hs]
    rw [he] at H
    clear h hh hh' he ht hs
    go_enter Try.func21, Try.ntmps21
    go_wp2_with (first | (go_at_call 35; refine H.out.mono ?_; rintro x w1 ⟨rfl, rfl⟩))
    go_ret
    exact ⟨rfl, HR.out, Fr.refl _ _⟩
end Go.Proofs.Ytjgjbjigghfnbaa
