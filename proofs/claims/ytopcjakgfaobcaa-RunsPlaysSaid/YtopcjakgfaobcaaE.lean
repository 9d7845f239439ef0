/- The contracts of package runs: Start, where times are right. -/
import Derived.Test.YtopcjakgfaobcaaD
namespace Go.Proofs.Ytopcjakgfaobcaa
open Go.RowKit Go.Wk

theorem start_full (b : Nat) (D : Nat → Prop) (s : TS) (w : World) (job due att now : Int) (h : TabAt w b D s) (hA : okA job att = true) (hT : okT due now = true) (hR : s.room = false) :
    Calls Try.prog 13 #[.pointer (some ⟨b, 0, none⟩), .int .i64 job, .int .i64 due, .int .i64 att, .int .i64 now] w fun e w' => e = .returned (.tuple #[.int .i64 0, .int .i64 4]) ∧ Fr No w w' := by
  have HV := Lib.hid (valid_any b D s w h)
  obtain ⟨v, hv, _⟩ := h
  have hA' : ¬ job < 0 ∧ ¬ att < 1 := by simp [okA] at hA; omega
  obtain ⟨ha1, ha2⟩ := hA'
  have hT' : 0 ≤ due ∧ 0 ≤ now ∧ due ≤ 253402300799 ∧ now ≤ 253402300799 := by simpa [okT] using hT
  obtain ⟨ht1, ht2, ht3, ht4⟩ := hT'
  have hlen := hv.ok.len
  have hn2 := hv.ok.s1
  have hfull : (s.live.length : Int) = s.size := by simp [TS.room] at hR; omega
  obtain ⟨A, c, rfl, _⟩ := hv.form
  have c0 := hv.blk.cell 0
  have c1 := hv.blk.cell 1
  simp at c0 c1
  rw [← hfull] at c0
  clear hv hA hT hR hlen
  generalize s.live.length = n at *
  have hnn : (n : Int) ≤ 1000 := by omega
  clear hfull
  by_cases ho : due ≤ now
  all_goals
    go_enter Try.func13, Try.ntmps13
    go_wp2_with (go_at_call 35; refine HV.out.mono ?_; rintro e w1 ⟨rfl, rfl⟩)
  all_goals first | omega | skip
  all_goals
    go_quiet (fail)
    go_wp2
    go_ret2
    exact ⟨rfl, (Fr.refl _ _).drewN _⟩

theorem own_form {w : World} {base n size : Nat} {v : Value} {e : TypeId} {xs : List Value} (h : w.ownsRow base e size v n xs) : ∃ A q, v = .slice A n q := by
  rcases h.2 with ⟨h1, h0⟩ | ⟨g, cap, cur, h1, _⟩
  · exact ⟨none, 0, by rw [h1, h0]⟩
  · exact ⟨_, cap, h1⟩

set_option maxHeartbeats 4000000 in
theorem start_ok (b : Nat) (D : Nat → Prop) (s : TS) (w : World) (job due att now : Int) (h : TabAt w b D s) (hA : okA job att = true) (hT : okT due now = true) (hR : s.room = true) (hl : s.last < 1000000) :
    Calls Try.prog 13 #[.pointer (some ⟨b, 0, none⟩), .int .i64 job, .int .i64 due, .int .i64 att, .int .i64 now] w fun e w' => e = .returned (.tuple #[.int .i64 (s.last + 1), .int .i64 0]) ∧
      ∃ D', TabAt w' b D' (s.push job due att now) ∧ Fr D w w' ∧ ∀ k, D' k → D k ∨ w.heap.size ≤ k := by
  have HV := Lib.hid (valid_any b D s w h)
  obtain ⟨v, hv, rfl⟩ := h
  have hA' : ¬ job < 0 ∧ ¬ att < 1 := by simp [okA] at hA; omega
  obtain ⟨ha1, ha2⟩ := hA'
  have hT' : 0 ≤ due ∧ 0 ≤ now ∧ due ≤ 253402300799 ∧ now ≤ 253402300799 := by simpa [okT] using hT
  obtain ⟨ht1, ht2, ht3, ht4⟩ := hT'
  have HOK := Lib.hid (s.push_ok hv.ok job due att now hR hT hl)
  have hn2 := hv.ok.s1
  have hl0 := hv.ok.l0
  have hlt : (s.live.length : Int) < s.size := by simpa [TS.room] using hR
  obtain ⟨A, c, rfl, hnc, hcm, _⟩ := hv.form
  have c0 := hv.blk.cell 0
  have c1 := hv.blk.cell 1
  have c2 := hv.blk.cell 2
  have hfz := hv.blk.frozen
  simp at c0 c1 c2
  have HBK := Lib.hid hv.blk
  have HOW := Lib.hid hv.own
  have HBN := Lib.hid (own_blk_ne hv.own hv.blk (by decide))
  have hbl := hv.blk.lt
  obtain ⟨i0, hi, hz0, hz1, hz2⟩ : ∃ i, Try.prog.info? 31 = some i ∧ i.zero = some (.agg #[.int .i64 0, .int .i64 0, .int .i64 0, .int .i64 0, .int .i64 0]) ∧ i.size = 5 ∧ i.bytes = 40 := ⟨_, rfl, rfl, rfl, rfl⟩
  clear hv hA hT hR
  obtain ⟨n, hn⟩ : ∃ n, n = s.live.length := ⟨_, rfl⟩
  rw [← hn] at c1 HOW HBN hlt HBK
  have HN := Lib.hid hn
  rw [← HN.out]
  clear hn
  have hne : ((n : Int) == s.size) = false := by simp; omega
  have hnn : (n : Int) ≤ 1000 := by omega
  have HB1 := Lib.hid (show (n + 1) * 40 ≤ 140737488355328 by omega)
  have HB0 := Lib.hid (show n + 1 ≤ maxLen by unfold maxLen; omega)
  by_cases ho : due ≤ now
  all_goals
    go_enter Try.func13, Try.ntmps13
    go_wp2_with (go_at_call 35; refine HV.out.mono ?_; rintro e w1 ⟨rfl, rfl⟩)
  all_goals first | omega | skip
  all_goals
    go_quiet (fail)
    go_wp2_with fail
  all_goals
    have F1 : Fr (dom b (.slice A n c)) w ((w.drewN nq).setCell ⟨b, 2, none⟩ (.int .i64 (s.last + 1))) := ((Fr.refl _ _).drewN _).setCell (.inr (.inl rfl)) _
    have hD : Blk ((w.drewN nq).setCell ⟨b, 2, none⟩ (.int .i64 (s.last + 1))) b 61 #[.int .i64 s.size, .slice A n c, .int .i64 (s.last + 1), .bool true] := (HBK.out.drewN nq).set_ 2 _
    have hO : ((w.drewN nq).setCell ⟨b, 2, none⟩ (.int .i64 (s.last + 1))).ownsRow 0 31 5 (.slice A n c) n (rcells s.live) :=
      own_fr HOW.out (((Fr.refl (· = b) w).drewN nq).setCell (.inr rfl) _) HBN.out
    generalize ((w.drewN nq).setCell ⟨b, 2, none⟩ (.int .i64 (s.last + 1))) = w1 at *
    have g1 := hD.cell 1
    have g2 := hD.cell 2
    simp only [List.getElem?_toArray, List.getElem?_cons_succ, List.getElem?_cons_zero] at g1 g2
    have NEW : Blk ((w1.alloc (.cells #[.int .i64 (s.last + 1), .int .i64 job, .int .i64 due, .int .i64 att, .int .i64 now] 31)).drew) w1.heap.size 31 #[.int .i64 (s.last + 1), .int .i64 job, .int .i64 due, .int .i64 att, .int .i64 now] := Blk.new w1 31 _
    have RN := Lib.hid (show Reads ((w1.alloc (.cells #[.int .i64 (s.last + 1), .int .i64 job, .int .i64 due, .int .i64 att, .int .i64 now] 31)).drew) (w1.heap.size + 1) 5 (some ⟨w1.heap.size, 0, none⟩) 1 (rcells [⟨s.last + 1, job, due, att, now⟩]) from
      ⟨rfl, fun _ => ⟨_, rfl, Nat.lt_succ_self _, fun j u hu => by rw [add_plain, Nat.zero_add, NEW.cell, List.getElem?_toArray, ← hu]; rfl⟩⟩)
    have ON := Lib.hid (show ((w1.alloc (.cells #[.int .i64 (s.last + 1), .int .i64 job, .int .i64 due, .int .i64 att, .int .i64 now] 31)).drew).ownsRow 0 31 5 (.slice A n c) n (rcells s.live) from
      own_fr hO ((Fr.refl No w1).alloc _).drew (fun _ _ x => x))
    have HO1 := Lib.hid hO
    have HD1 := Lib.hid hD
    have HF1 := Lib.hid F1
    have hbw := hD.lt
    clear c0 c1 c2 hD hO F1 NEW
    go_region_law ((refine step_append_any ((w1.alloc (.cells #[.int .i64 (s.last + 1), .int .i64 job, .int .i64 due, .int .i64 att, .int .i64 now] 31)).drew) rfl (.tmp 56) (.tmp 66) 37 rfl 0 31 i0 (.agg #[.int .i64 0, .int .i64 0, .int .i64 0, .int .i64 0, .int .i64 0]) 5 40 Try.underlying37 hi hz0 hz1 hz2 rfl (by omega) (.slice A n c) n (rcells s.live) (by simp [Act.eval]) ON.out (w1.heap.size + 1) (some ⟨w1.heap.size, 0, none⟩) 1 1 (rcells [⟨s.last + 1, job, due, att, now⟩]) (by simp [Act.eval]) RN.out (rcells_one _) HB0.out HB1.out (Nat.zero_le _) ?_; intro v' w2 hown2 hg2 hloc2; obtain ⟨A2, q2, rfl⟩ := own_form hown2; have F2 : Fr (fun k => (Value.slice A n c).ownBlock = some k) w1 w2 := ((Fr.refl _ w1).alloc (.cells #[.int .i64 (s.last + 1), .int .i64 job, .int .i64 due, .int .i64 att, .int .i64 now] 31)).drew.trans (Fr.of_grown (S := fun k => (Value.slice A n c).ownBlock = some k) hg2 (fun k hk => hk)) (fun _ _ x => x); have hD2 := HD1.out.fr F2 (fun h => HBN.out b h rfl); have r1 := hD2.cell 1; have r2 := hD2.cell 2; have fz2 := hD2.frozen; simp only [List.getElem?_toArray, List.getElem?_cons_succ, List.getElem?_cons_zero] at r1 r2))
  all_goals
    have FW : Fr (dom b (.slice A n c)) w (w2.setCell ⟨b, 1, none⟩ (.slice A2 (n + 1) q2)) := (HF1.out.trans F2 (fun k _ hk => .inr hk)).setCell (.inr (.inl rfl)) _
    have hB3 : Blk (w2.setCell ⟨b, 1, none⟩ (.slice A2 (n + 1) q2)) b 61 #[.int .i64 s.size, .slice A2 (n + 1) q2, .int .i64 (s.last + 1), .bool true] := hD2.set_ 1 _
    have hO3 : (w2.setCell ⟨b, 1, none⟩ (.slice A2 (n + 1) q2)).ownsRow 0 31 5 (.slice A2 (n + 1) q2) (n + 1) (rcells s.live ++ rcells [⟨s.last + 1, job, due, att, now⟩]) :=
      own_fr hown2 ((Fr.refl (· = b) w2).setCell (.inr rfl) _) (own_blk_ne hown2 hD2 (by decide))
    have HFIN := Lib.hid (show ∃ D', TabAt (w2.setCell ⟨b, 1, none⟩ (.slice A2 (n + 1) q2)) b D' (s.push job due att now) ∧ ∀ k, D' k → dom b (.slice A n c) k ∨ w.heap.size ≤ k from by
      refine ⟨_, ⟨.slice A2 (n + 1) q2, ⟨hB3, ?_, HOK.out⟩, rfl⟩, fun k hk => ?_⟩
      · have e : (s.push job due att now).live.length = n + 1 := by rw [HN.out]; simp [TS.push]
        rw [e, show (s.push job due att now).live = s.live ++ [⟨s.last + 1, job, due, att, now⟩] from rfl, rcells_app]
        exact hO3
      · rcases hk with rfl | hk
        · exact .inl (.inl rfl)
        · rcases hloc2 with h | h
          · exact .inl (.inr (by rw [← h]; exact hk))
          · right
            rw [h] at hk
            have h4 : w1.heap.size + 1 = k := by
              have : some (w1.heap.size + 1) = some k := by rw [← hk]; simp
              injection this
            have := HF1.out.size
            omega)
    have r2' := hB3.cell 2
    simp only [List.getElem?_toArray, List.getElem?_cons_succ, List.getElem?_cons_zero] at r2'
    clear hown2 hg2 hloc2 F2 hD2 r1 r2 fz2 hB3 hO3
    generalize w2.setCell ⟨b, 1, none⟩ (.slice A2 (n + 1) q2) = w3 at *
    go_wp2
    go_ret2
    obtain ⟨D', h1, h2⟩ := HFIN.out
    exact ⟨rfl, D', h1, FW, h2⟩
end Go.Proofs.Ytopcjakgfaobcaa
