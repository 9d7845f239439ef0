/- LateTwice: the walk. -/
import Derived.Test.YtgkpmckbdagkcaaPp
namespace Go.Proofs.Ytgkpmckbdagkcaa
open Go.RowKit Go.Wk

set_option maxRecDepth 100000 in
set_option maxHeartbeats 4000000 in
theorem lateTwice_walk (A : Option Addr) (n c : Nat) (es : List (List Int)) (a b : Int) (w : World) (h : RowF kStp 24 w A n c es) (hn : n ≤ 9223372036854775807) :
    Calls Try.prog 7 #[.slice A n c, .int .i64 a, .int .i64 b] w fun e w' => e = .returned (.bool true) ∧ Fr No w w' := by
  have HR := Lib.hid h
  clear h
  by_cases b1 : 80 < n
  · go_enter Try.func7, Try.ntmps7
    go_wp2_with fail
    refine (works_any _).mono ?_
    rintro x w1 ⟨rfl, hf⟩
    go_wp2
    go_ret
    exact ⟨rfl, hf⟩
  by_cases b2 : b < a
  · go_enter Try.func7, Try.ntmps7
    go_wp2_with fail
    refine (works_any _).mono ?_
    rintro x w1 ⟨rfl, hf⟩
    go_wp2
    go_ret
    exact ⟨rfl, hf⟩
  have hn80 : n ≤ 80 := by omega
  have hab : a ≤ b := by omega
  obtain ⟨i0, hi0, hz0, hz1, hz2⟩ : ∃ i, Try.prog.info? 3 = some i ∧ i.zero = some (.int .i64 0) ∧ i.size = 1 ∧ i.bytes = 8 := ⟨_, rfl, rfl, rfl, rfl⟩
  go_enter Try.func7, Try.ntmps7
  go_wp2_with fail
  refine (filled_any A n c es _ HR.out hn80).mono ?_
  rintro x w1 ⟨bx, D, rfl, OW⟩
  generalize fillS (stps es) = s at *
  have HO := Lib.hid OW
  clear OW
  obtain ⟨hle, e1, e2, e3, e4, e5⟩ := past_two HO.out.at_.ok hab
  have hpl : pastN s b ≤ 10000 := by have := pastN_le s b; have := HO.out.at_.n; omega
  have P1 := Lib.hid (fun X D hX => Past_at bx D s a X hX)
  have P2 := Lib.hid (fun X D hX => Past_at bx D (pastS s a) b X hX)
  have P3 := Lib.hid (fun X bb D hX => Past_at bb D s b X hX)
  have P4 := Lib.hid (fun X D hX => Past_at bx D (pastS s b) a X hX)
  unfold PastAt at P1 P2 P3 P4
  rw [e3.symm] at P3
  rw [e1, e2] at P2
  rw [e4, e5] at P4
  generalize pastG (pastS s a) b = gb at *
  generalize pastG (pastS s b) a = gc0 at *
  generalize pastG s a = ga at *
  generalize pastS s a = s1 at *
  generalize pastS s b = s2 at *
  generalize pastN s a = na at *
  generalize pastN s b = nb at *
  clear e1 e2 e3 e4 e5
  go_wp2_with fail
  refine (Copy_at bx D s _ HO.out.at_).mono ?_
  rintro x w2 ⟨b', D', rfl, hl, hD, hf⟩
  have T := Lib.hid (Two.of HO.out hl hD hf)
  clear HO hl hD hf
  have L1 := Lib.hid (fun k (hk : D k) => T.out.x.at_.lt hk)
  have L2 := Lib.hid (fun k (hk : D' k) => T.out.y.at_.lt hk)
  have hw2 := T.out.x.fr.size
  go_wp2_with fail
  refine (P1.out _ _ T.out.x.at_).mono ?_
  rintro x w3 ⟨G, gc, rfl, ho, hgc, hl, hf⟩
  replace T := Lib.hid (T.out.past hl hf)
  have hw3 : w2.heap.size ≤ w3.heap.size := hf.size
  have HO := Lib.hid ho
  clear hl hf ho
  go_wp2_with fail
  refine (P2.out _ _ T.out.x.at_).mono ?_
  rintro x w4 ⟨G2, gc2, rfl, ho2, hgc2, hl, hf⟩
  replace T := Lib.hid (T.out.past hl hf)
  have hw4 : w3.heap.size ≤ w4.heap.size := hf.size
  replace HO := Lib.hid (own_fr HO.out hf (own_nd HO.out L1.out))
  have R2 := Lib.hid (Reads.of_own ho2)
  have HB1 := Lib.hid (show (na + (nb - na)) * 8 ≤ 140737488355328 by omega)
  have HB0 := Lib.hid (show na + (nb - na) ≤ maxLen by unfold maxLen; omega)
  clear hl hf ho2
  go_wp2_with (at_builtin; refine wpList_append_any w4 rfl (.tmp 28) (.tmp 31) 30 rfl w2.heap.size 3 i0 (.int .i64 0) 1 8 Try.underlying30 hi0 hz0 hz1 hz2 rfl (by omega) (.slice G na gc) na _ rfl HO.out w4.heap.size G2 (nb - na) gc2 _ rfl R2.out (ints_one _) HB0.out HB1.out (by omega) ?_)
  intro v' w5 hown2 hg2 hloc2
  have hnd := own_nd HO.out L1.out
  have hnd' := own_nd HO.out L2.out
  have hF : Fr (fun k => (Value.slice G na gc).ownBlock = some k) w4 w5 := Fr.of_grown hg2 (fun k hk => hk)
  have HX : Mine w w5 bx D s2 := T.out.x.beside hF (fun k hk => Nat.le_trans hw2 ((HO.out.lt k hk).1)) (fun k h1 h2 => hnd k h2 h1)
  have HY : Mine w w5 b' D' s := T.out.y.beside hF (fun k hk => Nat.le_trans hw2 ((HO.out.lt k hk).1)) (fun k h1 h2 => hnd' k h2 h1)
  replace T : Hid (Two w w5 bx D s2 b' D' s) := Lib.hid ⟨HX, HY, T.out.ap⟩
  have hc2 : w5.ownsRow w2.heap.size 3 1 v' nb (cells .i64 (ga ++ gb)) := by unfold cells at hown2 ⊢; rw [List.map_append]; exact hown2
  obtain ⟨A5, c5, rfl⟩ := own_form' hc2
  have H5 := Lib.hid hc2
  clear hown2 hg2 hloc2 hnd hnd' hF HX HY hc2 HO R2
  go_wp2_with fail
  refine (P3.out _ _ _ T.out.y.at_).mono ?_
  rintro x w6 ⟨G3, gc3, rfl, ho3, hgc3, hl, hf⟩
  replace T := Lib.hid (T.out.past2 hl hf)
  have R5 := Lib.hid (Reads.of_own (own_fr H5.out hf (own_nd H5.out L2.out)))
  have S := Lib.hid (same_any A5 G3 nb c5 nb gc3 _ _ w6 R5.out (Reads.of_own ho3) (by omega))
  rw [decide_eq_true rfl] at S
  clear hl hf ho3
  go_wp2_with fail
  refine S.out.mono ?_
  rintro x w7 ⟨rfl, q, rfl⟩
  replace T := Lib.hid (T.out.fr0 ((Fr.refl No w6).drewN q))
  clear S R5
  generalize w6.drewN q = w7 at *
  have AL := Lib.hid (alike_any bx b' D D' s2 s2 w7 T.out.x.at_ T.out.y.at_ rfl)
  go_wp2_with fail
  refine AL.out.mono ?_
  rintro x w8 ⟨rfl, hf⟩
  replace T := Lib.hid (T.out.fr0 hf)
  clear hf AL
  go_wp2_with fail
  refine (P4.out _ _ T.out.x.at_).mono ?_
  rintro x w9 ⟨G4, gc4, rfl, _, _, hl, hf⟩
  replace T := Lib.hid (T.out.past hl hf)
  clear hl hf
  go_wp2_with fail
  refine (works_any _).mono ?_
  rintro e w10 ⟨rfl, hf⟩
  replace T := Lib.hid (T.out.fr0 hf)
  clear hf
  go_wp2
  go_ret
  exact ⟨rfl, T.out.x.fr⟩
end Go.Proofs.Ytgkpmckbdagkcaa
