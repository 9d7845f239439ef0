/- GapMerges: the walk. -/
import Derived.Test.YtclhdhgagjpicaaRM
import Derived.Test.YtclhdhgagjpicaaFew
namespace Go.Proofs.Ytclhdhgagjpicaa
open Go.RowKit Go.Wk

theorem mergeL_len (a b : List Int) : (mergeL a b).length ≤ 9223372036854775807 := by
  unfold mergeL
  split
  · rename_i hk
    have h1 := bothL_len a b
    have h2 := (chk_ok hk a (by simp)).len
    have h3 := (chk_ok hk b (by simp)).len
    rw [List.length_map]
    omega
  · simp
theorem only1_len (a b : List Int) : (only1 a b).length ≤ 9223372036854775807 := by
  unfold only1
  split
  · rename_i hk
    have h1 := bothL_len a b
    have h2 := (chk_ok hk a (by simp)).len
    have h3 := (chk_ok hk b (by simp)).len
    have h4 := onl_le 1 (bothL a b)
    omega
  · simp
theorem only2_len (a b : List Int) : (only2 a b).length ≤ 9223372036854775807 := by
  unfold only2
  split
  · rename_i hk
    have h1 := bothL_len a b
    have h2 := (chk_ok hk a (by simp)).len
    have h3 := (chk_ok hk b (by simp)).len
    have h4 := onl_le 2 (bothL a b)
    omega
  · simp

set_option maxRecDepth 100000 in
set_option maxHeartbeats 8000000 in
theorem gapMerges_walk (A A' : Option Addr) (n c n' c' : Nat) (l l' : List Int) (w : World) (h : Reads w w.heap.size 1 A n (l.map (Value.int .i64))) (h' : Reads w w.heap.size 1 A' n' (l'.map (Value.int .i64))) :
    Calls Try.prog 12 #[.slice A n c, .slice A' n' c'] w fun e w' => e = .returned (.bool true) ∧ Fr No w w' := by
  have HFW := Lib.hid (few2_any A A' n c n' c' w)
  have F1 := (Fr.refl No w).alloc (.cells #[.slice A n c, .slice A' n' c'] 25)
  have HR := Lib.hid (h.fr0 F1)
  have HR' := Lib.hid (h'.fr0 F1)
  have HF := Lib.hid F1
  clear h h' F1
  by_cases hb : 700 < n ∨ 700 < n'
  · have hd : (decide (700 < n) || decide (700 < n')) = true := by simpa using hb
    rw [hd] at HFW
    go_enter Try.func12, Try.ntmps12
    go_wp2_with (go_at_call 20; refine HFW.out.mono ?_; rintro e w1 ⟨rfl, rfl⟩)
    refine (works_any _).mono ?_
    rintro e w2 ⟨rfl, hf⟩
    go_wp2
    go_ret
    exact ⟨rfl, HF.out.then0 hf⟩
  · have hd : (decide (700 < n) || decide (700 < n')) = false := by simp; omega
    rw [hd] at HFW
    have hn : n ≤ 1000000 := by omega
    have hn' : n' ≤ 1000000 := by omega
    have hml : (mergeL l l').length ≤ 9223372036854775807 := mergeL_len l l'
    have h1l : (only1 l l').length ≤ 9223372036854775807 := only1_len l l'
    have h2l : (only2 l l').length ≤ 9223372036854775807 := only2_len l l'
    have h5 : (chk [l, l'] == chk [l, l']) = true := by simp
    generalize hwa : w.alloc (.cells #[.slice A n c, .slice A' n' c'] 25) = wa at *
    go_enter Try.func12, Try.ntmps12
    go_wp2_with fail
    refine HFW.out.mono ?_
    rintro e w1 ⟨rfl, rfl⟩
    go_wp2_with fail
    refine (clone_any A n c l _ HR.out hn).mono ?_
    rintro e w2 ⟨Ag, cg, rfl, ho, hg, hf⟩
    have HG := Lib.hid (show Reads w2 w2.heap.size 1 Ag n (l.map (Value.int .i64)) from Reads.of_own ho)
    replace HR := Lib.hid (HR.out.fr0 hf)
    replace HR' := Lib.hid (HR'.out.fr0 hf)
    replace HF := Lib.hid (HF.out.then0 hf)
    clear hf ho
    go_wp2_with fail
    refine (clone_any A' n' c' l' _ HR'.out hn').mono ?_
    rintro e w3 ⟨Ag', cg', rfl, ho, hg', hf⟩
    have HG' := Lib.hid (show Reads w3 w3.heap.size 1 Ag' n' (l'.map (Value.int .i64)) from Reads.of_own ho)
    replace HR := Lib.hid (HR.out.fr0 hf)
    replace HR' := Lib.hid (HR'.out.fr0 hf)
    replace HG := Lib.hid (HG.out.fr0 hf)
    replace HF := Lib.hid (HF.out.then0 hf)
    clear hf ho
    go_wp2_with fail
    refine (merge_any Ag Ag' n cg n' cg' l l' _ HG.out HG'.out hg hg').mono ?_
    rintro e w4 ⟨Am, cm, rfl, ho, hf⟩
    have HM := Lib.hid (Reads.of_own ho)
    replace HR := Lib.hid (HR.out.fr0 hf)
    replace HR' := Lib.hid (HR'.out.fr0 hf)
    replace HG := Lib.hid (HG.out.fr0 hf)
    replace HG' := Lib.hid (HG'.out.fr0 hf)
    replace HF := Lib.hid (HF.out.then0 hf)
    clear hf ho
    go_wp2_with fail
    refine (rmerge_any A A' n c n' c' l l' _ HR.out HR'.out).mono ?_
    rintro e w5 ⟨An, cn, rfl, ho, hf⟩
    have HN := Lib.hid (Reads.of_own ho)
    replace HR := Lib.hid (HR.out.fr0 hf)
    replace HR' := Lib.hid (HR'.out.fr0 hf)
    replace HG := Lib.hid (HG.out.fr0 hf)
    replace HG' := Lib.hid (HG'.out.fr0 hf)
    replace HM := Lib.hid (HM.out.fr0 hf)
    replace HF := Lib.hid (HF.out.then0 hf)
    clear hf ho
    go_wp2_with fail
    refine (only_any Ag Ag' n cg n' cg' l l' _ HG.out HG'.out hg hg').mono ?_
    rintro e w6 ⟨Ap, cp, Aq, cq, rfl, ho, ho2, hf⟩
    have HP := Lib.hid (Reads.of_own ho)
    have HQ := Lib.hid (Reads.of_own ho2)
    replace HR := Lib.hid (HR.out.fr0 hf)
    replace HR' := Lib.hid (HR'.out.fr0 hf)
    replace HG := Lib.hid (HG.out.fr0 hf)
    replace HG' := Lib.hid (HG'.out.fr0 hf)
    replace HM := Lib.hid (HM.out.fr0 hf)
    replace HN := Lib.hid (HN.out.fr0 hf)
    replace HF := Lib.hid (HF.out.then0 hf)
    clear hf ho ho2
    go_wp2_with fail
    refine (ronly_any A A' n c n' c' l l' _ HR.out HR'.out).mono ?_
    rintro e w7 ⟨Ar, cr, As, cs, rfl, ho, ho2, hf⟩
    have HRR := Lib.hid (Reads.of_own ho)
    have HS := Lib.hid (Reads.of_own ho2)
    replace HR := Lib.hid (HR.out.fr0 hf)
    replace HR' := Lib.hid (HR'.out.fr0 hf)
    replace HG := Lib.hid (HG.out.fr0 hf)
    replace HG' := Lib.hid (HG'.out.fr0 hf)
    replace HM := Lib.hid (HM.out.fr0 hf)
    replace HN := Lib.hid (HN.out.fr0 hf)
    replace HP := Lib.hid (HP.out.fr0 hf)
    replace HQ := Lib.hid (HQ.out.fr0 hf)
    replace HF := Lib.hid (HF.out.then0 hf)
    clear hf ho ho2
    generalize mergeL l l' = m at *
    generalize only1 l l' = p at *
    generalize only2 l l' = q at *
    go_wp2_with fail
    refine (equal_yes _ _ m.length _ _ _ _ m _ hml HM.out HN.out).mono ?_
    rintro e w8 ⟨rfl, hf⟩
    replace HR := Lib.hid (HR.out.fr0 hf)
    replace HR' := Lib.hid (HR'.out.fr0 hf)
    replace HG := Lib.hid (HG.out.fr0 hf)
    replace HG' := Lib.hid (HG'.out.fr0 hf)
    replace HM := Lib.hid (HM.out.fr0 hf)
    replace HN := Lib.hid (HN.out.fr0 hf)
    replace HP := Lib.hid (HP.out.fr0 hf)
    replace HQ := Lib.hid (HQ.out.fr0 hf)
    replace HRR := Lib.hid (HRR.out.fr0 hf)
    replace HS := Lib.hid (HS.out.fr0 hf)
    replace HF := Lib.hid (HF.out.then0 hf)
    clear hf
    go_wp2_with fail
    refine (equal_yes _ _ p.length _ _ _ _ p _ h1l HP.out HRR.out).mono ?_
    rintro e w9 ⟨rfl, hf⟩
    replace HR := Lib.hid (HR.out.fr0 hf)
    replace HR' := Lib.hid (HR'.out.fr0 hf)
    replace HG := Lib.hid (HG.out.fr0 hf)
    replace HG' := Lib.hid (HG'.out.fr0 hf)
    replace HM := Lib.hid (HM.out.fr0 hf)
    replace HN := Lib.hid (HN.out.fr0 hf)
    replace HP := Lib.hid (HP.out.fr0 hf)
    replace HQ := Lib.hid (HQ.out.fr0 hf)
    replace HRR := Lib.hid (HRR.out.fr0 hf)
    replace HS := Lib.hid (HS.out.fr0 hf)
    replace HF := Lib.hid (HF.out.then0 hf)
    clear hf
    go_wp2_with fail
    refine (equal_yes _ _ q.length _ _ _ _ q _ h2l HQ.out HS.out).mono ?_
    rintro e w10 ⟨rfl, hf⟩
    replace HR := Lib.hid (HR.out.fr0 hf)
    replace HR' := Lib.hid (HR'.out.fr0 hf)
    replace HG := Lib.hid (HG.out.fr0 hf)
    replace HG' := Lib.hid (HG'.out.fr0 hf)
    replace HM := Lib.hid (HM.out.fr0 hf)
    replace HN := Lib.hid (HN.out.fr0 hf)
    replace HP := Lib.hid (HP.out.fr0 hf)
    replace HQ := Lib.hid (HQ.out.fr0 hf)
    replace HRR := Lib.hid (HRR.out.fr0 hf)
    replace HS := Lib.hid (HS.out.fr0 hf)
    replace HF := Lib.hid (HF.out.then0 hf)
    clear hf
    go_wp2_with fail
    refine (equal_yes _ _ n _ _ _ _ l _ (by omega) HR.out HG.out).mono ?_
    rintro e w11 ⟨rfl, hf⟩
    replace HR := Lib.hid (HR.out.fr0 hf)
    replace HR' := Lib.hid (HR'.out.fr0 hf)
    replace HG := Lib.hid (HG.out.fr0 hf)
    replace HG' := Lib.hid (HG'.out.fr0 hf)
    replace HM := Lib.hid (HM.out.fr0 hf)
    replace HN := Lib.hid (HN.out.fr0 hf)
    replace HP := Lib.hid (HP.out.fr0 hf)
    replace HQ := Lib.hid (HQ.out.fr0 hf)
    replace HRR := Lib.hid (HRR.out.fr0 hf)
    replace HS := Lib.hid (HS.out.fr0 hf)
    replace HF := Lib.hid (HF.out.then0 hf)
    clear hf
    go_wp2_with fail
    refine (equal_yes _ _ n' _ _ _ _ l' _ (by omega) HR'.out HG'.out).mono ?_
    rintro e w12 ⟨rfl, hf⟩
    replace HR := Lib.hid (HR.out.fr0 hf)
    replace HR' := Lib.hid (HR'.out.fr0 hf)
    replace HG := Lib.hid (HG.out.fr0 hf)
    replace HG' := Lib.hid (HG'.out.fr0 hf)
    replace HM := Lib.hid (HM.out.fr0 hf)
    replace HN := Lib.hid (HN.out.fr0 hf)
    replace HP := Lib.hid (HP.out.fr0 hf)
    replace HQ := Lib.hid (HQ.out.fr0 hf)
    replace HRR := Lib.hid (HRR.out.fr0 hf)
    replace HS := Lib.hid (HS.out.fr0 hf)
    replace HF := Lib.hid (HF.out.then0 hf)
    clear hf
    go_wp2_with fail
    refine (works_any _).mono ?_
    rintro e wz ⟨rfl, hf⟩
    go_wp2
    go_ret
    exact ⟨rfl, HF.out.then0 hf⟩
end Go.Proofs.Ytclhdhgagjpicaa
