/- The document's wide, Cover, Most, Near. -/
import Derived.Test.YtclhdhgagjpicaaRA
import Derived.Test.YtclhdhgagjpicaaE
namespace Go.Proofs.Ytclhdhgagjpicaa
open Go.RowKit Go.Wk

theorem rcheck1_any (A : Option Addr) (n c B : Nat) (l : List Int) (w : World) (h : Reads w B 1 A n (l.map (Value.int .i64))) (hB : B ≤ w.heap.size) :
    Calls Try.prog 48 #[.slice (some ⟨w.heap.size, 0, none⟩) 1 1] (w.alloc (.cells #[.slice A n c] 25)) fun e w' => e = .returned (.int .i64 (chk [l])) ∧ Fr No (w.alloc (.cells #[.slice A n c] 25)) w' :=
  rcheck_any w.heap.size 1 1 B [⟨A, n, c, l⟩] _ (by omega) rfl (fun i hi => by
    obtain rfl : i = 0 := by omega
    exact ⟨(Blk.new w 25 #[.slice A n c]).cell 0, h.alloc hB _⟩)

theorem rwide_any (A : Option Addr) (n c B : Nat) (l : List Int) (v : Int) (w : World) (h : Reads w B 1 A n (l.map (Value.int .i64))) (hB : B ≤ w.heap.size) :
    Calls Try.prog 47 #[.slice A n c, .int .i64 v] w fun e w' => e = .returned (.int .i64 (wnd l v)) ∧ Fr No w w' := by
  have HC := Lib.hid (rcheck1_any A n c B l w h hB)
  have HF := Lib.hid ((Fr.refl No w).alloc (.cells #[.slice A n c] 25))
  clear h
  unfold wnd
  generalize chk [l] = k at *
  by_cases hk : k = 0
  · subst hk
    simp only [ne_eq, not_true_eq_false, if_false]
    rcases (show v < 1 ∨ (¬ v < 1 ∧ 68719476736 < v) ∨ (¬ v < 1 ∧ ¬ 68719476736 < v) by omega) with h1 | ⟨h1, h2⟩ | ⟨h1, h2⟩
    all_goals
      simp only [h1, true_or, false_or, if_true]
      try simp only [h2, if_true, if_false]
      go_enter Try.func47, Try.ntmps47
      go_wp2_with (go_at_call 48; refine HC.out.mono ?_; rintro e w1 ⟨rfl, hf⟩)
      go_ret
      exact ⟨rfl, HF.out.then0 hf⟩
  · simp only [ne_eq, hk, not_false_eq_true, if_true]
    have hkb : (k == 0) = false := by simpa using hk
    go_enter Try.func47, Try.ntmps47
    go_wp2_with (go_at_call 48; refine HC.out.mono ?_; rintro e w1 ⟨rfl, hf⟩)
    go_ret
    exact ⟨rfl, HF.out.then0 hf⟩

theorem cov_pos (v : Int) (l : List Int) (hl : ∀ x ∈ l, 0 ≤ x) (hne : l ≠ []) : 1 ≤ (cov l v).1 := by
  have mono : ∀ (l : List Int) (s : Int × Int), s.1 ≤ (l.foldl (covStep v) s).1 := fun l => by
    induction l with
    | nil => intro s; exact Int.le_refl _
    | cons a l ih =>
      intro s
      have h1 := ih (covStep v s a)
      have h2 : s.1 ≤ (covStep v s a).1 := by
        unfold covStep
        split
        · show s.1 ≤ s.1 + 1; omega
        · exact Int.le_refl _
      simp only [List.foldl_cons]
      omega
  match l, hne with
  | a :: l, _ =>
    have ha := hl a (by simp)
    have e : covStep v (0, -1) a = (1, a + v) := by unfold covStep; simp; omega
    unfold cov
    simp only [List.foldl_cons, e]
    exact mono l (1, a + v)

theorem vi {k : IntKind} {a b : Int} (h : a = b) : Value.int k a = .int k b := by rw [h]

theorem rcover_any (A : Option Addr) (n c B : Nat) (l : List Int) (v : Int) (w : World) (h : Reads w B 1 A n (l.map (Value.int .i64))) (hB : B ≤ w.heap.size) :
    Calls Try.prog 22 #[.slice A n c, .int .i64 v] w fun e w' => e = .returned (.tuple #[.int .i64 (covN l v), .int .i64 (wnd l v)]) ∧ Fr No w w' := by
  have HW := Lib.hid (rwide_any A n c B l v w h hB)
  have HR := Lib.hid h
  have HN := Lib.hid h.length_ints
  clear h
  unfold covN
  by_cases hk : wnd l v = 0
  · obtain ⟨hg, hv1, hv2⟩ := wnd_ok hk
    have HG := Lib.hid hg
    have hn := hg.len
    rw [HN.out] at hn
    rw [hk] at HW ⊢
    rw [if_pos rfl]
    clear hg hk
    go_enter Try.func22, Try.ntmps22
    go_wp2_with (go_at_call 47; refine HW.out.mono ?_; rintro e w1 ⟨rfl, hf⟩)
    have HF := Lib.hid hf
    clear hf
    go_loopw [7, 8, 9] (fun q en i wr => ∃ k m : Nat, i = .int .i64 k ∧ k ≤ n ∧ wr = w1.drewN m ∧ q = .int .i64 (cov (l.take k) v).1 ∧ en = .int .i64 (if k = 0 then 0 else (cov (l.take k) v).2)) (fun _ _ i _ => n - (intOf i).toNat)
    case atStart => exact ⟨0, 0, rfl, Nat.zero_le _, rfl, rfl, rfl⟩
    case round =>
      obtain ⟨k, m, rfl, hk, rfl, rfl, rfl⟩ := hrel
      by_cases hlt : k < n
      · obtain ⟨b, off, rfl, hb, hc⟩ := HR.out.int_at hlt
        have hc' := (HF.out.cell (p := ⟨b, off + k, none⟩) (Nat.lt_of_lt_of_le hb hB) (fun x => x)).trans hc
        have hvl := HG.out.val k (by rw [HN.out]; exact hlt)
        have HS := Lib.hid (cov_succ v (show k < l.length by rw [HN.out]; exact hlt))
        obtain ⟨hq1, hq2, hq3, hq4⟩ := cov_bnd v ⟨hv1, hv2⟩ (l.take k) (fun x hx => HG.out.mem x (List.mem_of_mem_take hx)) (0, -1) (by simp)
        rw [show (l.take k).foldl (covStep v) (0, -1) = cov (l.take k) v from rfl] at hq1 hq2 hq3 hq4
        have hl2 := List.length_take_le k l
        have hq5 : (cov (l.take k) v).1 ≤ 100000 := by simp at hq2; omega
        have hpos : k ≠ 0 → 1 ≤ (cov (l.take k) v).1 := fun h0 => cov_pos v _ (fun x hx => (HG.out.mem x (List.mem_of_mem_take hx)).1) (fun h => by
          have := congrArg List.length h
          simp [HN.out] at this
          omega)
        clear hc hq2 hl2
        obtain ⟨hvl1, hvl2⟩ := hvl
        have hin : (k : Int) < (n : Int) := by omega
        by_cases hk0 : k = 0
        · have HE := Lib.hid (show cov (l.take (k + 1)) v = (1, l.getD k 0 + v) by rw [HS.out, hk0]; simp [cov, covStep]; rw [hk0] at hvl1; simp at hvl1; omega)
          have HC0 := Lib.hid (show (cov (l.take k) v).1 = 0 by rw [hk0]; rfl)
          rw [HC0.out, if_pos hk0]
          have HK1 := Lib.hid (show ¬ k + 1 = 0 by omega)
          generalize l.getD k 0 = t at *
          clear hpos HS hk0
          go_wp2
          go_quiet (fail)
          go_wp2
          go_roundw
          case rel => exact ⟨k + 1, _, by go_num, by omega, rfl, by rw [HE.out], by rw [HE.out, if_neg HK1.out]⟩
          case measure => simp [intOf]; omega
        · have hp := hpos hk0
          rw [if_neg hk0]
          have HK1 := Lib.hid (show ¬ k + 1 = 0 by omega)
          generalize l.getD k 0 = t at *
          generalize cov (l.take k) v = s at *
          have hs0 : (s.1 == 0) = false := by simp; omega
          clear hpos
          by_cases hts : s.2 ≤ t
          · have HE := Lib.hid (show covStep v s t = (s.1 + 1, t + v) by unfold covStep; rw [if_pos hts])
            go_wp2
            go_quiet (fail)
            go_wp2
            go_roundw
            case rel => exact ⟨k + 1, _, by go_num, by omega, rfl, by rw [HS.out, HE.out], by rw [HS.out, HE.out, if_neg HK1.out]⟩
            case measure => simp [intOf]; omega
          · have HE := Lib.hid (show covStep v s t = s by unfold covStep; rw [if_neg hts])
            go_wp2
            go_roundw
            case rel => exact ⟨k + 1, _, by go_num, by omega, rfl, by rw [HS.out, HE.out], by rw [HS.out, HE.out, if_neg HK1.out]⟩
            case measure => simp [intOf]; omega
      · rw [show l.take k = l from List.take_of_length_le (by rw [HN.out]; omega)]
        generalize (if k = 0 then (0 : Int) else (cov l v).2) = en at *
        go_wp2
        go_ret2
        exact ⟨rfl, HF.out.drewN m⟩
  · rw [if_neg hk]
    have hkb : (wnd l v != 0) = true := by simpa using hk
    generalize wnd l v = k at *
    go_enter Try.func22, Try.ntmps22
    go_wp2_with (go_at_call 47; refine HW.out.mono ?_; rintro e w1 ⟨rfl, hf⟩)
    go_ret2
    exact ⟨rfl, hf⟩

theorem rmost_any (A : Option Addr) (n c B : Nat) (l : List Int) (v : Int) (w : World) (h : Reads w B 1 A n (l.map (Value.int .i64))) (hB : B ≤ w.heap.size) :
    Calls Try.prog 21 #[.slice A n c, .int .i64 v] w fun e w' => e = .returned (.tuple #[.int .i64 (mostN l v), .int .i64 (mostT l v), .int .i64 (wnd l v)]) ∧ Fr No w w' := by
  have HW := Lib.hid (rwide_any A n c B l v w h hB)
  have HR := Lib.hid h
  have HN := Lib.hid h.length_ints
  clear h
  unfold mostN mostT
  by_cases hk : wnd l v = 0
  · obtain ⟨hg, hv1, hv2⟩ := wnd_ok hk
    have HG := Lib.hid hg
    have hn := hg.len
    rw [HN.out] at hn
    rw [hk] at HW ⊢
    simp only [if_true]
    clear hg hk
    go_enter Try.func21, Try.ntmps21
    go_wp2_with (go_at_call 47; refine HW.out.mono ?_; rintro e w1 ⟨rfl, hf⟩)
    have HF := Lib.hid hf
    clear hf
    go_loopw [8, 9, 10] (fun q at_ i wr => ∃ k m : Nat, i = .int .i64 k ∧ k ≤ n ∧ wr = w1.drewN m ∧ q = .int .i64 (mostAt l v k).1 ∧ at_ = .int .i64 (mostAt l v k).2) (fun _ _ i _ => n - (intOf i).toNat)
    case atStart => exact ⟨0, 0, rfl, Nat.zero_le _, rfl, rfl, rfl⟩
    case round =>
      obtain ⟨k, m, rfl, hk, rfl, rfl, rfl⟩ := hrel
      by_cases hlt : k < n
      · obtain ⟨b, off, rfl, hb, hc⟩ := HR.out.int_at hlt
        have hc' := (HF.out.cell (p := ⟨b, off + k, none⟩) (Nat.lt_of_lt_of_le hb hB) (fun x => x)).trans hc
        have hvl := HG.out.val k (by rw [HN.out]; exact hlt)
        have HMS := Lib.hid (show mostAt l v (k + 1) = mostStep l v (mostAt l v k) k from rfl)
        obtain ⟨hm1, hm2⟩ := mostAt_bnd l v k
        rw [HN.out] at hm2
        clear hc
        obtain ⟨hvl1, hvl2⟩ := hvl
        have hin : (k : Int) < (n : Int) := by omega
        obtain ⟨t, ht⟩ : ∃ t, t = l.getD k 0 := ⟨_, rfl⟩
        rw [← ht] at hc' hvl1 hvl2
        have HT := Lib.hid ht
        clear ht
        generalize mostAt l v k = s at *
        go_wp2
        go_loopw [11, 12] (fun cn en wr => ∃ e m : Nat, en = .int .i64 e ∧ cn = .int .i64 ((e : Int) - (k : Int)) ∧ wr = w1.drewN m ∧ k ≤ e ∧ e ≤ n ∧ Hid (∀ j, k ≤ j → j < e → l.getD j 0 < t + v)) (fun _ en _ => n - (intOf en).toNat)
        case atStart => exact ⟨k, m, rfl, by simp, rfl, Nat.le_refl _, hk, Lib.hid (fun j h1 h2 => by omega)⟩
        case round =>
          obtain ⟨e, m2, rfl, rfl, rfl, hke, hen, HE⟩ := hrel
          by_cases hee : e < n
          · obtain ⟨b', off', hbb, _, hc2⟩ := HR.out.int_at hee
            injection hbb with hbb
            injection hbb with hb1 hb2
            subst hb1
            subst hb2
            have hc2' := (HF.out.cell (p := ⟨b, off + e, none⟩) (Nat.lt_of_lt_of_le hb hB) (fun x => x)).trans hc2
            clear hc2
            obtain ⟨u, hu⟩ : ∃ u, u = l.getD e 0 := ⟨_, rfl⟩
            rw [← hu] at hc2'
            have HU := Lib.hid hu
            have hin2 : (e : Int) < (n : Int) := by omega
            have hdn : decide ((e : Int) < (n : Int)) = true := by simpa using hee
            clear hu
            by_cases hin3 : u < t + v
            · have HE2 := Lib.hid (show ∀ j, k ≤ j → j < e + 1 → l.getD j 0 < t + v from fun j h1 h2 => by
                rcases (show j < e ∨ j = e by omega) with h | rfl
                · exact HE.out j h1 h
                · rw [← HU.out]; exact hin3)
              clear HE
              go_wp2
              go_quiet (fail)
              go_wp2
              go_roundw
              case rel => exact ⟨e + 1, _, by go_num, vi (by omega), rfl, by omega, by omega, HE2⟩
              case measure => simp [intOf]; omega
            · have HWN := Lib.hid (show win l v k = e - k from win_eq hke (by rw [HN.out]; exact hen) (fun j h1 h2 => by rw [← HT.out]; exact HE.out j h1 h2) (.inr (by rw [← HU.out, ← HT.out]; exact hin3)))
              have hek : ((win l v k : Nat) : Int) = (e : Int) - (k : Int) := by rw [HWN.out]; omega
              by_cases hbest : s.1 < (e : Int) - (k : Int)
              · have HSS := Lib.hid (show mostStep l v s k = ((e : Int) - (k : Int), t) from by unfold mostStep; rw [hek, if_pos hbest, HT.out])
                clear hek HE
                go_wp2
                go_quiet (fail)
                go_wp2
                go_quiet (fail)
                go_wp2
                go_roundw
                case rel => exact ⟨k + 1, _, by go_num, by omega, rfl, by rw [HMS.out, HSS.out], by rw [HMS.out, HSS.out]⟩
                case measure => simp [intOf]; omega
              · have HSS := Lib.hid (show mostStep l v s k = s from by unfold mostStep; rw [hek, if_neg hbest])
                clear hek HE
                go_wp2
                go_quiet (fail)
                go_wp2
                go_roundw
                case rel => exact ⟨k + 1, _, by go_num, by omega, rfl, by rw [HMS.out, HSS.out], by rw [HMS.out, HSS.out]⟩
                case measure => simp [intOf]; omega
          · have hen' : e = n := by omega
            have HWN := Lib.hid (show win l v k = e - k from win_eq hke (by rw [HN.out]; exact hen) (fun j h1 h2 => by rw [← HT.out]; exact HE.out j h1 h2) (.inl (by rw [HN.out]; exact hen')))
            have hek : ((win l v k : Nat) : Int) = (e : Int) - (k : Int) := by rw [HWN.out]; omega
            have hdn : decide ((e : Int) < (n : Int)) = false := by simp; omega
            clear hen'
            by_cases hbest : s.1 < (e : Int) - (k : Int)
            · have HSS := Lib.hid (show mostStep l v s k = ((e : Int) - (k : Int), t) from by unfold mostStep; rw [hek, if_pos hbest, HT.out])
              clear hek HE
              go_wp2
              go_quiet (fail)
              go_wp2
              go_quiet (fail)
              go_wp2
              go_roundw
              case rel => exact ⟨k + 1, _, by go_num, by omega, rfl, by rw [HMS.out, HSS.out], by rw [HMS.out, HSS.out]⟩
              case measure => simp [intOf]; omega
            · have HSS := Lib.hid (show mostStep l v s k = s from by unfold mostStep; rw [hek, if_neg hbest])
              clear hek HE
              go_wp2
              go_quiet (fail)
              go_wp2
              go_roundw
              case rel => exact ⟨k + 1, _, by go_num, by omega, rfl, by rw [HMS.out, HSS.out], by rw [HMS.out, HSS.out]⟩
              case measure => simp [intOf]; omega
      · have hkn : k = l.length := by rw [HN.out]; omega
        have HKN := Lib.hid hkn
        clear hkn
        go_wp2
        go_ret3
        refine ⟨?_, HF.out.drewN m⟩
        rw [← HKN.out]
        rfl
  · simp only [if_neg hk]
    have hkb : (wnd l v != 0) = true := by simpa using hk
    generalize wnd l v = k at *
    go_enter Try.func21, Try.ntmps21
    go_wp2_with (go_at_call 47; refine HW.out.mono ?_; rintro e w1 ⟨rfl, hf⟩)
    go_ret3
    exact ⟨rfl, hf⟩
end Go.Proofs.Ytclhdhgagjpicaa
