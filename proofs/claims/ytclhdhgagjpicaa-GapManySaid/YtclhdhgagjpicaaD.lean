/- The contracts of package gap: Most, Near; slices.BinarySearch. -/
import Derived.Test.YtclhdhgagjpicaaC
namespace Go.Proofs.Ytclhdhgagjpicaa
open Go.RowKit Go.Wk

theorem Good.lt {l : List Int} (h : Good l) {i : Nat} : ∀ {j : Nat}, i < j → j < l.length → l.getD i 0 < l.getD j 0
  | 0, hij, _ => by omega
  | j + 1, hij, hj => by
    have h1 := h.inc j hj
    rcases (show i < j ∨ i = j by omega) with hk | rfl
    · have := Good.lt h hk (by omega)
      omega
    · exact h1
theorem Good.le {l : List Int} (h : Good l) {i j : Nat} (hij : i ≤ j) (hj : j < l.length) : l.getD i 0 ≤ l.getD j 0 := by
  rcases Nat.lt_or_ge i j with hlt | hge
  · exact Int.le_of_lt (h.lt hlt hj)
  · rw [show i = j by omega]; exact Int.le_refl _

/-- How many times from the i-th one on are in the window that begins with it. -/
def win (l : List Int) (v : Int) (i : Nat) : Nat := ((l.drop i).takeWhile (fun t => decide (t < l.getD i 0 + v))).length
theorem takeWhile_len {p : Int → Bool} : ∀ (l : List Int) (m : Nat), m ≤ l.length → (∀ j, j < m → p (l.getD j 0) = true) → (m = l.length ∨ p (l.getD m 0) = false) → (l.takeWhile p).length = m
  | [], m, hm, _, _ => by simp at hm; simp [hm]
  | a :: l, 0, _, _, h => by
    rcases h with h | h
    · simp at h
    · simp at h; simp [List.takeWhile, h]
  | a :: l, m + 1, hm, h1, h2 => by
    have h0 := h1 0 (by omega)
    simp at h0
    rw [List.takeWhile_cons_of_pos h0, List.length_cons, takeWhile_len l m (by simpa using hm) (fun j hj => by simpa using h1 (j + 1) (by omega)) (by simpa using h2)]
theorem win_eq {l : List Int} {v : Int} {i e : Nat} (hie : i ≤ e) (he : e ≤ l.length) (h1 : ∀ j, i ≤ j → j < e → l.getD j 0 < l.getD i 0 + v) (h2 : e = l.length ∨ ¬ l.getD e 0 < l.getD i 0 + v) : win l v i = e - i := by
  unfold win
  have key : ∀ j, (l.drop i).getD j 0 = l.getD (i + j) 0 := fun j => by simp
  refine takeWhile_len _ _ (by rw [List.length_drop]; omega) (fun j hj => ?_) ?_
  · rw [key]
    have := h1 (i + j) (by omega) (by omega)
    simpa using this
  · rcases h2 with h2 | h2
    · exact .inl (by rw [List.length_drop]; omega)
    · refine .inr ?_
      rw [key, show i + (e - i) = e by omega]
      simpa using h2

def mostStep (l : List Int) (v : Int) (s : Int × Int) (i : Nat) : Int × Int := if s.1 < (win l v i : Int) then ((win l v i : Int), l.getD i 0) else s
def mostAt (l : List Int) (v : Int) : Nat → Int × Int
  | 0 => (0, 0)
  | k + 1 => mostStep l v (mostAt l v k) k
def mostN (l : List Int) (v : Int) : Int := if wnd l v = 0 then (mostAt l v l.length).1 else 0
def mostT (l : List Int) (v : Int) : Int := if wnd l v = 0 then (mostAt l v l.length).2 else 0
theorem win_le (l : List Int) (v : Int) (i : Nat) : win l v i ≤ l.length := by
  unfold win
  have h1 := (List.takeWhile_sublist (fun t => decide (t < l.getD i 0 + v)) (l := l.drop i)).length_le
  rw [List.length_drop] at h1
  omega
theorem mostAt_bnd (l : List Int) (v : Int) : ∀ k, 0 ≤ (mostAt l v k).1 ∧ (mostAt l v k).1 ≤ l.length
  | 0 => by simp [mostAt]
  | k + 1 => by
    have h := mostAt_bnd l v k
    have hw := win_le l v k
    unfold mostAt mostStep
    split
    · simp only; omega
    · exact h

set_option maxRecDepth 100000 in
theorem most_any (A : Option Addr) (n c B : Nat) (l : List Int) (v : Int) (w : World) (h : Reads w B 1 A n (l.map (Value.int .i64))) (hB : B ≤ w.heap.size) :
    Calls Try.prog 18 #[.slice A n c, .int .i64 v] w fun e w' => e = .returned (.tuple #[.int .i64 (mostN l v), .int .i64 (mostT l v), .int .i64 (wnd l v)]) ∧ Fr No w w' := by
  have HW := Lib.hid (window_any A n c B l v w h hB)
  have HR := Lib.hid h
  have HN := Lib.hid h.length_ints
  clear h
  unfold mostN mostT
  by_cases hk : wnd l v = 0
  · obtain ⟨hg, hv1, hv2⟩ := wnd_ok hk
    have HG := Lib.hid hg
    have hn := hg.len
    rw [HN.out] at hn
    rw [hk] at HW ⊢
    simp only [if_true]
    clear hg hk
    go_enter Try.func18, Try.ntmps18
    go_wp2_with (go_at_call 40; refine HW.out.mono ?_; rintro e w1 ⟨rfl, hf⟩)
    have HF := Lib.hid hf
    clear hf
    go_loopw [8, 9, 10, 21] (fun q at_ en i wr => ∃ (k e : Nat), i = .int .i64 k ∧ k ≤ n ∧ w1 = wr ∧ q = .int .i64 (mostAt l v k).1 ∧ at_ = .int .i64 (mostAt l v k).2 ∧ en = .int .i64 e ∧ k ≤ e ∧ e ≤ n ∧ Hid (∀ j, k ≤ j → j < e → k < n → l.getD j 0 < l.getD k 0 + v)) (fun _ _ _ i _ => n - (intOf i).toNat)
    case atStart => exact ⟨0, 0, rfl, Nat.zero_le _, rfl, rfl, rfl, rfl, Nat.le_refl _, Nat.zero_le _, Lib.hid (fun j h1 h2 => by omega)⟩
    case round =>
      obtain ⟨k, e, rfl, hk, rfl, rfl, rfl, rfl, hke, hen, HE⟩ := hrel
      by_cases hlt : k < n
      · obtain ⟨b, off, rfl, hb, hc⟩ := HR.out.int_at hlt
        have hc' := (HF.out.cell (p := ⟨b, off + k, none⟩) (Nat.lt_of_lt_of_le hb hB) (fun x => x)).trans hc
        have hvl := HG.out.val k (by rw [HN.out]; exact hlt)
        have HMS := Lib.hid (show mostAt l v (k + 1) = mostStep l v (mostAt l v k) k from rfl)
        obtain ⟨hm1, hm2⟩ := mostAt_bnd l v k
        rw [HN.out] at hm2
        clear hc
        obtain ⟨hvl1, hvl2⟩ := hvl
        have HE0 := Lib.hid (fun j h1 h2 => HE.out j h1 h2 hlt)
        obtain ⟨t, ht⟩ : ∃ t, t = l.getD k 0 := ⟨_, rfl⟩
        rw [← ht] at hc' hvl1 hvl2 HE0
        have HT := Lib.hid ht
        clear ht HE
        generalize mostAt l v k = s at *
        go_wp2
        go_loopw [10] (fun en wr => ∃ e : Nat, en = .int .i64 e ∧ w1 = wr ∧ k ≤ e ∧ e ≤ n ∧ Hid (∀ j, k ≤ j → j < e → l.getD j 0 < t + v)) (fun en _ => n - (intOf en).toNat)
        case atStart => exact ⟨e, rfl, rfl, hke, hen, HE0⟩
        case round =>
          clear HE0 hke hen
          obtain ⟨e, rfl, rfl, hke, hen, HE⟩ := hrel
          by_cases hee : e < n
          · obtain ⟨b', off', hbb, _, hc2⟩ := HR.out.int_at hee
            injection hbb with hbb
            injection hbb with hb1 hb2
            subst hb1
            subst hb2
            have hc2' := (HF.out.cell (p := ⟨b, off + e, none⟩) (Nat.lt_of_lt_of_le hb hB) (fun x => x)).trans hc2
            have hve := HG.out.val e (by rw [HN.out]; exact hee)
            clear hc2
            obtain ⟨u, hu⟩ : ∃ u, u = l.getD e 0 := ⟨_, rfl⟩
            rw [← hu] at hc2' hve
            have HU := Lib.hid hu
            obtain ⟨hve1, hve2⟩ := hve
            clear hu
            by_cases hin : u < t + v
            · have HE2 := Lib.hid (show ∀ j, k ≤ j → j < e + 1 → l.getD j 0 < t + v from fun j h1 h2 => by
                rcases (show j < e ∨ j = e by omega) with h | rfl
                · exact HE.out j h1 h
                · rw [← HU.out]; exact hin)
              clear HE
              go_wp2
              go_roundw
              case rel => exact ⟨e + 1, by go_num, (by trivial), by omega, by omega, HE2⟩
              case measure => simp [intOf]; omega
            · have HWN := Lib.hid (show win l v k = e - k from win_eq hke (by rw [HN.out]; exact hen) (fun j h1 h2 => by rw [← HT.out]; exact HE.out j h1 h2) (.inr (by rw [← HU.out, ← HT.out]; exact hin)))
              have hke2 : k + 1 ≤ e := by
                rcases (show k < e ∨ k = e by omega) with h | h
                · exact h
                · exfalso
                  have : u = t := by rw [HU.out, HT.out, h]
                  omega
              have HNX := Lib.hid (show ∀ j, k + 1 ≤ j → j < e → k + 1 < n → l.getD j 0 < l.getD (k + 1) 0 + v from fun j h1 h2 h3 => by
                have q1 := HE.out j (by omega) h2
                have q2 := HG.out.inc k (by rw [HN.out]; exact h3)
                rw [← HT.out] at q2
                omega)
              have hek : ((win l v k : Nat) : Int) = (e : Int) - (k : Int) := by rw [HWN.out]; omega
              by_cases hbest : s.1 < (e : Int) - (k : Int)
              · have HSS := Lib.hid (show mostStep l v s k = ((e : Int) - (k : Int), t) from by unfold mostStep; rw [hek, if_pos hbest, HT.out])
                clear hek HE
                go_wp2
                go_roundw
                case rel => exact ⟨k + 1, e, by go_num, by omega, (by trivial), by rw [HMS.out, HSS.out], by rw [HMS.out, HSS.out], rfl, hke2, hen, HNX⟩
                case measure => simp [intOf]; omega
              · have HSS := Lib.hid (show mostStep l v s k = s from by unfold mostStep; rw [hek, if_neg hbest])
                clear hek HE
                go_wp2
                go_roundw
                case rel => exact ⟨k + 1, e, by go_num, by omega, (by trivial), by rw [HMS.out, HSS.out], by rw [HMS.out, HSS.out], rfl, hke2, hen, HNX⟩
                case measure => simp [intOf]; omega
          · have hen' : e = n := by omega
            have HWN := Lib.hid (show win l v k = e - k from win_eq hke (by rw [HN.out]; exact hen) (fun j h1 h2 => by rw [← HT.out]; exact HE.out j h1 h2) (.inl (by rw [HN.out]; exact hen')))
            have hke2 : k + 1 ≤ e := by omega
            have HNX := Lib.hid (show ∀ j, k + 1 ≤ j → j < e → k + 1 < n → l.getD j 0 < l.getD (k + 1) 0 + v from fun j h1 h2 h3 => by
              have q1 := HE.out j (by omega) h2
              have q2 := HG.out.inc k (by rw [HN.out]; exact h3)
              rw [← HT.out] at q2
              omega)
            have hek : ((win l v k : Nat) : Int) = (e : Int) - (k : Int) := by rw [HWN.out]; omega
            clear hen'
            by_cases hbest : s.1 < (e : Int) - (k : Int)
            · have HSS := Lib.hid (show mostStep l v s k = ((e : Int) - (k : Int), t) from by unfold mostStep; rw [hek, if_pos hbest, HT.out])
              clear hek HE
              go_wp2
              go_roundw
              case rel => exact ⟨k + 1, e, by go_num, by omega, (by trivial), by rw [HMS.out, HSS.out], by rw [HMS.out, HSS.out], rfl, hke2, hen, HNX⟩
              case measure => simp [intOf]; omega
            · have HSS := Lib.hid (show mostStep l v s k = s from by unfold mostStep; rw [hek, if_neg hbest])
              clear hek HE
              go_wp2
              go_roundw
              case rel => exact ⟨k + 1, e, by go_num, by omega, (by trivial), by rw [HMS.out, HSS.out], by rw [HMS.out, HSS.out], rfl, hke2, hen, HNX⟩
              case measure => simp [intOf]; omega
      · have hkn : k = l.length := by rw [HN.out]; omega
        have HKN := Lib.hid hkn
        clear hkn HE
        go_wp2
        go_ret3
        refine ⟨?_, HF.out⟩
        rw [← HKN.out]
        rfl
  · simp only [if_neg hk]
    have hkb : (wnd l v != 0) = true := by simpa using hk
    generalize wnd l v = k at *
    go_enter Try.func18, Try.ntmps18
    go_wp2_with (go_at_call 40; refine HW.out.mono ?_; rintro e w1 ⟨rfl, hf⟩)
    go_ret3
    exact ⟨rfl, hf⟩
end Go.Proofs.Ytclhdhgagjpicaa
