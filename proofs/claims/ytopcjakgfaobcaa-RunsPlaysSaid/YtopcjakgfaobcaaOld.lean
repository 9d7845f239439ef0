/- RunsOldest: the walk. -/
import Derived.Test.YtopcjakgfaobcaaCntP
namespace Go.Proofs.Ytopcjakgfaobcaa
open Go.RowKit Go.Wk

theorem oldest_least : ∀ (l : List RV) (l0 : RV), (∀ x ∈ l, l0.id ≤ x.id) → l.Pairwise (fun x y => x.id < y.id) →
    ((oldest l0 l).start ≤ l0.start ∧ (l0.start = (oldest l0 l).start → (oldest l0 l).id ≤ l0.id)) ∧ ∀ x ∈ l, (oldest l0 l).start ≤ x.start ∧ (x.start = (oldest l0 l).start → (oldest l0 l).id ≤ x.id)
  | [], l0, _, _ => ⟨⟨Int.le_refl _, fun _ => Int.le_refl _⟩, fun x hx => by simp at hx⟩
  | a :: l, l0, h, hp => by
    have e : oldest l0 (a :: l) = oldest (older l0 a) l := rfl
    have ha := h a (by simp)
    rw [List.pairwise_cons] at hp
    have hm : ∀ x ∈ l, (older l0 a).id ≤ x.id := fun x hx => by
      unfold older
      split
      · have := hp.1 x hx; omega
      · exact h x (by simp [hx])
    obtain ⟨⟨h1, h2⟩, h3⟩ := oldest_least l (older l0 a) hm hp.2
    rw [e]
    by_cases hc : a.start < l0.start
    · have eo : older l0 a = a := by unfold older; rw [if_pos hc]
      rw [eo] at h1 h2 h3 ⊢
      refine ⟨⟨by omega, fun q => by omega⟩, fun x hx => ?_⟩
      rcases List.mem_cons.1 hx with rfl | hx
      · exact ⟨h1, h2⟩
      · exact h3 x hx
    · have eo : older l0 a = l0 := by unfold older; rw [if_neg hc]
      rw [eo] at h1 h2 h3 ⊢
      refine ⟨⟨h1, h2⟩, fun x hx => ?_⟩
      rcases List.mem_cons.1 hx with rfl | hx
      · exact ⟨by omega, fun q => by have := h2 (by omega); omega⟩
      · exact h3 x hx

theorem mem_getD {l : List RV} {i : Nat} (h : i < l.length) : l.getD i RV.zero ∈ l := by
  rw [show l.getD i RV.zero = l[i] by simp [h]]
  exact List.getElem_mem _

theorem pos_of_mem {s : TS} (hok : s.ok) {x : RV} (hx : x ∈ s.live) : s.has x.id = true ∧ s.getV x.id = x := by
  obtain ⟨i, hi, rfl⟩ := List.mem_iff_getElem.1 hx
  have hp : s.pos s.live[i].id = some i := by
    unfold TS.pos
    rw [List.findIdx?_eq_some_iff_getElem]
    refine ⟨hi, by simp, fun j hj => ?_⟩
    have := List.pairwise_iff_getElem.1 hok.inc j i (by omega) hi hj
    simp; omega
  exact ⟨by unfold TS.has; rw [hp]; rfl, by unfold TS.getV; rw [hp]; simp [hi]⟩

theorem old_mem {s : TS} (h : s.live ≠ []) : s.old ∈ s.live := by
  have hl := List.length_pos_iff.2 h
  rcases oldest_mem s.live (s.live.getD 0 RV.zero) with e | e
  · unfold TS.old
    rw [e]
    exact mem_getD hl
  · exact e
theorem old_least {s : TS} (hok : s.ok) (h : s.live ≠ []) : ∀ x ∈ s.live, s.old.start ≤ x.start ∧ (x.start = s.old.start → s.old.id ≤ x.id) := by
  have hl := List.length_pos_iff.2 h
  refine (oldest_least s.live _ (fun x hx => ?_) hok.inc).2
  obtain ⟨i, hi, rfl⟩ := List.mem_iff_getElem.1 hx
  rw [show s.live.getD 0 RV.zero = s.live[0] by simp [hl]]
  rcases Nat.eq_zero_or_pos i with rfl | h0
  · exact Int.le_refl _
  · have := List.pairwise_iff_getElem.1 hok.inc 0 i hl hi h0
    omega

set_option maxRecDepth 100000 in
set_option maxHeartbeats 4000000 in
theorem runsOldest_walk (A : Option Addr) (n c : Nat) (es : List (List Int)) (now : Int) (w : World) (h : RowF kStp 48 w A n c es) (hn : n ≤ 9223372036854775807) (hnow : now ≤ 9223372036854775807) :
    Calls Try.prog 6 #[.slice A n c, .int .i64 now] w fun e w' => e = .returned (.bool true) ∧ Fr No w w' := by
  have HR := Lib.hid h
  clear h
  by_cases b1 : 60 < n
  · go_enter Try.func6, Try.ntmps6
    go_wp2_with fail
    refine (works_any _).mono ?_
    rintro x w1 ⟨rfl, hf⟩
    go_wp2
    go_ret
    exact ⟨rfl, hf⟩
  have hn60 : n ≤ 60 := by omega
  go_enter Try.func6, Try.ntmps6
  go_wp2_with fail
  refine (filled_any A n c es _ HR.out hn60).mono ?_
  rintro x w1 ⟨b, D, rfl, OW⟩
  generalize fillS (stps es) = s at *
  have HO := Lib.hid OW
  clear OW
  have hs1 := HO.out.tab.ok.len
  have hs2 := HO.out.tab.ok.s1
  by_cases hne : s.live = []
  · have e1 : s.oldId = 0 := by unfold TS.oldId; rw [if_pos hne]
    have e2 : s.oldAge now = 0 := by unfold TS.oldAge; rw [if_pos hne]
    have e3 : decide (s.live ≠ []) = false := by simpa using hne
    have HE := Lib.hid hne
    clear hne
    go_wp2_with fail
    refine (oldest_any b D s now _ HO.out.tab hnow).mono ?_
    rintro x w2 ⟨rfl, hf⟩
    rw [e1, e2, e3]
    replace HO := Lib.hid (HO.out.fr0 hf)
    clear hf e1 e2 e3
    go_wp2_with fail
    refine (live_any b D s _ HO.out.tab).mono ?_
    rintro x w3 ⟨A2, c2, rfl, ho, hf⟩
    replace HO := Lib.hid (HO.out.fr0 hf)
    clear ho hf
    rw [HE.out, List.length_nil]
    go_wp2_with fail
    refine (works_any _).mono ?_
    rintro e w4 ⟨rfl, hf⟩
    replace HO := Lib.hid (HO.out.fr0 hf)
    clear hf
    go_wp2
    go_ret
    exact ⟨rfl, HO.out.fr⟩
  · have e1 : s.oldId = s.old.id := by unfold TS.oldId; rw [if_neg hne]
    have e2 : s.oldAge now = if now < s.old.start then 0 else min (now - s.old.start) 4611686018427387904 := by unfold TS.oldAge; rw [if_neg hne]
    have e3 : decide (s.live ≠ []) = true := by simpa using hne
    have hml := Lib.hid (old_least HO.out.tab.ok hne)
    obtain ⟨q1, q2⟩ := pos_of_mem HO.out.tab.ok (old_mem hne)
    obtain ⟨ht1, ht2⟩ := HO.out.tab.ok.times _ (old_mem hne)
    have hl0 := List.length_pos_iff.2 hne
    go_wp2_with fail
    refine (oldest_any b D s now _ HO.out.tab hnow).mono ?_
    rintro x w2 ⟨rfl, hf⟩
    rw [e1, e2, e3]
    replace HO := Lib.hid (HO.out.fr0 hf)
    clear hf e1 e2 e3 hne
    generalize s.old = o at *
    obtain ⟨ag, hag⟩ : ∃ ag, ag = if now < o.start then 0 else min (now - o.start) 4611686018427387904 := ⟨_, rfl⟩
    rw [← hag]
    have HAG := Lib.hid hag
    clear hag
    go_wp2_with fail
    refine (live_any b D s _ HO.out.tab).mono ?_
    rintro x w3 ⟨A2, c2, rfl, ho, hf⟩
    have V0 := Lib.hid (View.of HO.out ho hf)
    clear ho hf
    obtain ⟨l, hl⟩ : ∃ l, l = s.live := ⟨_, rfl⟩
    rw [← hl] at V0 hs1 hl0 hml ⊢
    have HL := Lib.hid hl
    obtain ⟨m, hm⟩ : ∃ m, m = l.length := ⟨_, rfl⟩
    rw [← hm] at V0 hs1 hl0 ⊢
    have HM := Lib.hid hm
    clear hl hm HO
    have hm0 : ((m : Int) == 0) = false := by simp; omega
    go_wp2_with fail
    refine (get_any b D s _ o.id V0.out.own.tab).mono ?_
    rintro e w4 ⟨rfl, hf⟩
    rw [q1, q2]
    replace V0 := Lib.hid (V0.out.fr0 hf)
    clear hf q1 q2
    unfold RV.agg
    have HX := Lib.hid (Blk.new w4 31 #[.int .i64 o.id, .int .i64 o.job, .int .i64 o.due, .int .i64 o.att, .int .i64 o.start])
    have V1 := Lib.hid (V0.out.fr0 ((Fr.refl No w4).alloc (.cells #[.int .i64 o.id, .int .i64 o.job, .int .i64 o.due, .int .i64 o.att, .int .i64 o.start] 31)))
    go_wp2
    go_loopw [12] (fun i wr => ∃ k : Nat, i = .int .i64 k ∧ k ≤ m ∧ View w wr b D s A2 m l ∧ Blk wr w4.heap.size 31 #[.int .i64 o.id, .int .i64 o.job, .int .i64 o.due, .int .i64 o.att, .int .i64 o.start]) (fun i _ => m - (intOf i).toNat)
    case atStart => exact ⟨0, rfl, Nat.zero_le _, V1.out, HX.out⟩
    case round =>
      clear V0 V1 HX
      obtain ⟨k, rfl, hk, V, HX⟩ := hrel
      obtain ⟨x0, x1, x2, x3, x4⟩ := cells5 HX
      have HXX := Lib.hid HX
      have HV := Lib.hid V
      clear HX
      by_cases hlt : k < m
      · obtain ⟨g, off, rfl, _, _, a0, a1, a2, a3, a4⟩ := reads_run V.rd hlt
        obtain ⟨p1, p2⟩ := hml.out _ (mem_getD (l := l) (i := k) (by rw [← HM.out]; exact hlt))
        clear V
        generalize l.getD k RV.zero = x at *
        by_cases heq : x.start = o.start
        · have p3 := p2 heq
          clear p2
          go_wp2
          go_quiet (fail)
          go_wp2
          go_roundw
          case rel => exact ⟨k + 1, by go_num, by omega, HV.out.fr0 ((Fr.refl No _).drewN _), HXX.out.drewN _⟩
          case measure => simp [intOf]; omega
        · clear p2
          go_wp2
          go_quiet (fail)
          go_wp2
          go_roundw
          case rel => exact ⟨k + 1, by go_num, by omega, HV.out.fr0 ((Fr.refl No _).drewN _), HXX.out.drewN _⟩
          case measure => simp [intOf]; omega
      · clear V
        by_cases hnw : now ≤ o.start
        · have ea : ag = 0 := by
            rw [HAG.out]
            split
            · rfl
            · rw [Int.min_eq_left (by omega)]; omega
          subst ea
          go_wp2_with fail
          refine (works_any _).mono ?_
          rintro e w5 ⟨rfl, hf⟩
          replace HV := Lib.hid (HV.out.fr0 hf)
          clear hf
          go_wp2
          go_ret
          exact ⟨rfl, HV.out.own.fr⟩
        · by_cases hmin : now - o.start ≤ 4611686018427387904
          all_goals
            have ea : ag = min (now - o.start) 4611686018427387904 := by rw [HAG.out, if_neg (by omega)]
            first
              | rw [Int.min_eq_left hmin] at ea
              | rw [Int.min_eq_right (by omega)] at ea
            subst ea
            go_wp2_with fail
            refine (works_any _).mono ?_
            rintro e w5 ⟨rfl, hf⟩
            replace HV := Lib.hid (HV.out.fr0 hf)
            clear hf
            go_wp2
            go_ret
            exact ⟨rfl, HV.out.own.fr⟩
end Go.Proofs.Ytopcjakgfaobcaa
