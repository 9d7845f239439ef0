/- LateKeeps: the walk. -/
import Derived.Test.YtgkpmckbdagkcaaPp
namespace Go.Proofs.Ytgkpmckbdagkcaa
open Go.RowKit Go.Wk

theorem add_have {s : LS} {x d : Int} (h : getB s x = true) (hd : 0 ≤ d ∧ d ≤ 4611686018427387904) : addE s x d = 6 ∧ addS s x d = s := by
  have e : addE s x d = 6 := by unfold addE; rw [if_neg (by omega), if_pos h]
  exact ⟨e, by unfold addS; rw [e, if_neg (by decide)]⟩
theorem add_bad {s : LS} {x d : Int} (hd : d < 0 ∨ 4611686018427387904 < d) : addE s x d = 2 ∧ addS s x d = s := by
  have e : addE s x d = 2 := by unfold addE; rw [if_pos hd]
  exact ⟨e, by unfold addS; rw [e, if_neg (by decide)]⟩
theorem rem_none {s : LS} {x : Int} (hg : getB s x = false) : remE s x = 5 ∧ remS s x = s := by
  refine ⟨by unfold remE; rw [if_neg (by rw [hg]; decide)], ?_⟩
  have hn : mkOf s.l x = none := by
    unfold getB at hg
    cases h : mkOf s.l x with
    | none => rfl
    | some p => rw [h] at hg; cases hg
  have := mkOf_eq_none.1 hn
  have e1 : remL s.l x = s.l := by
    unfold remL
    rw [List.filter_eq_self]
    intro a ha
    simpa using this a ha
  show (⟨remL s.l x, s.seq⟩ : LS) = s
  rw [e1]

/-- A slice of ids of the call's own, its cells from k on as they were. -/
def Ful (w wr : World) (D D' : Nat → Prop) (A : Option Addr) (k N : Nat) (s : LS) : Prop :=
  k < N → ∃ g cur, A = some ⟨g, 0, none⟩ ∧ w.heap.size ≤ g ∧ ¬ D g ∧ ¬ D' g ∧ Blk wr g 3 cur ∧ ∀ j, k ≤ j → j < N → cur[j]? = some (.int .i64 (idN s j))
theorem Ful.of {w w1 wr : World} {D D' : Nat → Prop} {A : Option Addr} {N c : Nat} {s : LS} (h : wr.ownsRow w1.heap.size 3 1 (.slice A N c) N (cells .i64 (ids s.l))) (hN : N = s.l.length) (hw : w.heap.size ≤ w1.heap.size) (h1 : ∀ k, D k → k < w1.heap.size) (h2 : ∀ k, D' k → k < w1.heap.size) : Ful w wr D D' A 0 N s := by
  intro h0
  rcases h.2 with ⟨_, hn⟩ | ⟨g, cap, cur, hv, hg, hh, _⟩
  · omega
  · injection hv with hA hn hc
    refine ⟨g, cur, hA, by omega, fun hd => ?_, fun hd => ?_, hh, fun j _ hj => ?_⟩
    · have := h1 g hd; omega
    · have := h2 g hd; omega
    · obtain ⟨b, off, he, _, hcl⟩ := (Reads.of_own h).int_at (kd := .i64) (xs := ids s.l) hj
      rw [hA] at he
      cases he
      rw [ids_get _ _ (by omega), Nat.zero_add] at hcl
      have hb : Blk wr g 3 cur := hh
      rw [hb.cell] at hcl
      exact hcl

set_option maxRecDepth 100000 in
set_option maxHeartbeats 4000000 in
theorem lateKeeps_walk (A : Option Addr) (n c : Nat) (es : List (List Int)) (id at_ : Int) (w : World) (h : RowF kStp 24 w A n c es) (hn : n ≤ 9223372036854775807) (hid : fits id) :
    Calls Try.prog 10 #[.slice A n c, .int .i64 id, .int .i64 at_] w fun e w' => e = .returned (.bool true) ∧ Fr No w w' := by
  have HR := Lib.hid h
  clear h
  by_cases b1 : 80 < n
  · go_enter Try.func10, Try.ntmps10
    go_wp2_with fail
    refine (works_any _).mono ?_
    rintro x w1 ⟨rfl, hf⟩
    go_wp2
    go_ret
    exact ⟨rfl, hf⟩
  have hn80 : n ≤ 80 := by omega
  go_enter Try.func10, Try.ntmps10
  go_wp2_with fail
  refine (filled_any A n c es _ HR.out hn80).mono ?_
  rintro x w1 ⟨bx, D, rfl, OW⟩
  have hseq : (fillS (stps es)).seq + 1 ≤ 10000 := by
    have h1 := fillS_seq (stps es)
    have h2 : (stps es).length = n := by have := HR.out.2.2.2.1; simpa [stps] using this
    omega
  generalize fillS (stps es) = s at *
  have HO := Lib.hid OW
  clear OW
  have HOK := Lib.hid HO.out.at_.ok
  have hNl := HO.out.at_.n
  go_wp2_with fail
  refine (Copy_at bx D s _ HO.out.at_).mono ?_
  rintro x w2 ⟨b', D', rfl, hl, hD, hf⟩
  have T := Lib.hid (Two.of HO.out hl hD hf)
  clear HO hl hD hf
  have L1 := Lib.hid (fun k (hk : D k) => T.out.x.at_.lt hk)
  have L2 := Lib.hid (fun k (hk : D' k) => T.out.y.at_.lt hk)
  have hw2 := T.out.x.fr.size
  go_wp2_with fail
  refine (Ids_at bx D s _ T.out.x.at_).mono ?_
  rintro x w3 ⟨G, gc, rfl, ho, hgc, hf⟩
  replace T := Lib.hid (T.out.fr0 hf)
  obtain ⟨N, hN⟩ : ∃ N, N = s.l.length := ⟨_, rfl⟩
  rw [← hN] at ho hgc hNl ⊢
  have FU := Lib.hid (Ful.of (D := D) (D' := D') ho hN hw2 L1.out L2.out)
  have HNN := Lib.hid hN
  clear ho hf hN L1 L2
  go_wp2
  go_loopw [10] (fun i wr => ∃ (k : Nat) (E : Nat → Prop), i = .int .i64 k ∧ k ≤ N ∧ Hid (Two w wr bx E s b' D' s) ∧ Hid (Ful w wr E D' G k N s)) (fun i _ => N - (intOf i).toNat)
  case atStart => exact ⟨0, D, rfl, Nat.zero_le _, T, FU⟩
  case round =>
    clear T FU
    obtain ⟨k, E, rfl, hk, T, FU⟩ := hrel
    by_cases hlt : k < N
    · have hls : k < s.l.length := by rw [← HNN.out]; exact hlt
      obtain ⟨g, cur, rfl, hg, hg1, hg2, hb, hc⟩ := FU.out hlt
      have a0 : wr.cell? ⟨g, k, none⟩ = some (.int .i64 (idN s k)) := by rw [hb.cell]; exact hc k (Nat.le_refl _) hlt
      have hX : fits (idN s k) := fits_get HOK.out hls
      obtain ⟨e1, e2⟩ := add_have (s := s) (x := idN s k) (d := 5) (getB_get HOK.out hls) (by omega)
      have AD := Lib.hid (Add_at bx E s (idN s k) 5 hX hseq wr T.out.x.at_)
      rw [e1, e2] at AD
      have HB := Lib.hid hb
      have HC := Lib.hid hc
      have hgl := hb.lt
      clear e1 e2 hb hc FU hls
      generalize idN s k = x at *
      go_wp2_with fail
      refine AD.out.mono ?_
      rintro e w4 ⟨rfl, ht⟩
      obtain ⟨E', T4, hdd, hf4⟩ := T.out.next ht
      have B4 := HB.out.fr hf4 hg1
      have c4 := (hf4.cell (p := ⟨g, k, none⟩) hgl hg1).trans a0
      have z4 := B4.frozen k
      have hg1' : ¬ E' g := fun h => (hdd g h).elim hg1 (fun h' => by omega)
      replace T := Lib.hid T4
      replace HB := Lib.hid B4
      clear ht hdd hf4 T4 B4 a0
      go_wp2
      go_roundw
      case rel =>
        have FS : Fr (· = g) w4 (w4.setCell ⟨g, k, none⟩ (.int .i64 (-7))) := (Fr.refl (· = g) w4).setCell (p := ⟨g, k, none⟩) (.inr rfl) _
        refine ⟨k + 1, E', by go_num, by omega, Lib.hid ⟨T.out.x.beside FS (fun q hq => by rw [hq]; exact hg) (fun q h1 h2 => hg1' (by rw [← h2]; exact h1)), T.out.y.beside FS (fun q hq => by rw [hq]; exact hg) (fun q h1 h2 => hg2 (by rw [← h2]; exact h1)), T.out.ap⟩, Lib.hid (fun _ => ⟨g, _, rfl, hg, hg1', hg2, HB.out.set_ k _, fun j hj1 hj2 => ?_⟩)⟩
        rw [Array.getElem?_setIfInBounds_ne (by omega)]
        exact HC.out j (by omega) hj2
      case measure => simp [intOf]; omega
    · clear FU
      obtain ⟨e1, e2⟩ := add_bad (s := s) (x := id) (d := -1) (.inl (by omega))
      obtain ⟨e3, e4⟩ := add_bad (s := s) (x := id) (d := 4611686018427387905) (.inr (by omega))
      have A1 := Lib.hid (fun X E hX => Add_at bx E s id (-1) hid hseq X hX)
      have A2 := Lib.hid (fun X E hX => Add_at bx E s id 4611686018427387905 hid hseq X hX)
      rw [e1, e2] at A1
      rw [e3, e4] at A2
      clear e1 e2 e3 e4
      go_wp2_with fail
      refine (A1.out _ _ T.out.x.at_).mono ?_
      rintro e w4 ⟨rfl, ht⟩
      obtain ⟨E2, T4, _, _⟩ := T.out.next ht
      replace T := Lib.hid T4
      clear ht T4 A1
      go_wp2_with fail
      refine (A2.out _ _ T.out.x.at_).mono ?_
      rintro e w5 ⟨rfl, ht⟩
      obtain ⟨E3, T5, _, _⟩ := T.out.next ht
      replace T := Lib.hid T5
      clear ht T5 A2
      have key : ∀ (X : World) (E : Nat → Prop), Two w X bx E s b' D' s → Calls Try.prog 17 #[.pointer (some ⟨bx, 0, none⟩), .pointer (some ⟨b', 0, none⟩)] X fun e w' => e = .returned (.bool true) ∧ Fr No X w' := fun X E h => alike_any bx b' E D' s s X h.x.at_ h.y.at_ rfl
      have KEY := Lib.hid key
      have G1 := Lib.hid (fun X hX => Get_at bx E3 s id hid X hX)
      have P1 := Lib.hid (fun X E hX => Past_at bx E s at_ X hX)
      have P2 := Lib.hid (fun X hX => Past_at b' D' s at_ X hX)
      unfold PastAt at P1 P2
      have hpl : pastN s at_ ≤ 9223372036854775807 := by have := pastN_le s at_; have := T.out.x.at_.n; omega
      generalize pastG s at_ = pg at *
      generalize pastN s at_ = pn at *
      generalize pastS s at_ = s2 at *
      clear key
      by_cases hgb : getB s id = true
      · rw [hgb] at G1
        generalize getV s id = gv at *
        clear hgb
        go_wp2_with fail
        refine (G1.out _ T.out.x.at_).mono ?_
        rintro e w6 ⟨rfl, hf⟩
        replace T := Lib.hid (T.out.fr0 hf)
        clear hf G1
        go_wp2_with fail
        refine (KEY.out _ _ T.out).mono ?_
        rintro e w7 ⟨rfl, hf⟩
        replace T := Lib.hid (T.out.fr0 hf)
        clear hf KEY
        go_wp2_with fail
        refine (P1.out _ _ T.out.x.at_).mono ?_
        rintro e w8 ⟨G1, c1, rfl, ho1, _, hl, hf⟩
        have L2 := Lib.hid (fun k (hk : D' k) => T.out.y.at_.lt hk)
        replace T := Lib.hid (T.out.past hl hf)
        have O1 := Lib.hid ho1
        clear hl hf ho1 P1
        go_wp2_with fail
        refine (P2.out _ T.out.y.at_).mono ?_
        rintro e w9 ⟨G2, c2, rfl, ho2, _, hl, hf⟩
        replace T := Lib.hid (T.out.past2 hl hf)
        have R1 := Lib.hid (Reads.of_own (own_fr O1.out hf (own_nd O1.out L2.out)))
        have S := Lib.hid (same_any G1 G2 pn c1 pn c2 _ _ w9 R1.out (Reads.of_own ho2) hpl)
        rw [decide_eq_true rfl] at S
        clear hl hf ho2 P2 L2
        go_wp2_with fail
        refine S.out.mono ?_
        rintro e w10 ⟨rfl, q, rfl⟩
        replace T := Lib.hid (T.out.fr0 ((Fr.refl No w9).drewN q))
        clear S R1 O1
        generalize w9.drewN q = w10 at *
        have AL := Lib.hid (alike_any bx b' E3 D' s2 s2 w10 T.out.x.at_ T.out.y.at_ rfl)
        go_wp2_with fail
        refine AL.out.mono ?_
        rintro e w11 ⟨rfl, hf⟩
        replace T := Lib.hid (T.out.fr0 hf)
        clear hf AL
        go_wp2_with fail
        refine (works_any _).mono ?_
        rintro e w12 ⟨rfl, hf⟩
        replace T := Lib.hid (T.out.fr0 hf)
        clear hf
        go_wp2
        go_ret
        exact ⟨rfl, T.out.x.fr⟩
      · rw [Bool.not_eq_true] at hgb
        obtain ⟨r1, r2⟩ := rem_none hgb
        have RM := Lib.hid (fun X E hX => Remove_at bx E s id hid X hX)
        rw [r1, r2] at RM
        rw [hgb] at G1
        generalize getV s id = gv at *
        clear hgb r1 r2
        go_wp2_with fail
        refine (G1.out _ T.out.x.at_).mono ?_
        rintro e w6 ⟨rfl, hf⟩
        replace T := Lib.hid (T.out.fr0 hf)
        clear hf G1
        go_wp2_with fail
        refine (RM.out _ _ T.out.x.at_).mono ?_
        rintro e w7 ⟨rfl, ht⟩
        obtain ⟨E4, T5, _, _⟩ := T.out.next ht
        replace T := Lib.hid T5
        clear ht T5 RM
        go_wp2_with fail
        refine (KEY.out _ _ T.out).mono ?_
        rintro e w7 ⟨rfl, hf⟩
        replace T := Lib.hid (T.out.fr0 hf)
        clear hf KEY
        go_wp2_with fail
        refine (P1.out _ _ T.out.x.at_).mono ?_
        rintro e w8 ⟨G1, c1, rfl, ho1, _, hl, hf⟩
        have L2 := Lib.hid (fun k (hk : D' k) => T.out.y.at_.lt hk)
        replace T := Lib.hid (T.out.past hl hf)
        have O1 := Lib.hid ho1
        clear hl hf ho1 P1
        go_wp2_with fail
        refine (P2.out _ T.out.y.at_).mono ?_
        rintro e w9 ⟨G2, c2, rfl, ho2, _, hl, hf⟩
        replace T := Lib.hid (T.out.past2 hl hf)
        have R1 := Lib.hid (Reads.of_own (own_fr O1.out hf (own_nd O1.out L2.out)))
        have S := Lib.hid (same_any G1 G2 pn c1 pn c2 _ _ w9 R1.out (Reads.of_own ho2) hpl)
        rw [decide_eq_true rfl] at S
        clear hl hf ho2 P2 L2
        go_wp2_with fail
        refine S.out.mono ?_
        rintro e w10 ⟨rfl, q, rfl⟩
        replace T := Lib.hid (T.out.fr0 ((Fr.refl No w9).drewN q))
        clear S R1 O1
        generalize w9.drewN q = w10 at *
        have AL := Lib.hid (alike_any bx b' E4 D' s2 s2 w10 T.out.x.at_ T.out.y.at_ rfl)
        go_wp2_with fail
        refine AL.out.mono ?_
        rintro e w11 ⟨rfl, hf⟩
        replace T := Lib.hid (T.out.fr0 hf)
        clear hf AL
        go_wp2_with fail
        refine (works_any _).mono ?_
        rintro e w12 ⟨rfl, hf⟩
        replace T := Lib.hid (T.out.fr0 hf)
        clear hf
        go_wp2
        go_ret
        exact ⟨rfl, T.out.x.fr⟩
end Go.Proofs.Ytgkpmckbdagkcaa
