/- LateRemoves: the walk (printed by tools/late_rmgen.py). -/
import Derived.Test.YtgkpmckbdagkcaaKe
namespace Go.Proofs.Ytgkpmckbdagkcaa
open Go.RowKit Go.Wk

theorem insE_get (l : List LE) (e : LE) (k : Nat) : (k < idx l e.mk_ → (insE l e).getD k LE.zero = l.getD k LE.zero) ∧ (insE l e).getD (idx l e.mk_) LE.zero = e ∧ (idx l e.mk_ < k → (insE l e).getD k LE.zero = l.getD (k - 1) LE.zero) := by
  have hp := idx_le l e.mk_
  have ht : (l.take (idx l e.mk_)).length = idx l e.mk_ := by rw [List.length_take]; omega
  unfold insE
  refine ⟨fun h => ?_, ?_, fun h => ?_⟩
  · rw [List.getD_eq_getElem?_getD, List.getElem?_append_left (by omega), List.getElem?_take_of_lt h, ← List.getD_eq_getElem?_getD]
  · rw [List.getD_eq_getElem?_getD, List.getElem?_append_right (by omega), ht, Nat.sub_self]; rfl
  · rw [List.getD_eq_getElem?_getD, List.getElem?_append_right (by omega), ht]
    obtain ⟨q, hq⟩ : ∃ q, k - idx l e.mk_ = q + 1 := ⟨k - idx l e.mk_ - 1, by omega⟩
    rw [hq, List.getElem?_cons_succ, List.getElem?_drop, ← List.getD_eq_getElem?_getD]
    congr 1
    omega

/-- What an added id shows. -/
theorem ins_facts {s : LS} (h : s.ok) {x d : Int} (hx : fits x) (hd : 0 ≤ d ∧ d ≤ 4611686018427387904) (hs : s.seq + 1 ≤ 10000) (hn : getB s x = false) :
    ∃ p, p ≤ s.l.length ∧ addE s x d = 0 ∧ (addS s x d).l.length = s.l.length + 1 ∧ (addS s x d).ok ∧
      (∀ k, k < s.l.length + 1 → (k = p → idN (addS s x d) k = x) ∧ (k ≠ p → idN (addS s x d) k ≠ x) ∧ (k < p → atN (addS s x d) k ≤ d) ∧ (p < k → d < atN (addS s x d) k)) ∧
      remE (addS s x d) x = 0 ∧ remS (addS s x d) x = ⟨s.l, s.seq + 1⟩ ∧ getB ⟨s.l, s.seq + 1⟩ x = false := by
  have hm : mkOf s.l x = none := by
    unfold getB at hn
    cases h : mkOf s.l x with
    | none => rfl
    | some p => rw [h] at hn; cases hn
  have e0 : addE s x d = 0 := by unfold addE; rw [if_neg (by omega), if_neg (by rw [hn]; decide)]
  have e1 : addS s x d = ⟨insE s.l ⟨x, d, s.seq + 1⟩, s.seq + 1⟩ := by unfold addS; rw [e0, if_pos rfl]
  obtain ⟨e, he⟩ : ∃ e : LE, e = ⟨x, d, s.seq + 1⟩ := ⟨_, rfl⟩
  have em : e.mk_ = (d, s.seq + 1) := by rw [he]; rfl
  have ei : e.id = x := by rw [he]
  have hok := insE_ok h hx hd hm hs
  rw [e1, ← he]
  rw [← he] at hok
  have hall := mkOf_eq_none.1 hm
  refine ⟨idx s.l e.mk_, idx_le _ _, e0, insE_len _ _, hok, fun k hk => ?_, ?_, ?_, hn⟩
  · obtain ⟨g1, g2, g3⟩ := insE_get s.l e k
    refine ⟨fun hkp => ?_, fun hkp => ?_, fun hkp => ?_, fun hkp => ?_⟩
    · show ((insE s.l e).getD k LE.zero).id = x
      rw [hkp, g2, ei]
    · show ((insE s.l e).getD k LE.zero).id ≠ x
      rcases Nat.lt_or_ge k (idx s.l e.mk_) with hl | hg
      · rw [g1 hl]; exact hall _ (mem_get (by have := idx_le s.l e.mk_; omega))
      · rw [g3 (by omega)]; exact hall _ (mem_get (by omega))
    · show ((insE s.l e).getD k LE.zero).at_ ≤ d
      rw [g1 hkp]
      have h1 := (idx_at (l := s.l) (t := e.mk_)).1 k hkp
      rw [em] at h1
      unfold ltM LE.mk_ at h1
      dsimp only at h1
      omega
    · show d < ((insE s.l e).getD k LE.zero).at_
      rw [g3 hkp]
      have hj : k - 1 < s.l.length := by omega
      have h1 := (idx_at (l := s.l) (t := e.mk_)).2 (by omega)
      have h2 := atN_le h (i := idx s.l e.mk_) (j := k - 1) (by omega) hj
      have h3 := h.sqs _ (mem_get (s := s) (i := idx s.l e.mk_) (by omega))
      rw [em] at h1 h2 h3
      rw [em] at hkp
      unfold ltM LE.mk_ at h1
      unfold atN at h2
      dsimp only at h1
      omega
  · unfold remE getB
    rw [if_pos]
    have := mkOf_ins (l := s.l) (e := e) (by rw [ei]; exact hm) x
    show (mkOf (insE s.l e) x).isSome = true
    rw [this, ei, if_pos rfl]; rfl
  · show (⟨remL (insE s.l e) x, s.seq + 1⟩ : LS) = ⟨s.l, s.seq + 1⟩
    congr 1
    unfold remL insE
    rw [List.filter_append, List.filter_cons_of_neg (by rw [ei]; simp), ← List.filter_append, List.take_append_drop, List.filter_eq_self]
    intro a ha
    simpa using hall a ha

set_option maxRecDepth 100000 in
set_option maxHeartbeats 4000000 in
theorem lateRemoves_walk (A : Option Addr) (n c : Nat) (es : List (List Int)) (id at_ : Int) (w : World) (h : RowF kStp 24 w A n c es) (hn : n ≤ 9223372036854775807) (hid : fits id) :
    Calls Try.prog 9 #[.slice A n c, .int .i64 id, .int .i64 at_] w fun e w' => e = .returned (.bool true) ∧ Fr No w w' := by
  have HR := Lib.hid h
  clear h
  by_cases b1 : 80 < n
  · go_enter Try.func9, Try.ntmps9
    go_wp2_with fail
    refine (works_any _).mono ?_
    rintro x w1 ⟨rfl, hf⟩
    go_wp2
    go_ret
    exact ⟨rfl, hf⟩
  have hn80 : n ≤ 80 := by omega
  go_enter Try.func9, Try.ntmps9
  go_wp2_with fail
  refine (filled_any A n c es _ HR.out hn80).mono ?_
  rintro x w1 ⟨bx, D, rfl, OW⟩
  have hseq : (fillS (stps es)).seq + 1 ≤ 1000 := by
    have h1 := fillS_seq (stps es)
    have h2 : (stps es).length = n := by have := HR.out.2.2.2.1; simpa [stps] using this
    omega
  generalize fillS (stps es) = s at *
  have HO := Lib.hid OW
  clear OW
  have HOK := Lib.hid HO.out.at_.ok
  have hNl := HO.out.at_.n
  go_wp2_with fail
  refine (Copy_at bx D s _ HO.out.at_).mono ?_
  rintro x w2 ⟨b', D', rfl, hl, hD, hf⟩
  have T := Lib.hid (Two.of HO.out hl hD hf)
  clear HO hl hD hf
  have G1 := Lib.hid (fun X hX => Get_at bx D s id hid X hX)
  have AD := Lib.hid (fun X hX => Add_at bx D s id at_ hid (by omega) X hX)
  have HGB := Lib.hid (fun hb hd => ins_facts HOK.out hid (d := at_) hd (by omega) hb)
  generalize getV s id = gv at *
  by_cases hb0 : at_ < 0
  · obtain ⟨e1, e2⟩ := add_bad (s := s) (x := id) (d := at_) (by omega)
    rw [e1, e2] at AD
    clear e1 e2
    by_cases hgb : getB s id = true
    · rw [hgb] at G1
      clear hgb HGB
      go_wp2_with fail
      refine (G1.out _ T.out.x.at_).mono ?_
      rintro e w4 ⟨rfl, hf⟩
      replace T := Lib.hid (T.out.fr0 hf)
      clear hf G1
      go_wp2_with fail
      refine (AD.out _ T.out.x.at_).mono ?_
      rintro e w5 ⟨rfl, ht⟩
      obtain ⟨E2, T4, _, _⟩ := T.out.next ht
      have T5 := Lib.hid T4
      clear ht T4 AD
      go_wp2_with fail
      refine (alike_any bx b' E2 D' s s w5 T5.out.x.at_ T5.out.y.at_ rfl).mono ?_
      rintro e w7 ⟨rfl, hf⟩
      have T6 := Lib.hid (T5.out.fr0 hf)
      clear hf
      go_wp2_with fail
      refine (works_any _).mono ?_
      rintro e w8 ⟨rfl, hf⟩
      have T7 := Lib.hid (T6.out.fr0 hf)
      clear hf
      go_wp2
      go_ret
      exact ⟨rfl, T7.out.x.fr⟩
    · rw [Bool.not_eq_true] at hgb
      rw [hgb] at G1
      clear hgb HGB
      go_wp2_with fail
      refine (G1.out _ T.out.x.at_).mono ?_
      rintro e w4 ⟨rfl, hf⟩
      replace T := Lib.hid (T.out.fr0 hf)
      clear hf G1
      go_wp2_with fail
      refine (AD.out _ T.out.x.at_).mono ?_
      rintro e w5 ⟨rfl, ht⟩
      obtain ⟨E2, T4, _, _⟩ := T.out.next ht
      have T5 := Lib.hid T4
      clear ht T4 AD
      go_wp2_with fail
      refine (alike_any bx b' E2 D' s s w5 T5.out.x.at_ T5.out.y.at_ rfl).mono ?_
      rintro e w7 ⟨rfl, hf⟩
      have T6 := Lib.hid (T5.out.fr0 hf)
      clear hf
      go_wp2_with fail
      refine (works_any _).mono ?_
      rintro e w8 ⟨rfl, hf⟩
      have T7 := Lib.hid (T6.out.fr0 hf)
      clear hf
      go_wp2
      go_ret
      exact ⟨rfl, T7.out.x.fr⟩
  by_cases hb1 : 4611686018427387904 < at_
  · obtain ⟨e1, e2⟩ := add_bad (s := s) (x := id) (d := at_) (by omega)
    rw [e1, e2] at AD
    clear e1 e2
    by_cases hgb : getB s id = true
    · rw [hgb] at G1
      clear hgb HGB
      go_wp2_with fail
      refine (G1.out _ T.out.x.at_).mono ?_
      rintro e w4 ⟨rfl, hf⟩
      replace T := Lib.hid (T.out.fr0 hf)
      clear hf G1
      go_wp2_with fail
      refine (AD.out _ T.out.x.at_).mono ?_
      rintro e w5 ⟨rfl, ht⟩
      obtain ⟨E2, T4, _, _⟩ := T.out.next ht
      have T5 := Lib.hid T4
      clear ht T4 AD
      go_wp2_with fail
      refine (alike_any bx b' E2 D' s s w5 T5.out.x.at_ T5.out.y.at_ rfl).mono ?_
      rintro e w7 ⟨rfl, hf⟩
      have T6 := Lib.hid (T5.out.fr0 hf)
      clear hf
      go_wp2_with fail
      refine (works_any _).mono ?_
      rintro e w8 ⟨rfl, hf⟩
      have T7 := Lib.hid (T6.out.fr0 hf)
      clear hf
      go_wp2
      go_ret
      exact ⟨rfl, T7.out.x.fr⟩
    · rw [Bool.not_eq_true] at hgb
      rw [hgb] at G1
      clear hgb HGB
      go_wp2_with fail
      refine (G1.out _ T.out.x.at_).mono ?_
      rintro e w4 ⟨rfl, hf⟩
      replace T := Lib.hid (T.out.fr0 hf)
      clear hf G1
      go_wp2_with fail
      refine (AD.out _ T.out.x.at_).mono ?_
      rintro e w5 ⟨rfl, ht⟩
      obtain ⟨E2, T4, _, _⟩ := T.out.next ht
      have T5 := Lib.hid T4
      clear ht T4 AD
      go_wp2_with fail
      refine (alike_any bx b' E2 D' s s w5 T5.out.x.at_ T5.out.y.at_ rfl).mono ?_
      rintro e w7 ⟨rfl, hf⟩
      have T6 := Lib.hid (T5.out.fr0 hf)
      clear hf
      go_wp2_with fail
      refine (works_any _).mono ?_
      rintro e w8 ⟨rfl, hf⟩
      have T7 := Lib.hid (T6.out.fr0 hf)
      clear hf
      go_wp2
      go_ret
      exact ⟨rfl, T7.out.x.fr⟩
  by_cases hgb : getB s id = true
  · obtain ⟨e1, e2⟩ := add_have (s := s) (x := id) (d := at_) hgb (by omega)
    rw [e1, e2] at AD
    rw [hgb] at G1
    clear e1 e2 hgb HGB
    go_wp2_with fail
    refine (G1.out _ T.out.x.at_).mono ?_
    rintro e w4 ⟨rfl, hf⟩
    replace T := Lib.hid (T.out.fr0 hf)
    clear hf G1
    go_wp2_with fail
    refine (AD.out _ T.out.x.at_).mono ?_
    rintro e w5 ⟨rfl, ht⟩
    obtain ⟨E2, T4, _, _⟩ := T.out.next ht
    have T5 := Lib.hid T4
    clear ht T4 AD
    go_wp2_with fail
    refine (alike_any bx b' E2 D' s s w5 T5.out.x.at_ T5.out.y.at_ rfl).mono ?_
    rintro e w7 ⟨rfl, hf⟩
    have T6 := Lib.hid (T5.out.fr0 hf)
    clear hf
    go_wp2_with fail
    refine (works_any _).mono ?_
    rintro e w8 ⟨rfl, hf⟩
    have T7 := Lib.hid (T6.out.fr0 hf)
    clear hf
    go_wp2
    go_ret
    exact ⟨rfl, T7.out.x.fr⟩
  rw [Bool.not_eq_true] at hgb
  obtain ⟨p, hp, e0, e1, hok1, hall, r0, r1, r2⟩ := HGB.out hgb (by omega)
  rw [hgb] at G1
  rw [e0] at AD
  clear hgb HGB e0
  have RM := Lib.hid (fun X E hX => Remove_at bx E (addS s id at_) id hid X hX)
  rw [r0, r1] at RM
  obtain ⟨r3, r4⟩ := rem_none r2
  have RM2 := Lib.hid (fun X E hX => Remove_at bx E ⟨s.l, s.seq + 1⟩ id hid X hX)
  rw [r3, r4] at RM2
  have IDS := Lib.hid (fun X E hX => Ids_at bx E (addS s id at_) X hX)
  rw [e1] at IDS
  have HALL := Lib.hid hall
  have HOK1 := Lib.hid hok1
  have HE1 := Lib.hid e1
  clear r0 r1 r2 r3 r4 hall hok1 e1
  generalize addS s id at_ = s1 at *
  obtain ⟨N, hN⟩ : ∃ N, N = s.l.length := ⟨_, rfl⟩
  rw [← hN] at IDS HALL HE1 hNl hp
  have LN := Lib.hid (fun X hX => Len_at b' D' s X hX)
  rw [← hN] at LN
  clear hN HOK
  obtain ⟨M, hM⟩ : ∃ M, M = N + 1 := ⟨_, rfl⟩
  rw [← hM] at IDS HALL HE1
  go_wp2_with fail
  refine (G1.out _ T.out.x.at_).mono ?_
  rintro e w4 ⟨rfl, hf⟩
  replace T := Lib.hid (T.out.fr0 hf)
  clear hf G1
  go_wp2_with fail
  refine (AD.out _ T.out.x.at_).mono ?_
  rintro e w5 ⟨rfl, ht⟩
  obtain ⟨E2, T4, _, _⟩ := T.out.next ht
  replace T := Lib.hid T4
  clear ht T4 AD
  go_wp2_with fail
  refine (IDS.out _ _ T.out.x.at_).mono ?_
  rintro e w6 ⟨G, gc, rfl, ho, _, hf⟩
  replace T := Lib.hid (T.out.fr0 hf)
  have R := Lib.hid (Reads.of_own ho)
  have hNM : ((M : Int) != ((N : Int) + 1)) = false := by simp; omega
  clear hf ho IDS
  go_wp2_with fail
  refine (LN.out _ T.out.y.at_).mono ?_
  rintro e _ ⟨rfl, rfl⟩
  clear LN
  go_wp2
  clear hNM
  go_loopw [13, 14] (fun bv i wr => ∃ (k : Nat) (bf : Bool), bv = .bool bf ∧ i = .int .i64 k ∧ k ≤ M ∧ Hid (bf = decide (k ≤ p)) ∧ Fr No w6 wr) (fun bv i _ => M - (intOf i).toNat)
  case atStart => exact ⟨0, true, rfl, rfl, Nat.zero_le _, Lib.hid (by simp), Fr.refl _ _⟩
  case round =>
    obtain ⟨k, bf, rfl, rfl, hk, HB, hf⟩ := hrel
    by_cases hlt : k < M
    · have hls : k < s1.l.length := by rw [HE1.out]; exact hlt
      obtain ⟨g, off, rfl, hgl, a0⟩ := (R.out.fr0 hf).int_at (kd := .i64) (xs := ids s1.l) hlt
      rw [ids_get _ _ hls] at a0
      have hV : getV s1 (idN s1 k) = atN s1 k := getV_get HOK1.out hls
      have hBB : getB s1 (idN s1 k) = true := getB_get HOK1.out hls
      have hX : fits (idN s1 k) := fits_get HOK1.out hls
      have Q := Lib.hid (Get_at bx E2 s1 (idN s1 k) hX wr (T.out.x.at_.fr0 hf))
      rw [hV, hBB] at Q
      obtain ⟨f1, f2, f3, f4⟩ := HALL.out k hlt
      change wr.cell? _ = some (.int .i64 (idN s1 k)) at a0
      have HF := Lib.hid hf
      clear hf hV hBB hls
      generalize atN s1 k = d at *
      rcases Nat.lt_trichotomy k p with hkp | hkp | hkp
      · have hne := f2 (by omega)
        have hle := f3 hkp
        have hbf : bf = true := by rw [HB.out]; simp; omega
        subst hbf
        have HB2 := Lib.hid (show true = decide (k + 1 ≤ p) from by simp; omega)
        clear f1 f2 f3 f4
        generalize idN s1 k = x at *
        have hxe : (x == id) = false := by simpa using hne
        clear hne
        go_wp2_with fail
        refine Q.out.mono ?_
        rintro e w7 ⟨rfl, hf⟩
        have a1 := (hf.cell (p := ⟨g, off + k, none⟩) hgl (fun x => x)).trans a0
        have F := Lib.hid (HF.out.then0 hf)
        clear hf a0
        go_wp2
        go_roundw
        case rel => exact ⟨k + 1, true, rfl, by go_num, by omega, HB2, F.out⟩
        case measure => simp [intOf]; omega
      · have he := f1 hkp
        have HB2 := Lib.hid (show false = decide (k + 1 ≤ p) from by simp; omega)
        clear f1 f2 f3 f4 HB
        rw [he] at a0 Q
        clear he hkp
        go_wp2_with fail
        refine Q.out.mono ?_
        rintro e w7 ⟨rfl, hf⟩
        have a1 := (hf.cell (p := ⟨g, off + k, none⟩) hgl (fun x => x)).trans a0
        have F := Lib.hid (HF.out.then0 hf)
        clear hf a0
        go_wp2
        go_roundw
        case rel => exact ⟨k + 1, false, rfl, by go_num, by omega, HB2, F.out⟩
        case measure => simp [intOf]; omega
      · have hne := f2 (by omega)
        have hle := f4 hkp
        have hbf : bf = false := by rw [HB.out]; simp; omega
        subst hbf
        have HB2 := Lib.hid (show false = decide (k + 1 ≤ p) from by simp; omega)
        clear f1 f2 f3 f4
        generalize idN s1 k = x at *
        have hxe : (x == id) = false := by simpa using hne
        clear hne
        go_wp2_with fail
        refine Q.out.mono ?_
        rintro e w7 ⟨rfl, hf⟩
        have a1 := (hf.cell (p := ⟨g, off + k, none⟩) hgl (fun x => x)).trans a0
        have F := Lib.hid (HF.out.then0 hf)
        clear hf a0
        go_wp2
        go_roundw
        case rel => exact ⟨k + 1, false, rfl, by go_num, by omega, HB2, F.out⟩
        case measure => simp [intOf]; omega
    · have hbf : bf = false := by rw [HB.out]; simp; omega
      subst hbf
      have T2 := Lib.hid (T.out.fr0 hf)
      clear hf HB
      go_wp2_with fail
      refine (RM.out _ _ T2.out.x.at_).mono ?_
      rintro e w7 ⟨rfl, ht⟩
      obtain ⟨E3, T4, _, _⟩ := T2.out.next ht
      have T5 := Lib.hid T4
      clear ht T4 RM
      go_wp2_with fail
      refine (alike_any bx b' E3 D' _ s w7 T5.out.x.at_ T5.out.y.at_ rfl).mono ?_
      rintro e w8 ⟨rfl, hf⟩
      have T6 := Lib.hid (T5.out.fr0 hf)
      clear hf
      go_wp2_with fail
      refine (RM2.out _ _ T6.out.x.at_).mono ?_
      rintro e w9 ⟨rfl, ht⟩
      obtain ⟨E4, T4, _, _⟩ := T6.out.next ht
      have T7 := Lib.hid T4
      clear ht T4 RM2
      go_wp2_with fail
      refine (works_any _).mono ?_
      rintro e w10 ⟨rfl, hf⟩
      have T8 := Lib.hid (T7.out.fr0 hf)
      clear hf
      go_wp2
      go_ret
      exact ⟨rfl, T8.out.x.fr⟩
end Go.Proofs.Ytgkpmckbdagkcaa
