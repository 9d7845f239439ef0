/- The document's heap: Change, Ids. -/
import Derived.Test.YtbndmelkdamgjaaDd
namespace Go.Proofs.Ytbndmelkdamgjaa.It
open Go.RowKit Go.Wk

theorem dChangeNo (r : Nat) (v : Value) (L : List (En IV)) (x : Int) (y : IV) (w : World) (h : DV w r v L) (hn : L.length ≤ 1000000000) (hx : x ∉ ids L) :
    Calls Try.prog 60 #[.pointer (some ⟨r, 0, none⟩), .int .i64 x, .agg #[.int .i64 y.id, .int .i64 y.pr, .int .i64 y.since, .int .i64 y.seq]] w fun e w' => e = .returned (.int .i64 5) ∧ Fr No w w' := by
  obtain ⟨wv, hwv⟩ : ∃ wv, wv = w.alloc (.cells #[.int .i64 y.id, .int .i64 y.pr, .int .i64 y.since, .int .i64 y.seq] 27) := ⟨_, rfl⟩
  have FV := Lib.hid (show Fr No w wv by rw [hwv]; exact (Fr.refl No w).alloc _)
  have HR := Lib.hid (dRemoveNo r v L x wv (h.fr0 FV.out) hn hx)
  have HWV := Lib.hid hwv
  clear h hwv hx
  go_enter Try.func60, Try.ntmps60
  go_wp2_with fail
  rw [← HWV.out]
  refine HR.out.mono ?_
  rintro e w0 ⟨rfl, rfl⟩
  go_wp2
  go_ret
  exact ⟨rfl, FV.out⟩
theorem dChange (r : Nat) (v : Value) (s L : List (En IV)) (x g : Int) (y : IV) (w : World) (h : DV w r v L) (hr : Rel s L) (hnd : (ids s).Nodup) (hn : L.length < 1000000000) (hp : ∀ a ∈ s, a.p < g) (hx : x ∈ ids s) :
    Calls Try.prog 60 #[.pointer (some ⟨r, 0, none⟩), .int .i64 x, .agg #[.int .i64 y.id, .int .i64 y.pr, .int .i64 y.since, .int .i64 y.seq]] w fun e w' => e = .returned (.int .i64 0) ∧ ∃ L', TurnD w r v L' w' ∧ Rel (ins befI ⟨x, y, g⟩ (del x s)) L' := by
  obtain ⟨wv, hwv⟩ : ∃ wv, wv = w.alloc (.cells #[.int .i64 y.id, .int .i64 y.pr, .int .i64 y.since, .int .i64 y.seq] 27) := ⟨_, rfl⟩
  have FV := Lib.hid (show Fr No w wv by rw [hwv]; exact (Fr.refl No w).alloc _)
  have BV := Lib.hid (show Blk wv w.heap.size 27 #[.int .i64 y.id, .int .i64 y.pr, .int .i64 y.since, .int .i64 y.seq] by rw [hwv]; exact Blk.new _ _ _)
  have hDV : ¬ domD r v w.heap.size := fun hc => by have := h.lt hc; omega
  have HR := Lib.hid (dRemove r v s L x wv (h.fr0 FV.out) hr hnd (by omega) hx)
  have HP := Lib.hid (fun L' (hc : Rel (del x s) L') => hc.push (e := ⟨x, y, g⟩) (fun a ha => hp a ((mem_del x s a).1 ha).1))
  have HLL := Lib.hid (fun L' (hc : Rel (del x s) L') => (show L'.length < 1000000000 from by
    have := hc.ln
    rw [del_len hnd hx, hr.ln] at this
    omega))
  have HNI := Lib.hid (fun L' (hc : Rel (del x s) L') => (show x ∉ ids L' from fun hh => by
    have := (hc.ids x).2 hh
    rw [ids_del] at this
    simp at this))
  have HWV := Lib.hid hwv
  clear h hwv hx hr hnd hn hp
  go_enter Try.func60, Try.ntmps60
  go_wp2_with fail
  rw [← HWV.out]
  refine HR.out.mono ?_
  rintro e w1 ⟨rfl, L1, ⟨v1, h1, hf1, hd1⟩, hc1⟩
  have HF1 := Lib.hid hf1
  have HD1 := Lib.hid hd1
  have HC1 := Lib.hid hc1
  have BV1 := Lib.hid (BV.out.fr hf1 hDV)
  obtain ⟨e0, e1, e2, e3⟩ := (show w1.cell? ⟨w.heap.size, 0, none⟩ = some (.int .i64 y.id) ∧ w1.cell? ⟨w.heap.size, 1, none⟩ = some (.int .i64 y.pr) ∧ w1.cell? ⟨w.heap.size, 2, none⟩ = some (.int .i64 y.since) ∧ w1.cell? ⟨w.heap.size, 3, none⟩ = some (.int .i64 y.seq) from ⟨BV1.out.cell 0, BV1.out.cell 1, BV1.out.cell 2, BV1.out.cell 3⟩)
  have HPU := Lib.hid (dPushNew r v1 L1 x g y w1 h1 (HLL.out L1 hc1) (HNI.out L1 hc1))
  clear h1 hf1 hd1 hc1
  go_wp2_with fail
  refine HPU.out.mono ?_
  rintro e w2 ⟨rfl, ht⟩
  have HT := Lib.hid (TurnD.pre FV.out (TurnD.trans HF1.out HD1.out ht))
  clear ht e0 e1 e2 e3
  go_wp2
  go_ret
  exact ⟨rfl, _, HT.out, HP.out L1 HC1.out⟩

/-- What the document's Ids holds when j ids are out. -/
structure DidI (w wr : World) (s : List (En IV)) (ov lv : Value) (m j : Nat) : Prop where
  out : wr.ownsRow w.heap.size 3 1 ov j (cells .i64 ((ids s).take j))
  rel : ∃ L, Rel (s.drop j) L ∧ wr.ownsRow w.heap.size 86 5 lv L.length (dcells L)
  fr : Fr No w wr
set_option maxRecDepth 100000 in
set_option maxHeartbeats 8000000 in
theorem dIds (r : Nat) (v : Value) (s L : List (En IV)) (w : World) (h : DV w r v L) (hr : Rel s L) (hn : L.length ≤ 1000000000) :
    Calls Try.prog 24 #[.pointer (some ⟨r, 0, none⟩)] w fun e w' => IdsAt w (ids s) e w' := by
  obtain ⟨i0, hi, hz0, hz1, hz2⟩ : ∃ i, Try.prog.info? 86 = some i ∧ i.zero = some (.agg #[.int .i64 0, .int .i64 0, .int .i64 0, .int .i64 0, .int .i64 0]) ∧ i.size = 5 ∧ i.bytes = 40 := ⟨_, rfl, rfl, rfl, rfl⟩
  obtain ⟨i1, hj, hy0, hy1, hy2⟩ : ∃ i, Try.prog.info? 3 = some i ∧ i.zero = some (.int .i64 0) ∧ i.size = 1 ∧ i.bytes = 8 := ⟨_, rfl, rfl, rfl, rfl⟩
  have HV := Lib.hid (dvalid_any r w h.cells.1)
  obtain ⟨A, c, rfl⟩ := own_form' h.own
  obtain ⟨c0, c1⟩ := h.cells
  have HREL := Lib.hid hr
  obtain ⟨m, hm⟩ : ∃ m, m = L.length := ⟨_, rfl⟩
  have HM := Lib.hid hm
  have HMS := Lib.hid (show m = s.length by rw [hm, hr.ln])
  rw [← hm] at c1 hn
  have c1' : (w.alloc (.cells #[] 86)).cell? ⟨r, 1, none⟩ = some (.slice A m c) := (World.cell?_alloc_lt w _ _ h.blk.lt).trans c1
  have o1 : (w.alloc (.cells #[] 86)).ownsRow w.heap.size 86 5 (.slice (some ⟨w.heap.size, 0, none⟩) 0 0) 0 [] := ⟨rfl, .inr ⟨w.heap.size, 0, #[], rfl, Nat.le_refl _, Blk.new w 86 #[], Nat.le_refl _, Nat.zero_le _, rfl, rfl⟩⟩
  have O1 := Lib.hid o1
  have R1 := Lib.hid (show Reads (w.alloc (.cells #[] 86)) w.heap.size 5 A m (dcells L) by rw [hm]; exact (Reads.of_own h.own).alloc (Nat.le_refl _) _)
  have HB0 := Lib.hid (show 0 + m ≤ maxLen by unfold maxLen; omega)
  have HB1 := Lib.hid (show (0 + m) * 40 ≤ 140737488355328 by omega)
  have hrl := h.blk.lt
  clear h hr hm o1
  go_enter Try.func24, Try.ntmps24
  go_wp2_with fail
  refine HV.out.mono ?_
  rintro e w0 ⟨rfl, rfl⟩
  go_wp2_with (at_builtin; refine wpList_append_any (w.alloc (.cells #[] 86)) rfl (.tmp 9) (.tmp 13) 80 rfl w.heap.size 86 i0 (.agg #[.int .i64 0, .int .i64 0, .int .i64 0, .int .i64 0, .int .i64 0]) 5 40 Try.underlying80 hi hz0 hz1 hz2 rfl (by omega) (.slice (some ⟨w.heap.size, 0, none⟩) 0 0) 0 [] rfl O1.out w.heap.size A m c (dcells L) rfl R1.out (dcells_one _) HB0.out HB1.out (by simp) ?_)
  intro v' w2 hown2 hg2 hloc2
  have F2 := Lib.hid (show Fr No w w2 from ((Fr.refl No w).alloc (.cells #[] 86)).own (Fr.of_grown (S := (· = w.heap.size)) hg2 (fun k hk => by simpa [Value.ownBlock] using hk.symm)) (Nat.le_refl _))
  have S0 := Lib.hid (show DidI w w2 s (.slice none 0 0) v' m 0 from ⟨own_nil _ _ _ _, ⟨L, HREL.out, by
    have := hown2
    rw [← HM.out]
    simpa using this⟩, F2.out⟩)
  clear hown2 hg2 hloc2 c0 c1 c1'
  go_wp2_with fail
  go_loopw [3, 4] (fun ov lv wr => ∃ (A1 : Option Addr) (j q : Nat) (A2 : Option Addr) (q2 : Nat), ov = .slice A1 j q ∧ lv = .slice A2 (m - j) q2 ∧ j ≤ m ∧ Hid (DidI w wr s (.slice A1 j q) (.slice A2 (m - j) q2) m j)) (fun ov _ _ => m - (match ov with | .slice _ k _ => k | _ => 0))
  case atStart =>
    obtain ⟨A9, c9, rfl⟩ : ∃ A9 c9, v' = .slice A9 m c9 := by
      obtain ⟨L', h1, h2⟩ := S0.out.rel
      obtain ⟨A9, c9, e⟩ := own_form' h2
      refine ⟨A9, c9, ?_⟩
      have := h1.ln
      rw [List.drop_zero] at this
      rw [e, ← this, ← HMS.out]
    exact ⟨none, 0, 0, A9, c9, rfl, rfl, Nat.zero_le _, S0⟩
  case round =>
    clear S0
    obtain ⟨A1, j, q, A2, q2, rfl, rfl, hjm, HS⟩ := hrel
    by_cases hlt : j < m
    · obtain ⟨L', hr1, ho1⟩ := HS.out.rel
      obtain ⟨x, t, hxt⟩ : ∃ x t, s.drop j = x :: t := ⟨_, _, List.drop_eq_getElem_cons (by rw [← HMS.out]; exact hlt)⟩
      rw [hxt] at hr1
      obtain ⟨k, hk, hkx⟩ := hr1.fst
      have hl1 : L'.length = m - j := by
        have h1 := hr1.ln
        have h2 := congrArg List.length hxt
        rw [List.length_drop] at h2
        have := HMS.out
        omega
      rw [hl1] at ho1
      have hR := Reads.of_own ho1
      have hcap := own_cap ho1
      have hkn : k < m - j := by rw [← hl1]; exact hk.1
      have HF := Lib.hid (dfirst_at (c := q2) hR hr1.up (by omega) hk)
      obtain ⟨b, off, rfl, hb, x0, _⟩ := Reads.dent hR hkn
      rw [hkx] at x0
      have hids : (ids s).take (j + 1) = (ids s).take j ++ [x.id] := by
        have e0 : s[j]? = some x := by
          have := congrArg (fun t : List (En IV) => t[0]?) hxt
          simpa using this
        have e1 : (ids s)[j]? = some x.id := by unfold ids; rw [List.getElem?_map, e0]; rfl
        rw [List.take_add_one, e1]; rfl
      have hnd : (ids (x :: t)).Nodup → del x.id (x :: t) = t := del_head
      have hdr : s.drop (j + 1) = t := by
        have := congrArg List.tail hxt
        rwa [List.tail_drop, List.tail_cons] at this
      -- without the first one
      have hcut : Rel (s.drop (j + 1)) (L'.eraseIdx k) := by
        rw [hdr]
        refine ⟨(List.pairwise_cons.1 hr1.so).2, fun e => ?_, ?_, hr1.up.sublist (List.eraseIdx_sublist _ _)⟩
        · rw [eraseIdx_mem hr1.up hk.1, hkx, ← hr1.me, List.mem_cons]
          constructor
          · intro he
            refine ⟨.inr he, fun e1 => ?_⟩
            have := (List.pairwise_cons.1 hr1.so).1 e he
            rw [e1, fst_irr weak_I] at this; cases this
          · rintro ⟨h1 | h1, h2⟩
            · exact absurd h1 h2
            · exact h1
        · rw [List.length_eraseIdx, if_pos hk.1, ← hr1.ln]; rfl
      have HCUT := Lib.hid hcut
      have HWO := Lib.hid (fun (X : World) (hX : Reads X X.heap.size 5 (some ⟨b, off, none⟩) (m - j) (dcells L')) => without_any (some ⟨b, off, none⟩) (m - j) q2 k L' X hX hcap (by omega) hkn)
      have HRR := Lib.hid hR
      have HO1 := Lib.hid ho1
      have HIDS := Lib.hid hids
      generalize x.id = xi at *
      have hgt : (0 : Int) < ((m - j : Nat) : Int) := by omega
      have hkn2 : (k : Int) < ((m - j : Nat) : Int) := by omega
      have hmj1 : m - j - 1 = m - (j + 1) := by omega
      have HLE := Lib.hid (show (L'.eraseIdx k).length = m - (j + 1) by rw [List.length_eraseIdx, if_pos hk.1, hl1]; omega)
      clear hr1 hk hkx hl1 hids hnd hdr hcut hxt hcap ho1 hR
      generalize m - j = p at *
      go_wp2_with fail
      refine HF.out.mono ?_
      rintro e w3 ⟨rfl, hf3⟩
      have F3 := Lib.hid hf3
      have x0' := (hf3.cell (p := ⟨b, off + k * 5, none⟩) hb (fun z => z)).trans x0
      have O3 := Lib.hid ((own_fr HS.out.out hf3 (fun _ _ z => z)).alloc (.cells #[.int .i64 xi] 3))
      have RX := Lib.hid (reads_blk w3 3 [.int .i64 xi] 1 1 rfl)
      have HX0 := Lib.hid (show j + 1 ≤ maxLen by unfold maxLen; omega)
      have HX1 := Lib.hid (show (j + 1) * 8 ≤ 140737488355328 by omega)
      have HONE := Lib.hid (show ∀ z ∈ [Value.int .i64 xi], z.oneCell' = true from fun z hz => by simp at hz; subst hz; rfl)
      have hbs := Nat.le_trans HS.out.fr.size hf3.size
      clear hf3 x0 HF
      go_wp2_with (at_builtin; refine wpList_append_any (w3.alloc (.cells #[.int .i64 xi] 3)) rfl (.tmp 20) (.tmp 26) 39 rfl w.heap.size 3 i1 (.int .i64 0) 1 8 Try.underlying39 hj hy0 hy1 hy2 rfl (by omega) (.slice A1 j q) j _ rfl O3.out _ (some ⟨w3.heap.size, 0, none⟩) 1 1 _ rfl RX.out HONE.out HX0.out HX1.out (by simp; omega) ?_)
      intro vo w4 hown4 hg4 hloc4
      obtain ⟨A5, q5, rfl⟩ := own_form' hown4
      have F4 : Fr (fun z => (Value.slice A1 j q).ownBlock = some z) w3 w4 := ((Fr.refl _ w3).alloc _).trans (Fr.of_grown (S := fun z => (Value.slice A1 j q).ownBlock = some z) hg4 (fun z hz => hz)) (fun _ _ z => z)
      have hne : ∀ z, (Value.slice A1 j q).ownBlock = some z → z ≠ b := fun z hz e => by
        rcases HS.out.out.2 with ⟨e1, _⟩ | ⟨g1, cap1, cur1, e1, _, e2, _⟩
        · rw [e1] at hz; simp [Value.ownBlock] at hz
        · have hb2 := HO1.out
          rcases hb2.2 with ⟨e3, _⟩ | ⟨g2, cap2, cur2, e3, _, e4, _⟩
          · cases e3
          · injection e3 with e3 _ _
            injection e3 with e3
            injection e3 with e3
            injection e1 with e1 _ _
            subst e1
            have hz2 : g1 = z := by simpa [Value.ownBlock] using hz
            rw [← e3, ← e, ← hz2, e2] at e4
            injection e4 with e4
            injection e4 with _ e5
            exact absurd e5 (by decide)
      have O4 := own_fr (own_fr HO1.out F3.out (fun _ _ z => z)) F4 (fun z hz hc => hne z hc (by simpa [Value.ownBlock] using hz.symm))
      have HW := Lib.hid (HWO.out w4 (Reads.of_own O4))
      have OV := Lib.hid (show w4.ownsRow w.heap.size 3 1 (.slice A5 (j + 1) q5) (j + 1) (cells .i64 ((ids s).take (j + 1))) from by
        rw [HIDS.out, cells_snoc]; exact hown4)
      have FR := Lib.hid ((HS.out.fr.then0 F3.out).ownS F4 (fun z hz => (HS.out.out.lt z hz).1))
      clear F4 hown4 hg4 hloc4 hne O4 x0'
      go_wp2_with fail
      refine HW.out.mono ?_
      rintro e w5 ⟨A6, n6, c6, rfl, hn6, ho6, hf6⟩
      have hn6' : n6 = m - (j + 1) := hn6.trans HLE.out
      have HN := Lib.hid (show DidI w w5 s (.slice A5 (j + 1) q5) (.slice A6 (m - (j + 1)) c6) m (j + 1) from by
        refine ⟨own_fr OV.out hf6 (fun _ _ z => z), ⟨L'.eraseIdx k, HCUT.out, ?_⟩, FR.out.then0 hf6⟩
        rw [← hn6, ← hn6']
        exact own_base ho6 FR.out.size)
      subst hn6'
      clear ho6 hf6 hn6 HW OV FR HCUT HWO HRR HO1 HIDS HLE
      go_wp2
      go_roundw
      case rel => exact ⟨A5, j + 1, q5, A6, c6, rfl, rfl, hlt, HN⟩
      case measure => (dsimp only; omega)
    · obtain rfl : j = m := by omega
      have hz : j - j = 0 := Nat.sub_self j
      rw [hz]
      go_wp2
      go_ret
      refine ⟨A1, j, q, rfl, by rw [HMS.out]; simp [ids], ?_, HS.out.fr⟩
      have := HS.out.out
      rwa [List.take_of_length_le (by rw [HMS.out]; simp [ids])] at this
end Go.Proofs.Ytbndmelkdamgjaa.It
