/- The document's heap: Push, Remove, Pop, Change, Ids. -/
import Derived.Test.YtbndmelkdamgjaaDc
import Derived.Deep.RegionLaw
namespace Go.Proofs.Ytbndmelkdamgjaa.It
open Go.RowKit Go.Wk

/-- What a call that turns the document's heap leaves. -/
def TurnD (w : World) (r : Nat) (v : Value) (L : List (En IV)) (w' : World) : Prop := ∃ v', DV w' r v' L ∧ Fr (domD r v) w w' ∧ ∀ k, domD r v' k → domD r v k ∨ w.heap.size ≤ k
theorem TurnD.trans {w w1 w2 : World} {r : Nat} {v v1 : Value} {L2 : List (En IV)} (hf : Fr (domD r v) w w1) (hd : ∀ k, domD r v1 k → domD r v k ∨ w.heap.size ≤ k) (h2 : TurnD w1 r v1 L2 w2) : TurnD w r v L2 w2 := by
  obtain ⟨v2, h2, hf2, hd2⟩ := h2
  refine ⟨v2, h2, hf.trans hf2 (fun k hk h1 => ?_), fun k hk => ?_⟩
  · rcases hd k h1 with h1 | h1
    · exact h1
    · omega
  · rcases hd2 k hk with h1 | h1
    · exact hd k h1
    · have := hf.size; right; omega
theorem TurnD.pre {w w1 w2 : World} {r : Nat} {v : Value} {L : List (En IV)} (hf : Fr No w w1) (h : TurnD w1 r v L w2) : TurnD w r v L w2 := by
  obtain ⟨v2, h, h2, hd⟩ := h
  exact ⟨v2, h, (hf.mono (T := domD r v) (fun _ z => z.elim)).trans h2 (fun _ _ z => z), fun k hk => (hd k hk).imp_right (fun z => Nat.le_trans hf.size z)⟩
set_option maxRecDepth 100000 in
set_option maxHeartbeats 4000000 in
theorem dPushOld (r : Nat) (v : Value) (L : List (En IV)) (x : Int) (y : IV) (w : World) (h : DV w r v L) (hn : L.length ≤ 1000000000) (hx : x ∈ ids L) :
    Calls Try.prog 57 #[.pointer (some ⟨r, 0, none⟩), .int .i64 x, .agg #[.int .i64 y.id, .int .i64 y.pr, .int .i64 y.since, .int .i64 y.seq]] w fun e w' => e = .returned (.int .i64 6) ∧ Fr No w w' := by
  obtain ⟨wv, hwv⟩ : ∃ wv, wv = w.alloc (.cells #[.int .i64 y.id, .int .i64 y.pr, .int .i64 y.since, .int .i64 y.seq] 27) := ⟨_, rfl⟩
  have FV := Lib.hid (show Fr No w wv by rw [hwv]; exact (Fr.refl No w).alloc _)
  have h := h.fr0 FV.out
  have HWV := Lib.hid hwv
  have HV := Lib.hid (dvalid_any r wv h.cells.1)
  have HA := Lib.hid (dat_any r v L x wv h hn)
  have HX := Lib.hid hx
  clear h hwv hx
  go_enter Try.func57, Try.ntmps57
  go_wp2_with fail
  rw [← HWV.out]
  refine HV.out.mono ?_
  rintro e w0 ⟨rfl, rfl⟩
  go_wp2_with fail
  refine HA.out.mono ?_
  rintro e w1 ⟨hr, rfl⟩
  rcases hr with ⟨hx, rfl⟩ | ⟨i, hi, hid, rfl⟩
  · exact absurd HX.out hx
  · have h0 : (0 : Int) ≤ (i : Int) := by omega
    clear hid hi
    go_wp2
    go_ret
    exact ⟨rfl, FV.out⟩
set_option maxRecDepth 100000 in
set_option maxHeartbeats 4000000 in
theorem dPushNew (r : Nat) (v : Value) (L : List (En IV)) (x g : Int) (y : IV) (w : World) (h : DV w r v L) (hn : L.length < 1000000000) (hx : x ∉ ids L) :
    Calls Try.prog 57 #[.pointer (some ⟨r, 0, none⟩), .int .i64 x, .agg #[.int .i64 y.id, .int .i64 y.pr, .int .i64 y.since, .int .i64 y.seq]] w fun e w' => e = .returned (.int .i64 0) ∧ TurnD w r v (L ++ [⟨x, y, g⟩]) w' := by
  obtain ⟨i0, hi, hz0, hz1, hz2⟩ : ∃ i, Try.prog.info? 86 = some i ∧ i.zero = some (.agg #[.int .i64 0, .int .i64 0, .int .i64 0, .int .i64 0, .int .i64 0]) ∧ i.size = 5 ∧ i.bytes = 40 := ⟨_, rfl, rfl, rfl, rfl⟩
  obtain ⟨wv, hwv⟩ : ∃ wv, wv = w.alloc (.cells #[.int .i64 y.id, .int .i64 y.pr, .int .i64 y.since, .int .i64 y.seq] 27) := ⟨_, rfl⟩
  have FV := Lib.hid (show Fr No w wv by rw [hwv]; exact (Fr.refl No w).alloc _)
  have BV := Lib.hid (show Blk wv w.heap.size 27 #[.int .i64 y.id, .int .i64 y.pr, .int .i64 y.since, .int .i64 y.seq] by rw [hwv]; exact Blk.new _ _ _)
  have h := h.fr0 FV.out
  have HWV := Lib.hid hwv
  have HV := Lib.hid (dvalid_any r wv h.cells.1)
  have HA := Lib.hid (dat_any r v L x wv h (by omega))
  have HX := Lib.hid hx
  obtain ⟨A, c, rfl⟩ := own_form' h.own
  obtain ⟨n, hnn⟩ : ∃ n, n = L.length := ⟨_, rfl⟩
  have HN := Lib.hid hnn
  have HH := Lib.hid h
  obtain ⟨c0, c1⟩ := h.cells
  have z1 := h.blk.frozen 1
  obtain ⟨e0, e1, e2, e3⟩ := (show wv.cell? ⟨w.heap.size, 0, none⟩ = some (.int .i64 y.id) ∧ wv.cell? ⟨w.heap.size, 1, none⟩ = some (.int .i64 y.pr) ∧ wv.cell? ⟨w.heap.size, 2, none⟩ = some (.int .i64 y.since) ∧ wv.cell? ⟨w.heap.size, 3, none⟩ = some (.int .i64 y.seq) from ⟨BV.out.cell 0, BV.out.cell 1, BV.out.cell 2, BV.out.cell 3⟩)
  have hrl := h.blk.lt
  have B1 := Lib.hid (show Blk wv r 82 #[.bool true, .slice A n c] by rw [hnn]; exact h.blk)
  have O1 := Lib.hid (show wv.ownsRow 0 86 5 (.slice A n c) n (dcells L) by rw [hnn]; exact h.own)
  rw [← hnn] at c1 hn
  have HB1 := Lib.hid (show (n + 1) * 40 ≤ 140737488355328 by omega)
  have HB0 := Lib.hid (show n + 1 ≤ maxLen by unfold maxLen; omega)
  obtain ⟨wx, hwx⟩ : ∃ wx, wx = (wv.alloc (.cells #[.int .i64 x, .int .i64 y.id, .int .i64 y.pr, .int .i64 y.since, .int .i64 y.seq] 86)).drew := ⟨_, rfl⟩
  have FX := Lib.hid (show Fr No wv wx by rw [hwx]; exact ((Fr.refl No wv).alloc _).drew)
  have HO := Lib.hid (show wx.ownsRow 0 86 5 (.slice A n c) n (dcells L) from own_fr O1.out FX.out (fun _ _ z => z))
  have HR := Lib.hid (show Reads wx wx.heap.size 5 (some ⟨wv.heap.size, 0, none⟩) 1 [.int .i64 x, .int .i64 y.id, .int .i64 y.pr, .int .i64 y.since, .int .i64 y.seq] by
    rw [hwx]; exact (reads_blk wv 86 [.int .i64 x, .int .i64 y.id, .int .i64 y.pr, .int .i64 y.since, .int .i64 y.seq] 1 5 rfl).drew)
  have HONE := Lib.hid (show ∀ q ∈ [Value.int .i64 x, .int .i64 y.id, .int .i64 y.pr, .int .i64 y.since, .int .i64 y.seq], q.oneCell' = true from fun q hq => by
    simp only [List.mem_cons, List.not_mem_nil, or_false] at hq
    rcases hq with rfl | rfl | rfl | rfl | rfl <;> rfl)
  rw [hwx] at HO HR
  clear hwx h hnn hwv hx
  go_enter Try.func57, Try.ntmps57
  go_wp2_with fail
  rw [← HWV.out]
  refine HV.out.mono ?_
  rintro e w0 ⟨rfl, rfl⟩
  go_wp2_with fail
  refine HA.out.mono ?_
  rintro e w1 ⟨hr, rfl⟩
  rcases hr with ⟨_, rfl⟩ | ⟨i, hi, hid, rfl⟩
  · go_wp2_with fail
    go_region_law ((refine step_append_any _ rfl (.tmp 18) (.tmp 22) 80 rfl 0 86 i0 (.agg #[.int .i64 0, .int .i64 0, .int .i64 0, .int .i64 0, .int .i64 0]) 5 40 Try.underlying80 hi hz0 hz1 hz2 rfl (by omega) (.slice A n c) n (dcells L) (by simp [Act.eval]) HO.out _ (some ⟨w1.heap.size, 0, none⟩) 1 1 _ (by simp [Act.eval]) HR.out HONE.out HB0.out HB1.out (Nat.zero_le _) ?_; intro v' w2 hown2 hg2 hloc2; obtain ⟨A2, q2, rfl⟩ := own_form' hown2; have F2 : Fr (fun k => (Value.slice A n c).ownBlock = some k) w1 w2 := ((Fr.refl _ w1).alloc _).drew.trans (Fr.of_grown (S := fun k => (Value.slice A n c).ownBlock = some k) hg2 (fun k hk => hk)) (fun _ _ z => z); have B2 := B1.out.fr F2 (fun e => own_blk_ne O1.out B1.out (by decide) r e rfl); have g1 := B2.cell 1; have y1 := B2.frozen 1; simp only [List.getElem?_toArray, List.getElem?_cons_zero, List.getElem?_cons_succ] at g1))
    all_goals
      have FF2 := Lib.hid F2
      have BB2 := Lib.hid B2
      have OW := Lib.hid hown2
      have LOC := Lib.hid hloc2
      clear F2 B2 hown2 hg2 hloc2 z1 e0 e1 e2 e3 c0 c1
      have HSZ := Lib.hid (show ∀ k, (Value.slice A2 (n + 1) q2).ownBlock = some k → (Value.slice A n c).ownBlock = some k ∨ w1.heap.size ≤ k from fun k hk => by
        rcases LOC.out with h1 | h1
        · exact .inl (by rw [← h1]; exact hk)
        · rw [h1] at hk; right; cases hk; simp)
      have hap2 : ∀ k, (Value.slice A2 (n + 1) q2).ownBlock = some k → k ≠ r := fun k hk e => by
        rcases HSZ.out k hk with h1 | h1
        · exact HH.out.ne k (by rw [← HN.out]; exact h1) e
        · omega
      have F4 := Lib.hid (show Fr (· = r) w2 (w2.setCell ⟨r, 1, none⟩ (.slice A2 (n + 1) q2)) from (Fr.refl (· = r) w2).setCell (.inr rfl) _)
      have B4 := Lib.hid (show Blk (w2.setCell ⟨r, 1, none⟩ (.slice A2 (n + 1) q2)) r 82 #[.bool true, .slice A2 (n + 1) q2] by
        have := BB2.out.set_ 1 (.slice A2 (n + 1) q2)
        simpa using this)
      have HD := Lib.hid (show DV (w2.setCell ⟨r, 1, none⟩ (.slice A2 (n + 1) q2)) r (.slice A2 (n + 1) q2) (L ++ [⟨x, y, g⟩]) from ⟨B4.out, by
        rw [List.length_append, List.length_singleton, ← HN.out, dcells_app]
        exact own_fr OW.out F4.out (fun k hk e => hap2 k hk e)⟩)
      clear hap2
      go_wp2
      go_ret
      refine ⟨rfl, TurnD.pre FV.out ⟨_, HD.out, ?_, fun k hk => ?_⟩⟩
      · exact (FF2.out.mono (T := domD r (.slice A L.length c)) (fun k hk => .inr (by rw [← HN.out]; exact hk))).trans (F4.out.mono (T := domD r (.slice A L.length c)) (fun k (hk : k = r) => .inl hk)) (fun _ _ z => z)
      · rcases hk with e | e
        · exact .inl (.inl e)
        · rcases HSZ.out k e with h1 | h1
          · exact .inl (.inr (by rw [← HN.out]; exact h1))
          · exact .inr h1
  · exact absurd (List.mem_map.2 ⟨_, at_mem hi, hid⟩) HX.out
set_option maxRecDepth 100000 in
set_option maxHeartbeats 4000000 in
theorem dRemoveNo (r : Nat) (v : Value) (L : List (En IV)) (x : Int) (w : World) (h : DV w r v L) (hn : L.length ≤ 1000000000) (hx : x ∉ ids L) :
    Calls Try.prog 59 #[.pointer (some ⟨r, 0, none⟩), .int .i64 x] w fun e w' => e = .returned (.int .i64 5) ∧ w = w' := by
  have HV := Lib.hid (dvalid_any r w h.cells.1)
  have HA := Lib.hid (dat_any r v L x w h hn)
  have HX := Lib.hid hx
  clear h hx
  go_enter Try.func59, Try.ntmps59
  go_wp2_with fail
  refine HV.out.mono ?_
  rintro e w0 ⟨rfl, rfl⟩
  go_wp2_with fail
  refine HA.out.mono ?_
  rintro e w1 ⟨hr, rfl⟩
  rcases hr with ⟨_, rfl⟩ | ⟨i, hi, hid, rfl⟩
  · go_wp2
    go_ret
    exact ⟨rfl, rfl⟩
  · exact absurd (List.mem_map.2 ⟨_, at_mem hi, hid⟩) HX.out
set_option maxRecDepth 100000 in
set_option maxHeartbeats 4000000 in
theorem dRemove (r : Nat) (v : Value) (s L : List (En IV)) (x : Int) (w : World) (h : DV w r v L) (hr : Rel s L) (hnd : (ids s).Nodup) (hn : L.length ≤ 1000000000) (hx : x ∈ ids s) :
    Calls Try.prog 59 #[.pointer (some ⟨r, 0, none⟩), .int .i64 x] w fun e w' => e = .returned (.int .i64 0) ∧ ∃ L', TurnD w r v L' w' ∧ Rel (del x s) L' := by
  have HV := Lib.hid (dvalid_any r w h.cells.1)
  have HA := Lib.hid (dat_any r v L x w h hn)
  have HX := Lib.hid ((hr.ids x).1 hx)
  obtain ⟨A, c, rfl⟩ := own_form' h.own
  obtain ⟨c0, c1⟩ := h.cells
  have hcl := own_cap h.own
  have HH := Lib.hid h
  have HREL := Lib.hid hr
  have HND := Lib.hid hnd
  obtain ⟨n, hnn⟩ : ∃ n, n = L.length := ⟨_, rfl⟩
  have HN := Lib.hid hnn
  have hR := Reads.of_own h.own
  rw [← hnn] at c1 hR hn hcl
  have HR := Lib.hid hR
  have hrl := h.blk.lt
  clear h hx hr hnd hnn hR
  go_enter Try.func59, Try.ntmps59
  go_wp2_with fail
  refine HV.out.mono ?_
  rintro e w0 ⟨rfl, rfl⟩
  go_wp2_with fail
  refine HA.out.mono ?_
  rintro e w1 ⟨hat, rfl⟩
  rcases hat with ⟨hx, rfl⟩ | ⟨i, hi, hid, rfl⟩
  · exact absurd HX.out hx
  · have HC := Lib.hid (HREL.out.cut HND.out hi)
    rw [hid] at HC
    have HW := Lib.hid (without_any A n c i L w1 HR.out hcl hn (by rw [HN.out]; exact hi))
    have h0 : ¬ (i : Int) < 0 := by omega
    clear hid hi
    go_wp2_with fail
    refine HW.out.mono ?_
    rintro e w2 ⟨A2, m, c2, rfl, hm, ho, hf⟩
    have HM := Lib.hid hm
    have OW := Lib.hid ho
    have F2 := Lib.hid hf
    have B2 := Lib.hid (HH.out.blk.fr hf (fun z => z))
    have y1 := B2.out.frozen 1
    have g1 := B2.out.cell 1
    simp only [List.getElem?_toArray, List.getElem?_cons_zero, List.getElem?_cons_succ] at g1
    have F4 := Lib.hid (show Fr (· = r) w2 (w2.setCell ⟨r, 1, none⟩ (.slice A2 m c2)) from (Fr.refl (· = r) w2).setCell (.inr rfl) _)
    have B4 := Lib.hid (show Blk (w2.setCell ⟨r, 1, none⟩ (.slice A2 m c2)) r 82 #[.bool true, .slice A2 m c2] by
      have := B2.out.set_ 1 (.slice A2 m c2)
      simpa using this)
    have HD := Lib.hid (show DV (w2.setCell ⟨r, 1, none⟩ (.slice A2 m c2)) r (.slice A2 m c2) (L.eraseIdx i) from ⟨B4.out, by
      rw [← HM.out]
      exact own_fr (own_base OW.out (Nat.zero_le _)) F4.out (fun k hk e => by have := (OW.out.lt k hk).1; omega)⟩)
    clear hm ho hf c0 c1
    go_wp2
    go_ret
    refine ⟨rfl, _, ⟨_, HD.out, ?_, fun k hk => ?_⟩, HC.out⟩
    · exact (F2.out.mono (T := domD r (.slice A L.length c)) (fun _ z => z.elim)).trans (F4.out.mono (T := domD r (.slice A L.length c)) (fun k (hk : k = r) => .inl hk)) (fun _ _ z => z)
    · rcases hk with e | e
      · exact .inl (.inl e)
      · exact .inr (OW.out.lt k e).1
theorem dPop (r : Nat) (v : Value) (s L : List (En IV)) (w : World) (h : DV w r v L) (hr : Rel s L) (hnd : (ids s).Nodup) (hn : L.length ≤ 1000000000) :
    Calls Try.prog 58 #[.pointer (some ⟨r, 0, none⟩)] w fun e w' => e = .returned (.tuple #[.int .i64 (topV s), .bool (topB s)]) ∧ ∃ L', TurnD w r v L' w' ∧ Rel s.tail L' := by
  have HT := Lib.hid (dTop_any r v s L w h hr hn)
  have HH := Lib.hid h
  have HREL := Lib.hid hr
  have HND := Lib.hid hnd
  rcases s with _ | ⟨a, t⟩
  · have HE := Lib.hid (show topV ([] : List (En IV)) = 0 ∧ topB ([] : List (En IV)) = false from ⟨rfl, rfl⟩)
    rw [HE.out.1, HE.out.2] at HT
    rw [HE.out.1, HE.out.2]
    clear h hr hnd
    go_enter Try.func58, Try.ntmps58
    go_wp2_with fail
    refine HT.out.mono ?_
    rintro e w1 ⟨rfl, hf⟩
    have F1 := Lib.hid hf
    clear hf
    go_wp2
    go_ret2
    exact ⟨rfl, L, ⟨v, HH.out.fr0 F1.out, F1.out.mono (fun _ z => z.elim), fun k hk => .inl hk⟩, HREL.out⟩
  · have HE := Lib.hid (show topV (a :: t) = a.id ∧ topB (a :: t) = true from ⟨rfl, rfl⟩)
    rw [HE.out.1, HE.out.2] at HT
    rw [HE.out.1, HE.out.2]
    have HK := Lib.hid (fun (X : World) (hX : Fr No w X) => dRemove r v (a :: t) L a.id X (h.fr0 hX) hr hnd hn (by simp [ids]))
    rw [del_head hnd] at HK
    clear h hr hnd
    go_enter Try.func58, Try.ntmps58
    go_wp2_with fail
    refine HT.out.mono ?_
    rintro e w1 ⟨rfl, hf⟩
    have F1 := Lib.hid hf
    clear hf
    go_wp2_with fail
    refine (HK.out _ F1.out).mono ?_
    rintro e w2 ⟨rfl, L', ht, hc⟩
    have HTT := Lib.hid (TurnD.pre F1.out ht)
    have HC := Lib.hid hc
    clear ht hc
    go_wp2
    go_ret2
    exact ⟨rfl, L', HTT.out, HC.out⟩
end Go.Proofs.Ytbndmelkdamgjaa.It
