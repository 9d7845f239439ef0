/- The contract of Remove. -/
import Derived.Test.YtcjcoigjedcieaaG
namespace Go.Proofs.Ytcjcoigjedcieaa
open Go.RowKit Go.Wk

set_option maxRecDepth 100000 in
set_option maxHeartbeats 4000000 in
theorem Remove_any (b bm : Nat) (v : Value) (s : QS) (x : Int) (hx : fits x) (w : World) (h : QV w b bm v s) : Calls Try.prog 21 #[.pointer (some ⟨b, 0, none⟩), .int .i64 x] w fun e w' => Turned w b bm v (remS s x) (.int .i64 (remE s x)) e w' := by
  obtain ⟨c0, c1, c2, c3, c4⟩ := h.cells
  have HH := Lib.hid h
  have HV := Lib.hid (made_any b bm _ s w h)
  have hl := h.mp.look_ok Try.underlying3 Try.underlying63 (zeroI w) hx
  have hgb : hasB s x = (byId s.l x).isSome := rfl
  rw [← hgb] at hl
  clear hgb
  by_cases hg : hasB s x = true
  · obtain ⟨i, hi, hid⟩ := hasB_at hg
    have hmk := byId_get h.ok hi
    rw [hid] at hmk
    rw [hmk, hg] at hl
    have HE := Lib.hid (show remE s x = 0 by unfold remE; rw [if_pos hg])
    have HRS := Lib.hid (show remS s x = s.cut i by rw [← hid]; exact remS_at h.ok hi)
    rw [HRS.out, HE.out]
    simp only [Option.getD_some] at hl
    have HID := Lib.hid (idx_self h.ok hi)
    have HOK := Lib.hid (h.ok.fit _ (getD_mem' hi))
    obtain ⟨m, hm⟩ : ∃ m, m = s.l.getD i IV.zero := ⟨_, rfl⟩
    rw [← hm] at hl HID HOK
    have HI := Lib.hid hi
    obtain ⟨w0, hw0⟩ : ∃ w0, w0 = w.alloc (.cells #[.int .i64 m.id, .int .i64 m.pr, .int .i64 m.since, .int .i64 m.seq] 31) := ⟨_, rfl⟩
    have F0 := Lib.hid (show Fr No w w0 by rw [hw0]; exact (Fr.refl No w).alloc _)
    have BM := Lib.hid (show Blk w0 w.heap.size 31 #[.int .i64 m.id, .int .i64 m.pr, .int .i64 m.since, .int .i64 m.seq] by rw [hw0]; exact Blk.new _ _ _)
    have HV0 := Lib.hid (h.fr0 F0.out)
    have HF := Lib.hid (place_any b v s m HOK.out w0 HV0.out.qp)
    rw [HID.out] at HF
    obtain ⟨t0, t1, t2, t3⟩ := blk4 BM.out
    have HW := Lib.hid hw0
    obtain ⟨m1, m2, m3, m4⟩ := m
    unfold valI at hl HF
    dsimp only at *
    clear hw0 hg hmk hid hm h
    go_enter Try.func21, Try.ntmps21
    go_wp2_with fail
    refine HV.out.mono ?_
    rintro e w1 ⟨rfl, rfl⟩
    go_wp2_with fail
    rw [← HW.out]
    refine HF.out.mono ?_
    rintro e w1 ⟨rfl, hf⟩
    have F1 := Lib.hid (F0.out.then0 hf)
    have HT := Lib.hid (take_any b bm v s i HI.out w1 (HV0.out.fr0 hf))
    clear hf
    go_wp2_with fail
    refine HT.out.mono ?_
    rintro e w2 ⟨rfl, v', hq, hf, hn⟩
    have HQ := Lib.hid hq
    have HF2 := Lib.hid hf
    have HN := Lib.hid hn
    clear hq hf hn
    go_wp2
    go_ret
    exact ⟨rfl, v', HQ.out, Fr.trans (S := dom b bm v) (F1.out.mono (fun _ z => z.elim)) HF2.out (fun _ _ z => z), fun k hk => (HN.out k hk).imp_right (fun h' => Nat.le_trans F1.out.size h')⟩
  · have hgf : hasB s x = false := by simpa using hg
    have HE := Lib.hid (show remE s x = 5 by unfold remE; rw [if_neg hg])
    rw [remS_none hgf, HE.out]
    rw [hgf] at hl
    generalize (byId s.l x).getD IV.zero = p at *
    obtain ⟨p1, p2, p3, p4⟩ := p
    unfold valI at hl
    dsimp only at hl
    clear hg hgf h
    go_enter Try.func21, Try.ntmps21
    go_wp2_with fail
    refine HV.out.mono ?_
    rintro e w1 ⟨rfl, rfl⟩
    go_wp2
    go_ret
    exact ⟨rfl, _, HH.out.fr0 ((Fr.refl No _).alloc _), ((Fr.refl No _).alloc _).mono (fun _ z => z.elim), fun k hk => .inl hk⟩
end Go.Proofs.Ytcjcoigjedcieaa
