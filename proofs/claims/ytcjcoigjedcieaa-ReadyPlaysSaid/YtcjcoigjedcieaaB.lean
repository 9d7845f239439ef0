/- A block that reads as a queue; made, Len, Room, Has, Head; the place of an item. -/
import Derived.Test.YtcjcoigjedcieaaC
import Derived.Laws.Cover3
namespace Go.Proofs.Ytcjcoigjedcieaa
open Go.RowKit Go.Wk

/-- What place reads of a queue. -/
structure QP (w : World) (b : Nat) (v : Value) (s : QS) : Prop where
  c0 : w.cell? ⟨b, 0, none⟩ = some v
  c3 : w.cell? ⟨b, 3, none⟩ = some (.int .i64 s.ag)
  own : w.ownsRow 0 31 4 v s.l.length (icells s.l)
  lt : b < w.heap.size
  ok : s.ok
theorem QP.fr {S : Nat → Prop} {w w' : World} {b : Nat} {v : Value} {s : QS} (h : QP w b v s) (hf : Fr S w w') (hb : ¬ S b) (hS : ∀ k, v.ownBlock = some k → ¬ S k) : QP w' b v s :=
  ⟨(hf.cell (p := ⟨b, 0, none⟩) h.lt hb).trans h.c0, (hf.cell (p := ⟨b, 3, none⟩) h.lt hb).trans h.c3, own_fr h.own hf hS, Nat.lt_of_lt_of_le h.lt hf.size, h.ok⟩
theorem QP.fr0 {w w' : World} {b : Nat} {v : Value} {s : QS} (h : QP w b v s) (hf : Fr No w w') : QP w' b v s := h.fr hf (fun z => z) (fun _ _ z => z)
theorem QP.item {w : World} {b : Nat} {A : Option Addr} {n c : Nat} {s : QS} (h : QP w b (.slice A n c) s) {i : Nat} (hi : i < s.l.length) : ∃ g, A = some ⟨g, 0, none⟩ ∧ g < w.heap.size ∧ C4 w g (i * 4) (s.l.getD i IV.zero) := by
  obtain ⟨g, q, he, _⟩ := own_some h.own (by omega)
  cases he
  obtain ⟨b', off, he, _, _, h0, h1, h2, h3⟩ := reads_item (Reads.of_own h.own) hi
  cases he
  refine ⟨g, rfl, (h.own.lt g rfl).2, ?_⟩
  simp only [Nat.zero_add] at h0 h1 h2 h3
  exact ⟨h0, h1, h2, h3⟩
theorem QP.form {w : World} {b : Nat} {v : Value} {s : QS} (h : QP w b v s) : ∃ A c, v = .slice A s.l.length c ∧ s.l.length ≤ c := by
  obtain ⟨A, c, rfl⟩ := own_form' h.own
  exact ⟨A, c, rfl, own_cap h.own⟩

set_option maxRecDepth 100000 in
set_option maxHeartbeats 8000000 in
theorem bsf_any (b p : Nat) (A : Option Addr) (n c : Nat) (s : QS) (x : IV) (hx : x.Ok) (w : World) (h : QP w b (.slice A n c) s) (hp : Blk w p 24 #[.pointer (some ⟨b, 0, none⟩)]) :
    Calls Try.prog 60 #[.slice A n c, valI x, .func (.func 61) #[] #[.pointer (some ⟨p, 0, none⟩)]] w fun e w' => (∃ f, e = .returned (.tuple #[.int .i64 (idx s.ag s.l (mkI s.ag x)), .bool f])) ∧ Fr No w w' := by
  have HV := Lib.hid h
  have HP := Lib.hid hp
  have HX := Lib.hid hx
  have hnl : n = s.l.length := by
    obtain ⟨A', c', e, _⟩ := h.form
    injection e
  have hnb := h.ok.n
  have HNL := Lib.hid hnl
  have HIE := Lib.hid (fun i h0 h1 h2 => idx_eq (g := s.ag) (l := s.l) (t := mkI s.ag x) (i := i) h0 h1 h2)
  rw [← hnl] at HIE hnb
  generalize idx s.ag s.l (mkI s.ag x) = r at *
  clear h hp hnl hx
  obtain ⟨x1, x2, x3, x4⟩ := x
  obtain ⟨w0, hw0⟩ : ∃ w0, w0 = w.alloc (.cells #[.int .i64 x1, .int .i64 x2, .int .i64 x3, .int .i64 x4] 31) := ⟨_, rfl⟩
  have F0 := Lib.hid (show Fr No w w0 by rw [hw0]; exact (Fr.refl No w).alloc _)
  have BT := Lib.hid (show Blk w0 w.heap.size 31 #[.int .i64 x1, .int .i64 x2, .int .i64 x3, .int .i64 x4] by rw [hw0]; exact Blk.new _ _ _)
  have HW := Lib.hid hw0
  clear hw0
  have hval : valI ⟨x1, x2, x3, x4⟩ = .agg #[.int .i64 x1, .int .i64 x2, .int .i64 x3, .int .i64 x4] := rfl
  rw [hval]
  clear hval
  go_enter Try.func60, Try.ntmps60
  go_wp2
  rw [← HW.out]
  go_loopw [9, 10] (fun i j wr => ∃ k m : Nat, i = .int .i64 k ∧ j = .int .i64 m ∧ k ≤ m ∧ m ≤ n ∧ Hid (Fr No w0 wr) ∧ Hid (∀ q, q < k → ltM (mkI s.ag (s.l.getD q IV.zero)) (mkI s.ag ⟨x1, x2, x3, x4⟩)) ∧ Hid (m < n → ¬ ltM (mkI s.ag (s.l.getD m IV.zero)) (mkI s.ag ⟨x1, x2, x3, x4⟩))) (fun i j _ => (intOf j).toNat - (intOf i).toNat)
  case atStart => exact ⟨0, n, rfl, rfl, Nat.zero_le _, Nat.le_refl _, Lib.hid (Fr.refl _ _), Lib.hid (fun q h => by omega), Lib.hid (fun h => by omega)⟩
  case round =>
    obtain ⟨k, m, rfl, rfl, hkm, hmn, HF, HL, HR⟩ := hrel
    by_cases hlt : k < m
    · obtain ⟨q, hq2⟩ : ∃ q : Nat, (k + m) / 2 = q := ⟨_, rfl⟩
      have hh : ((k : Int) + (m : Int)) / 2 = (q : Int) := by omega
      have hqk : k ≤ q := by omega
      have hqm : q < m := by omega
      have hql : q < s.l.length := by rw [← HNL.out]; omega
      have HV2 := HV.out.fr0 (F0.out.then0 HF.out)
      obtain ⟨g, rfl, hg, hc⟩ := HV2.item hql
      have HC := Lib.hid (ord_any b p s.ag (s.l.getD q IV.zero) ⟨x1, x2, x3, x4⟩ (HV.out.ok.fit _ (getD_mem' hql)) HX.out HV.out.ok.ag1 wr.drew HV2.c3 HV2.lt ((HP.out.fr (F0.out.then0 HF.out) (fun x => x)).fr (Fr.refl No wr).drew (fun x => x)))
      have SK := Lib.hid (fun (X : World) (hX : Fr No wr X) => (show (X.cell? ⟨g, q * 4, none⟩ = some (.int .i64 (s.l.getD q IV.zero).id) ∧ X.cell? ⟨g, q * 4 + 1, none⟩ = some (.int .i64 (s.l.getD q IV.zero).pr) ∧ X.cell? ⟨g, q * 4 + 2, none⟩ = some (.int .i64 (s.l.getD q IV.zero).since) ∧ X.cell? ⟨g, q * 4 + 3, none⟩ = some (.int .i64 (s.l.getD q IV.zero).seq)) ∧
          (X.cell? ⟨w.heap.size, 0, none⟩ = some (.int .i64 x1) ∧ X.cell? ⟨w.heap.size, 1, none⟩ = some (.int .i64 x2) ∧ X.cell? ⟨w.heap.size, 2, none⟩ = some (.int .i64 x3) ∧ X.cell? ⟨w.heap.size, 3, none⟩ = some (.int .i64 x4)) from
        ⟨hc.fr hX hg (fun z => z), blk4 (x := ⟨x1, x2, x3, x4⟩) ((BT.out.fr HF.out (fun x => x)).fr hX (fun x => x))⟩))
      obtain ⟨⟨s0, s1, s2, s3⟩, s4, s5, s6, s7⟩ := SK.out wr (Fr.refl _ _)
      have HLT := Lib.hid (ordQ_lt s.ag (s.l.getD q IV.zero) ⟨x1, x2, x3, x4⟩)
      have HINC := Lib.hid (show ∀ j, j < q → ltM (mkI s.ag (s.l.getD j IV.zero)) (mkI s.ag (s.l.getD q IV.zero)) from fun j hj => HV.out.ok.lt hj hql)
      have FD := Lib.hid (Fr.refl No wr).drew
      generalize ordQ s.ag (s.l.getD q IV.zero) ⟨x1, x2, x3, x4⟩ = o at *
      have hval : valI ⟨x1, x2, x3, x4⟩ = .agg #[.int .i64 x1, .int .i64 x2, .int .i64 x3, .int .i64 x4] := rfl
      rw [hval] at HC
      obtain ⟨z, hz⟩ : ∃ z, z = s.l.getD q IV.zero := ⟨_, rfl⟩
      rw [← hz] at HC SK s0 s1 s2 s3 HLT HINC
      have HZ := Lib.hid hz
      obtain ⟨z1, z2, z3, z4⟩ := z
      unfold valI at HC
      dsimp only at *
      have hqn : (q : Int) < (n : Int) := by omega
      clear hval hql HV2 hq2 hz hc
      by_cases ho : o < 0
      · have HA := Lib.hid (show ∀ j, j < q + 1 → ltM (mkI s.ag (s.l.getD j IV.zero)) (mkI s.ag ⟨x1, x2, x3, x4⟩) from fun j hj => by
          by_cases e : j = q
          · rw [e, ← HZ.out]; exact HLT.out.1 ho
          · exact ltM_trans (HINC.out j (by omega)) (HLT.out.1 ho))
        go_wp2
        go_region_held3 (fun X => (X.cell? ⟨g, q * 4, none⟩ = some (.int .i64 z1) ∧ X.cell? ⟨g, q * 4 + 1, none⟩ = some (.int .i64 z2) ∧ X.cell? ⟨g, q * 4 + 2, none⟩ = some (.int .i64 z3) ∧ X.cell? ⟨g, q * 4 + 3, none⟩ = some (.int .i64 z4)) ∧
          (X.cell? ⟨w.heap.size, 0, none⟩ = some (.int .i64 x1) ∧ X.cell? ⟨w.heap.size, 1, none⟩ = some (.int .i64 x2) ∧ X.cell? ⟨w.heap.size, 2, none⟩ = some (.int .i64 x3) ∧ X.cell? ⟨w.heap.size, 3, none⟩ = some (.int .i64 x4)))
          (first | exact SK.out _ (FD.out.then0 FA.out) | exact SK.out _ FD.out | go_keep)
          (first | (go_at_call 61; ((with_reducible refine HC.out.mono ?_); rintro e wA ⟨rfl, hf⟩); have FA := Lib.hid hf; clear hf))
        all_goals
          go_wp2
          go_roundw
          case rel => exact ⟨q + 1, m, by go_num, rfl, by omega, hmn, Lib.hid (HF.out.then0 (FD.out.then0 FA.out)), HA, HR⟩
          case measure => simp [intOf]; omega
      · have HA := Lib.hid (show q < n → ¬ ltM (mkI s.ag (s.l.getD q IV.zero)) (mkI s.ag ⟨x1, x2, x3, x4⟩) from fun _ h => ho (HLT.out.2 (by rw [HZ.out]; exact h)))
        go_wp2
        go_region_held3 (fun X => (X.cell? ⟨g, q * 4, none⟩ = some (.int .i64 z1) ∧ X.cell? ⟨g, q * 4 + 1, none⟩ = some (.int .i64 z2) ∧ X.cell? ⟨g, q * 4 + 2, none⟩ = some (.int .i64 z3) ∧ X.cell? ⟨g, q * 4 + 3, none⟩ = some (.int .i64 z4)) ∧
          (X.cell? ⟨w.heap.size, 0, none⟩ = some (.int .i64 x1) ∧ X.cell? ⟨w.heap.size, 1, none⟩ = some (.int .i64 x2) ∧ X.cell? ⟨w.heap.size, 2, none⟩ = some (.int .i64 x3) ∧ X.cell? ⟨w.heap.size, 3, none⟩ = some (.int .i64 x4)))
          (first | exact SK.out _ (FD.out.then0 FA.out) | exact SK.out _ FD.out | go_keep)
          (first | (go_at_call 61; ((with_reducible refine HC.out.mono ?_); rintro e wA ⟨rfl, hf⟩); have FA := Lib.hid hf; clear hf))
        all_goals
          go_wp2
          go_roundw
          case rel => exact ⟨k, q, rfl, rfl, by omega, by omega, Lib.hid (HF.out.then0 (FD.out.then0 FA.out)), HL, HA⟩
          case measure => simp [intOf]; omega
    · obtain rfl : k = m := by omega
      have HE := Lib.hid (HIE.out k hmn HL.out (fun hk => HR.out hk))
      by_cases hkn : k < n
      · have hql : k < s.l.length := by rw [← HNL.out]; omega
        have HV2 := HV.out.fr0 (F0.out.then0 HF.out)
        obtain ⟨g, rfl, hg, hc⟩ := HV2.item hql
        have HC := Lib.hid (ord_any b p s.ag (s.l.getD k IV.zero) ⟨x1, x2, x3, x4⟩ (HV.out.ok.fit _ (getD_mem' hql)) HX.out HV.out.ok.ag1 wr.drew HV2.c3 HV2.lt ((HP.out.fr (F0.out.then0 HF.out) (fun x => x)).fr (Fr.refl No wr).drew (fun x => x)))
        have SK := Lib.hid (fun (X : World) (hX : Fr No wr X) => (show (X.cell? ⟨g, k * 4, none⟩ = some (.int .i64 (s.l.getD k IV.zero).id) ∧ X.cell? ⟨g, k * 4 + 1, none⟩ = some (.int .i64 (s.l.getD k IV.zero).pr) ∧ X.cell? ⟨g, k * 4 + 2, none⟩ = some (.int .i64 (s.l.getD k IV.zero).since) ∧ X.cell? ⟨g, k * 4 + 3, none⟩ = some (.int .i64 (s.l.getD k IV.zero).seq)) ∧
            (X.cell? ⟨w.heap.size, 0, none⟩ = some (.int .i64 x1) ∧ X.cell? ⟨w.heap.size, 1, none⟩ = some (.int .i64 x2) ∧ X.cell? ⟨w.heap.size, 2, none⟩ = some (.int .i64 x3) ∧ X.cell? ⟨w.heap.size, 3, none⟩ = some (.int .i64 x4)) from
          ⟨hc.fr hX hg (fun z => z), blk4 (x := ⟨x1, x2, x3, x4⟩) ((BT.out.fr HF.out (fun x => x)).fr hX (fun x => x))⟩))
        obtain ⟨⟨s0, s1, s2, s3⟩, s4, s5, s6, s7⟩ := SK.out wr (Fr.refl _ _)
        have FD := Lib.hid (Fr.refl No wr).drew
        generalize ordQ s.ag (s.l.getD k IV.zero) ⟨x1, x2, x3, x4⟩ = o at *
        have hval : valI ⟨x1, x2, x3, x4⟩ = .agg #[.int .i64 x1, .int .i64 x2, .int .i64 x3, .int .i64 x4] := rfl
        rw [hval] at HC
        obtain ⟨z, hz⟩ : ∃ z, z = s.l.getD k IV.zero := ⟨_, rfl⟩
        rw [← hz] at HC SK s0 s1 s2 s3
        obtain ⟨z1, z2, z3, z4⟩ := z
        unfold valI at HC
        dsimp only at *
        have hqn : (k : Int) < (n : Int) := by omega
        clear hval hql HV2 hz hc
        go_wp2
        go_region_held3 (fun X => (X.cell? ⟨g, k * 4, none⟩ = some (.int .i64 z1) ∧ X.cell? ⟨g, k * 4 + 1, none⟩ = some (.int .i64 z2) ∧ X.cell? ⟨g, k * 4 + 2, none⟩ = some (.int .i64 z3) ∧ X.cell? ⟨g, k * 4 + 3, none⟩ = some (.int .i64 z4)) ∧
          (X.cell? ⟨w.heap.size, 0, none⟩ = some (.int .i64 x1) ∧ X.cell? ⟨w.heap.size, 1, none⟩ = some (.int .i64 x2) ∧ X.cell? ⟨w.heap.size, 2, none⟩ = some (.int .i64 x3) ∧ X.cell? ⟨w.heap.size, 3, none⟩ = some (.int .i64 x4)))
          (first | exact SK.out _ (FD.out.then0 FA.out) | exact SK.out _ FD.out | go_keep)
          (first | (go_at_call 61; ((with_reducible refine HC.out.mono ?_); rintro e wA ⟨rfl, hf⟩); have FA := Lib.hid hf; clear hf))
        all_goals
          go_wp2
          go_ret2
          rw [HE.out]
          exact ⟨⟨_, rfl⟩, F0.out.then0 (HF.out.then0 (FD.out.then0 FA.out))⟩
      · have hkn2 : ¬ (k : Int) < (n : Int) := by omega
        go_wp2
        go_quiet (fail)
        go_wp2
        go_ret2
        rw [HE.out]
        exact ⟨⟨_, rfl⟩, (F0.out.then0 HF.out).drewN _⟩

set_option maxRecDepth 100000 in
set_option maxHeartbeats 4000000 in
theorem place_any (b : Nat) (v : Value) (s : QS) (x : IV) (hx : x.Ok) (w : World) (h : QP w b v s) : Calls Try.prog 48 #[.pointer (some ⟨b, 0, none⟩), valI x] w fun e w' => e = .returned (.int .i64 (idx s.ag s.l (mkI s.ag x))) ∧ Fr No w w' := by
  obtain ⟨A, c, rfl, _⟩ := h.form
  obtain ⟨w0, hw0⟩ : ∃ w0, w0 = (w.alloc (.cells #[.pointer (some ⟨b, 0, none⟩)] 24)).alloc (.cells #[.int .i64 x.id, .int .i64 x.pr, .int .i64 x.since, .int .i64 x.seq] 31) := ⟨_, rfl⟩
  have F0 := Lib.hid (show Fr No w w0 by rw [hw0]; exact ((Fr.refl No w).alloc _).alloc _)
  have BP := Lib.hid (show Blk w0 w.heap.size 24 #[.pointer (some ⟨b, 0, none⟩)] by rw [hw0]; exact (Blk.new _ _ _).alloc _)
  have BT := Lib.hid (show Blk w0 (w.heap.size + 1) 31 #[.int .i64 x.id, .int .i64 x.pr, .int .i64 x.since, .int .i64 x.seq] by
    rw [hw0]
    have := Blk.new (w.alloc (.cells #[.pointer (some ⟨b, 0, none⟩)] 24)) 31 #[.int .i64 x.id, .int .i64 x.pr, .int .i64 x.since, .int .i64 x.seq]
    rwa [World.size_alloc] at this)
  have HV := Lib.hid (h.fr0 F0.out)
  have FD := Lib.hid (Fr.refl No w0).drew
  have HC := Lib.hid (bsf_any b w.heap.size A s.l.length c s x hx w0.drew (HV.out.fr0 FD.out) (BP.out.fr FD.out (fun x => x)))
  have SK := Lib.hid (fun (X : World) (hX : Fr No w0 X) => (show (X.cell? ⟨w.heap.size, 0, none⟩ = some (.pointer (some ⟨b, 0, none⟩)) ∧ X.cell? ⟨b, 0, none⟩ = some (.slice A s.l.length c) ∧ (X.cell? ⟨w.heap.size + 1, 0, none⟩ = some (.int .i64 x.id) ∧ X.cell? ⟨w.heap.size + 1, 1, none⟩ = some (.int .i64 x.pr) ∧ X.cell? ⟨w.heap.size + 1, 2, none⟩ = some (.int .i64 x.since) ∧ X.cell? ⟨w.heap.size + 1, 3, none⟩ = some (.int .i64 x.seq))) from
    ⟨(BP.out.fr hX (fun x => x)).cell 0, (HV.out.fr0 hX).c0, blk4 (BT.out.fr hX (fun x => x))⟩))
  obtain ⟨s0, s1, s2, s3, s4, s5⟩ := SK.out w0 (Fr.refl _ _)
  have HW := Lib.hid hw0
  generalize idx s.ag s.l (mkI s.ag x) = r at *
  obtain ⟨x1, x2, x3, x4⟩ := x
  unfold valI at *
  dsimp only at *
  clear hw0 h hx
  go_enter Try.func48, Try.ntmps48
  go_wp2_with fail
  rw [← HW.out]
  go_region_held3 (fun X => X.cell? ⟨w.heap.size, 0, none⟩ = some (.pointer (some ⟨b, 0, none⟩)) ∧ X.cell? ⟨b, 0, none⟩ = some (.slice A s.l.length c) ∧ (X.cell? ⟨w.heap.size + 1, 0, none⟩ = some (.int .i64 x1) ∧ X.cell? ⟨w.heap.size + 1, 1, none⟩ = some (.int .i64 x2) ∧ X.cell? ⟨w.heap.size + 1, 2, none⟩ = some (.int .i64 x3) ∧ X.cell? ⟨w.heap.size + 1, 3, none⟩ = some (.int .i64 x4)))
    (first | exact SK.out _ (FD.out.then0 FA.out) | exact SK.out _ FD.out | go_keep)
    (first | (go_at_call 60; ((with_reducible refine HC.out.mono ?_); rintro e wA ⟨⟨f, rfl⟩, hf⟩); have FA := Lib.hid hf; clear hf))
  all_goals
    go_wp2
    go_ret
    exact ⟨rfl, F0.out.then0 (FD.out.then0 FA.out)⟩
end Go.Proofs.Ytcjcoigjedcieaa
