/- The contract of Push. -/
import Derived.Test.YtcjcoigjedcieaaH
namespace Go.Proofs.Ytcjcoigjedcieaa
open Go.RowKit Go.Wk

/-- Behind the insertion: the store. -/
theorem push_fin {w w5 X wI : World} {b bm c c' : Nat} {A A' : Option Addr} {n : Nat} {s : QS} {x p u : Int} (h : QV w b bm (.slice A s.l.length c) s) (hs : s.added + 1 ≤ 1000000) (hx : fits x) (hp : 0 ≤ p ∧ p ≤ 100) (hu : 0 ≤ u ∧ u ≤ 253402300799) (hn : byId s.l x = none) (hl : ¬ s.size ≤ s.l.length)
    (F5 : Fr (fun k => k = b ∨ k = bm) w w5) (B5 : Blk w5 b 65 #[.slice A s.l.length c, .map (some bm), .int .i64 s.size, .int .i64 s.ag, .int .i64 (s.added + 1)])
    (M5 : MapF w5 Try.prog 3 bm (s.added.toNat + 1) (fun z => if z = x then some ⟨x, p, u, s.added + 1⟩ else byId s.l z)) (FX : Fr No w5 X) (FY : Fr (fun k => (Value.slice A n c).ownBlock = some k) X wI) (hN : n = s.l.length)
    (KO : wI.ownsRow 0 31 4 (.slice A' (n + 1) c') (n + 1) (icells (insI s.l (idx s.ag s.l (mkI s.ag ⟨x, p, u, s.added + 1⟩)) ⟨x, p, u, s.added + 1⟩)))
    (KN : ∀ k, (Value.slice A' (n + 1) c').ownBlock = some k → (Value.slice A n c).ownBlock = some k ∨ X.heap.size ≤ k) :
    Turned w b bm (.slice A s.l.length c) (s.add x p u) (.int .i64 0) (.returned (.int .i64 0)) (wI.setCell ⟨b, 0, none⟩ (.slice A' (n + 1) c')) := by
  subst hN
  have hne := h.ne
  have hbl := h.blk.lt
  have hml := h.mp.lt
  have hXs : w.heap.size ≤ X.heap.size := Nat.le_trans F5.size FX.size
  have hnr : ∀ k, (Value.slice A' (s.l.length + 1) c').ownBlock = some k → k ≠ b ∧ k ≠ bm := fun k hk => by
    rcases KN k hk with h1 | h1
    · exact ⟨hne.2.1 k h1, hne.2.2 k h1⟩
    · omega
  have Bi := (B5.fr FX (fun z => z)).fr FY (fun z => hne.2.1 b z rfl)
  have Mi := (M5.fr FX (fun z => z)).fr FY (fun z => hne.2.2 bm z rfl)
  have FS := fr_cell1 b 0 (.slice A' (s.l.length + 1) c') wI
  have By := Bi.set_ 0 (.slice A' (s.l.length + 1) c')
  have My := Mi.fr FS hne.1
  have Oy := own_fr KO FS (fun k hk e => (hnr k hk).1 e)
  refine ⟨rfl, .slice A' (s.l.length + 1) c', ⟨?_, ?_, ?_, add_ok h.ok hx hp hu hn hl hs⟩, ?_, fun k hk => ?_⟩
  · simpa [QS.add] using By
  · show World.ownsRow _ 0 31 4 _ (insQ s.ag s.l ⟨x, p, u, s.added + 1⟩).length (icells (insQ s.ag s.l ⟨x, p, u, s.added + 1⟩))
    rw [insQ_len]
    exact Oy
  · have e6 : byId (insQ s.ag s.l ⟨x, p, u, s.added + 1⟩) = fun z => if z = x then some ⟨x, p, u, s.added + 1⟩ else byId s.l z := funext (fun z => byId_ins (e := ⟨x, p, u, s.added + 1⟩) hn z)
    show MapF _ _ _ _ (s.added + 1).toNat (byId (insQ s.ag s.l ⟨x, p, u, s.added + 1⟩))
    rw [e6, show (s.added + 1).toNat = s.added.toNat + 1 by have := h.ok.a0; omega]
    exact My
  · have T : ∀ b0 : Nat, b0 < w.heap.size → dom b bm (.slice A s.l.length c) b0 → dom b bm (.slice A s.l.length c) b0 := fun _ _ z => z
    have f1 : Fr (dom b bm (.slice A s.l.length c)) w X := (F5.mono (fun k hk => hk.elim .inl (fun h' => .inr (.inl h')))).then0 FX
    have f2 := f1.trans (FY.mono (T := dom b bm (.slice A s.l.length c)) (fun k hk => .inr (.inr hk))) T
    exact f2.trans (FS.mono (T := dom b bm (.slice A s.l.length c)) (fun k hk => .inl hk)) T
  · rcases KN k hk with h1 | h1
    · exact .inl h1
    · exact .inr (by omega)

set_option maxRecDepth 100000 in
set_option maxHeartbeats 8000000 in
theorem Push_ok (b bm : Nat) (v : Value) (s : QS) (x p u : Int) (hx : fits x) (hs : s.added + 1 ≤ 1000000) (w : World) (h : QV w b bm v s) (h1 : ¬ p < 0) (h2 : ¬ 100 < p) (h3 : ¬ u < 0) (h4 : ¬ 253402300799 < u) (h5 : hasB s x = false) (h6 : ¬ s.size ≤ s.l.length) :
    Calls Try.prog 19 #[.pointer (some ⟨b, 0, none⟩), .int .i64 x, .int .i64 p, .int .i64 u] w fun e w' => Turned w b bm v (s.add x p u) (.int .i64 0) e w' := by
  obtain ⟨A, c, rfl, _⟩ := h.form
  have HH := Lib.hid h
  have HV := Lib.hid (made_any b bm _ s w h)
  have HHAS := Lib.hid (Has_any b bm _ s x hx w h)
  rw [h5] at HHAS
  have hbn : byId s.l x = none := by
    have : (byId s.l x).isSome = false := h5
    simpa using this
  have HBN := Lib.hid hbn
  have b1 : decide (p < 0) = false := by simp; omega
  have b2 : decide (100 < p) = false := by simp; omega
  have b3 : decide (u < 0) = false := by simp; omega
  have b4 : decide (253402300799 < u) = false := by simp; omega
  have b5 : decide (s.size ≤ (s.l.length : Int)) = false := by simp; omega
  have HL := Lib.hid h6
  have hpp : 0 ≤ p ∧ p ≤ 100 := ⟨by omega, by omega⟩
  have huu : 0 ≤ u ∧ u ≤ 253402300799 := ⟨by omega, by omega⟩
  have HPP := Lib.hid hpp
  have HUU := Lib.hid huu
  have ha0 := h.ok.a0
  have hlen := h.ok.n
  have hw1 : IntKind.i64.wrap (s.added + 1) = s.added + 1 := by simp only [IntKind.wrap_i64]; omega
  obtain ⟨q, hq⟩ : ∃ q, s.added + 1 = q := ⟨_, rfl⟩
  have HQ := Lib.hid hq
  have HXO := Lib.hid (show (⟨x, p, u, q⟩ : IV).Ok from ⟨hx, hpp, huu⟩)
  have HS := Lib.hid hs
  have HX := Lib.hid hx
  clear h h1 h2 h3 h4 h5 h6 hbn hpp huu
  go_enter Try.func19, Try.ntmps19
  go_wp2_with fail
  refine HV.out.mono ?_
  rintro e w0 ⟨rfl, rfl⟩
  go_wp2_with fail
  refine HHAS.out.mono ?_
  rintro e w1 ⟨rfl, hf⟩
  have F1 := Lib.hid hf
  have Q1 := Lib.hid (HH.out.fr0 hf)
  obtain ⟨c0, c1, c2, c3, c4⟩ := Q1.out.cells
  clear hf
  go_wp2
  go_quiet (fail)
  have Q2 := Lib.hid (Q1.out.fr0 ((Fr.refl No w1).drewN nq))
  have F2 := Lib.hid (F1.out.drewN nq)
  clear c0 c1 c2 c3 c4 Q1 F1
  generalize w1.drewN nq = wq at *
  obtain ⟨c0, c1, c2, c3, c4⟩ := Q2.out.cells
  have z4 := Q2.out.blk.frozen 4
  have z0 := Q2.out.blk.frozen 0
  obtain ⟨w3, hw3⟩ : ∃ w3, w3 = (wq.setCell ⟨b, 4, none⟩ (.int .i64 q)).alloc (.cells #[.int .i64 x, .int .i64 p, .int .i64 u, .int .i64 q] 31) := ⟨_, rfl⟩
  have F3 := Lib.hid (show Fr (· = b) wq w3 by rw [hw3]; exact (fr_cell1 b 4 _ wq).alloc _)
  have B3 := Lib.hid (show Blk w3 b 65 #[.slice A s.l.length c, .map (some bm), .int .i64 s.size, .int .i64 s.ag, .int .i64 q] by
    rw [hw3]
    have := (Q2.out.blk.set_ 4 (.int .i64 q)).alloc (.cells #[.int .i64 x, .int .i64 p, .int .i64 u, .int .i64 q] 31)
    simpa using this)
  have X3 := Lib.hid (show Blk w3 wq.heap.size 31 #[.int .i64 x, .int .i64 p, .int .i64 u, .int .i64 q] by
    rw [hw3]
    have := Blk.new (wq.setCell ⟨b, 4, none⟩ (.int .i64 q)) 31 #[.int .i64 x, .int .i64 p, .int .i64 u, .int .i64 q]
    have e : (wq.setCell ⟨b, 4, none⟩ (.int .i64 q)).heap.size = wq.heap.size := by simp [World.setCell]
    rwa [e] at this)
  have HNE := Lib.hid HH.out.ne
  have M3 := Lib.hid (Q2.out.mp.fr F3.out HNE.out.1)
  have O3 := Lib.hid (own_fr Q2.out.own F3.out (fun k hk e => HNE.out.2.1 k hk e))
  have HW := Lib.hid hw3
  have hml := Q2.out.mp.lt
  have hbl := Q2.out.blk.lt
  obtain ⟨w5, hput, m5, hf5⟩ := (M3.out.fr (Fr.refl No w3).drew (fun z => z)).put Try.underlying3 Try.underlying63 (by have := HH.out.ok.a1; unfold maxLen; omega) HX.out ⟨x, p, u, q⟩
  have F5 := Lib.hid (show Fr (· = bm) w3 w5 from ((Fr.refl (· = bm) w3).drew).trans hf5 (fun _ _ z => z))
  have M5 := Lib.hid m5
  have B5 := Lib.hid (B3.out.fr F5.out (fun e => HNE.out.1 e.symm))
  have X5 := Lib.hid (X3.out.fr F5.out (fun e => by omega))
  have O5 := Lib.hid (own_fr O3.out F5.out (fun k hk e => HNE.out.2.2 k hk e))
  have P5 := Lib.hid (show QP w5 b (.slice A s.l.length c) s from ⟨B5.out.cell 0, B5.out.cell 3, O5.out, B5.out.lt, HH.out.ok⟩)
  have G5 := Lib.hid (show Fr (fun k => k = b ∨ k = bm) w w5 from
    ((F2.out.mono (T := fun k => k = b ∨ k = bm) (fun _ z => z.elim)).trans (F3.out.mono (T := fun k => k = b ∨ k = bm) (fun _ z => .inl z)) (fun _ _ z => z)).trans (F5.out.mono (T := fun k => k = b ∨ k = bm) (fun _ z => .inr z)) (fun _ _ z => z))
  have d0 := B3.out.cell 1
  simp only [List.getElem?_toArray, List.getElem?_cons_zero, List.getElem?_cons_succ] at d0
  obtain ⟨d1, d2, d3, d4⟩ := blk4 (x := ⟨x, p, u, q⟩) X3.out
  dsimp only at d1 d2 d3 d4
  unfold valI at hput
  dsimp only at hput
  have hrl := fun k hk => (O5.out.lt k hk).2
  have HRL := Lib.hid hrl
  clear hw3 m5 hf5 hrl
  go_wp2_with fail
  rw [← HW.out]
  clear c0 c1 c2 c3 c4
  go_region
  all_goals
    clear hput d0 d1 d2 d3 d4
    have HFIND := Lib.hid (fun X (hX : Fr No w5 X) => place_any b _ s ⟨x, p, u, q⟩ HXO.out X (P5.out.fr0 hX))
    have HIX := Lib.hid (idx_le s.ag s.l (mkI s.ag ⟨x, p, u, q⟩))
    obtain ⟨i, hi⟩ : ∃ i, i = idx s.ag s.l (mkI s.ag ⟨x, p, u, q⟩) := ⟨_, rfl⟩
    rw [← hi] at HFIND HIX
    have HI := Lib.hid hi
    obtain ⟨n, hn⟩ : ∃ n, n = s.l.length := ⟨_, rfl⟩
    have HN := Lib.hid hn
    rw [← hn] at HIX hlen O5 HRL B5
    have HINS := Lib.hid (fun X vb (hX : Fr No w5 X) (hv : Blk X vb 31 #[.int .i64 x, .int .i64 p, .int .i64 u, .int .i64 q]) (hge : w5.heap.size ≤ vb) => ins_any A n c i vb ⟨x, p, u, q⟩ s.l X (own_fr O5.out hX (fun _ _ z => z)) hv (fun k hk e => by have := HRL.out k hk; omega) HIX.out (by omega))
    have SK := Lib.hid (fun (X : World) (hX : Fr No w5 X) => (show (X.cell? ⟨b, 0, none⟩ = some (.slice A n c) ∧ X.frozen? ⟨b, 0, none⟩ = false) ∧ (X.cell? ⟨wq.heap.size, 0, none⟩ = some (.int .i64 x) ∧ X.cell? ⟨wq.heap.size, 1, none⟩ = some (.int .i64 p) ∧ X.cell? ⟨wq.heap.size, 2, none⟩ = some (.int .i64 u) ∧ X.cell? ⟨wq.heap.size, 3, none⟩ = some (.int .i64 q)) from
      ⟨⟨(B5.out.fr hX (fun z => z)).cell 0, (B5.out.fr hX (fun z => z)).frozen 0⟩, blk4 (x := ⟨x, p, u, q⟩) (X5.out.fr hX (fun z => z))⟩))
    have HNEB := Lib.hid (show ∀ k, (Value.slice A n c).ownBlock = some k → k ≠ b from fun k hk => by
      have hk' : (Value.slice A s.l.length c).ownBlock = some k := by rw [own_len A _ c n c]; exact hk
      exact HNE.out.2.1 k hk')
    have SI := Lib.hid (fun (X Y : World) (hX : Fr No w5 X) (hY : Fr (fun k => (Value.slice A n c).ownBlock = some k) X Y) => (show (Y.cell? ⟨b, 0, none⟩ = some (.slice A n c) ∧ Y.frozen? ⟨b, 0, none⟩ = false) from
      ⟨((B5.out.fr hX (fun z => z)).fr hY (fun z => HNEB.out b z rfl)).cell 0, ((B5.out.fr hX (fun z => z)).fr hY (fun z => HNEB.out b z rfl)).frozen 0⟩))
    have FD := Lib.hid (Fr.refl No w5).drew
    obtain ⟨⟨s1, s2⟩, s3, s4, s5, s6⟩ := SK.out w5 (Fr.refl _ _)
    have hb5 := B5.out.lt
    unfold valI at HFIND
    dsimp only at HFIND
    clear hi hn
    go_wp2_with fail
    obtain ⟨⟨s1', s2'⟩, s3', s4', s5', s6'⟩ := SK.out w5.drew FD.out
    have FDA := Lib.hid ((Fr.refl No w5).alloc (.cells #[.int .i64 x, .int .i64 p, .int .i64 u, .int .i64 q] 31)).drew
    have FDB := Lib.hid ((Fr.refl No w5).alloc (.cells #[.int .i64 x, .int .i64 p, .int .i64 u, .int .i64 q] 31))
    obtain ⟨⟨s1x, s2x⟩, s3x, s4x, s5x, s6x⟩ := SK.out _ FDA.out
    obtain ⟨⟨s1y, s2y⟩, s3y, s4y, s5y, s6y⟩ := SK.out _ FDB.out
    go_region_law (first
      | (go_simp; go_at_call 48; first
          | ((with_reducible refine (HFIND.out _ FDA.out).mono ?_); rintro e wF ⟨rfl, hf⟩; have FF := Lib.hid (FDA.out.then0 hf); have BV := Lib.hid ((Blk.new w5 31 #[.int .i64 x, .int .i64 p, .int .i64 u, .int .i64 q]).drew.fr hf (fun z => z)); clear hf; obtain ⟨⟨q1, q2⟩, q3, q4, q5, q6⟩ := SK.out _ FF.out)
          | ((with_reducible refine (HFIND.out _ FD.out).mono ?_); rintro e wF ⟨rfl, hf⟩; have FA := Lib.hid (FD.out.then0 hf); clear hf; obtain ⟨⟨q1, q2⟩, q3, q4, q5, q6⟩ := SK.out _ FA.out; obtain ⟨⟨r1, r2⟩, r3, r4, r5, r6⟩ := SK.out _ (FA.out.alloc (.cells #[.int .i64 x, .int .i64 p, .int .i64 u, .int .i64 q] 31))))
      | (go_simp; go_at_call 47; first
          | ((with_reducible refine (HINS.out _ _ FF.out BV.out (Nat.le_refl _)).mono ?_); rintro e wI ⟨A', c', rfl, ho', hf', hnew'⟩; have FX := FF; have FY := Lib.hid hf'; have KO := Lib.hid ho'; have KN := Lib.hid hnew'; clear ho' hf' hnew'; obtain ⟨t1, t2⟩ := SI.out _ _ FX.out FY.out)
          | ((with_reducible refine (HINS.out _ _ (FA.out.alloc (.cells #[.int .i64 x, .int .i64 p, .int .i64 u, .int .i64 q] 31)) (Blk.new _ _ _) FA.out.size).mono ?_); rintro e wI ⟨A', c', rfl, ho', hf', hnew'⟩; have FX := Lib.hid (FA.out.alloc (.cells #[.int .i64 x, .int .i64 p, .int .i64 u, .int .i64 q] 31)); have FY := Lib.hid hf'; have KO := Lib.hid ho'; have KN := Lib.hid hnew'; clear ho' hf' hnew'; obtain ⟨t1, t2⟩ := SI.out _ _ FX.out FY.out)))
    all_goals
      have HT := Lib.hid (push_fin HH.out HS.out HX.out HPP.out HUU.out HBN.out (by have := HL.out; omega) G5.out (by rw [HQ.out, ← HN.out]; exact B5.out) (by rw [HQ.out]; exact M5.out) FX.out FY.out HN.out (by rw [HQ.out, ← HI.out]; exact KO.out) KN.out)
      go_wp2
      go_ret
      exact HT.out
end Go.Proofs.Ytcjcoigjedcieaa
