/- The contract of Add. -/
import Derived.Test.YtgkpmckbdagkcaaK
namespace Go.Proofs.Ytgkpmckbdagkcaa
open Go.RowKit Go.Wk

theorem addE_cases (s : LS) (x d : Int) : (d < 0 ∧ addE s x d = 2) ∨ (¬ d < 0 ∧ 4611686018427387904 < d ∧ addE s x d = 2) ∨ (¬ d < 0 ∧ ¬ 4611686018427387904 < d ∧ getB s x = true ∧ addE s x d = 6) ∨ (¬ d < 0 ∧ ¬ 4611686018427387904 < d ∧ getB s x = false ∧ addE s x d = 0) := by
  unfold addE
  by_cases h1 : d < 0
  · left; exact ⟨h1, by rw [if_pos (.inl h1)]⟩
  · by_cases h2 : 4611686018427387904 < d
    · right; left; exact ⟨h1, h2, by rw [if_pos (.inr h2)]⟩
    · cases h3 : getB s x
      · right; right; right; exact ⟨h1, h2, rfl, by rw [if_neg (by omega), if_neg (by simp)]⟩
      · right; right; left; exact ⟨h1, h2, rfl, by rw [if_neg (by omega), if_pos rfl]⟩

/-- The state with its number counted up. -/
theorem LateV.count {w w' : World} {b bm : Nat} {v : Value} {s : LS} (h : LateV w b bm v s) (hs : s.seq + 1 ≤ 10000) (hb : Blk w' b 50 #[.map (some bm), v, .int .i64 (s.seq + 1)]) (hf : Fr (· = b) w w') : LateV w' b bm v ⟨s.l, s.seq + 1⟩ :=
  ⟨hb, own_fr h.own hf (fun k hk => h.ne.2.1 k hk), (h.mp.fr hf h.ne.1).mono (by show s.seq.toNat ≤ (s.seq + 1).toNat; omega),
    ⟨h.ok.inc, h.ok.nodup, h.ok.fit, h.ok.ats, fun e he => by have := h.ok.sqs e he; show 1 ≤ e.sq ∧ e.sq ≤ s.seq + 1; omega, by have := h.ok.s0; show 0 ≤ s.seq + 1; omega, hs, by have := h.ok.len; show (s.l.length : Int) ≤ s.seq + 1; omega⟩⟩

/-- Behind the insertion: the store, and what the map's store will make. -/
theorem add_fin {w w1 w2 X wI : World} {b bm mb n c c' : Nat} {A A' : Option Addr} {s : LS} {x d : Int} (h : LateV w b bm (.slice A s.l.length c) s) (hs : s.seq + 1 ≤ 10000) (hx : fits x) (hd : 0 ≤ d ∧ d ≤ 4611686018427387904) (hmn : mkOf s.l x = none)
    (F1 : Fr (· = b) w w1) (B1 : Blk w1 b 50 #[.map (some bm), .slice A s.l.length c, .int .i64 (s.seq + 1)]) (F2 : Fr No w1 w2) (FX : Fr No w2 X) (FY : Fr (fun k => (Value.slice A n c).ownBlock = some k) X wI) (hn : n = s.l.length)
    (KO : wI.ownsRow 0 3 1 (.slice A' (n + 1) c') (n + 1) (insL (cells .i64 (ids s.l)) (idx s.l (d, s.seq + 1)) (.int .i64 x))) (KN : ∀ k, (Value.slice A' (n + 1) c').ownBlock = some k → (Value.slice A n c).ownBlock = some k ∨ X.heap.size ≤ k)
    (BM : Blk w2 mb 60 #[.int .i64 d, .int .i64 (s.seq + 1)]) (hmb : w.heap.size ≤ mb) :
    ((wI.setCell ⟨b, 1, none⟩ (.slice A' (n + 1) c')).cell? ⟨b, 0, none⟩ = some (.map (some bm)) ∧ (wI.setCell ⟨b, 1, none⟩ (.slice A' (n + 1) c')).cell? ⟨mb, 0, none⟩ = some (.int .i64 d) ∧ (wI.setCell ⟨b, 1, none⟩ (.slice A' (n + 1) c')).cell? ⟨mb, 1, none⟩ = some (.int .i64 (s.seq + 1))) ∧
    ∃ w5, (Instr.mapUpdate 48 (.map (some bm)) (.int .i64 x) (.agg #[.int .i64 d, .int .i64 (s.seq + 1)])).run Try.prog (wI.setCell ⟨b, 1, none⟩ (.slice A' (n + 1) c')).drew = .ok () w5 ∧ Turned w b bm (.slice A s.l.length c) ⟨insE s.l ⟨x, d, s.seq + 1⟩, s.seq + 1⟩ (.int .i64 0) (.returned (.int .i64 0)) w5 := by
  subst hn
  have hne := h.ne
  have hbl := h.blk.lt
  have hml := h.mp.lt
  have hrl := fun k hk => (h.own.lt k hk).2
  have hXs : w.heap.size ≤ X.heap.size := Nat.le_trans F1.size (Nat.le_trans F2.size FX.size)
  have hnr : ∀ k, (Value.slice A' (s.l.length + 1) c').ownBlock = some k → k ≠ b ∧ k ≠ bm := fun k hk => by
    rcases KN k hk with h1 | h1
    · exact ⟨hne.2.1 k h1, hne.2.2 k h1⟩
    · omega
  have Bi : Blk wI b 50 #[.map (some bm), .slice A s.l.length c, .int .i64 (s.seq + 1)] := ((B1.fr F2 (fun z => z)).fr FX (fun z => z)).fr FY (fun z => hne.2.1 b z rfl)
  have Mi : MapF wI Try.prog 3 bm s.seq.toNat (mkOf s.l) := (((h.mp.fr F1 hne.1).fr F2 (fun z => z)).fr FX (fun z => z)).fr FY (fun z => hne.2.2 bm z rfl)
  have BMi : Blk wI mb 60 #[.int .i64 d, .int .i64 (s.seq + 1)] := (BM.fr FX (fun z => z)).fr FY (fun z => by have := hrl mb z; omega)
  have FS := fr_cell1 b 1 (.slice A' (s.l.length + 1) c') wI
  have BMy := BMi.fr FS (by omega)
  have By := Bi.set_ 1 (.slice A' (s.l.length + 1) c')
  have My := Mi.fr FS hne.1
  have Oy := own_fr KO FS (fun k hk e => (hnr k hk).1 e)
  obtain ⟨w5, hrun, M5, hf5⟩ := (show MapF (wI.setCell ⟨b, 1, none⟩ (.slice A' (s.l.length + 1) c')).drew Try.prog 3 bm s.seq.toNat (mkOf s.l) from My).put Try.underlying3 Try.underlying48 (by have := h.ok.s1; unfold maxLen; omega) hx (d, s.seq + 1)
  refine ⟨⟨by rw [By.cell]; rfl, (blk2 BMy).1, (blk2 BMy).2⟩, w5, hrun, rfl, .slice A' (s.l.length + 1) c', ⟨?_, ?_, ?_, insE_ok h.ok hx hd hmn hs⟩, ?_, fun k hk => ?_⟩
  · have := (show Blk (wI.setCell ⟨b, 1, none⟩ (.slice A' (s.l.length + 1) c')).drew b 50 _ from By).fr hf5 (fun z => hne.1 z.symm)
    simpa using this
  · show World.ownsRow _ 0 3 1 _ (insE s.l ⟨x, d, s.seq + 1⟩).length (cells .i64 (ids (insE s.l ⟨x, d, s.seq + 1⟩)))
    rw [insE_len, ids_ins]
    exact own_fr (show (wI.setCell ⟨b, 1, none⟩ (.slice A' (s.l.length + 1) c')).drew.ownsRow 0 3 1 _ _ _ from Oy) hf5 (fun k hk e => (hnr k hk).2 e)
  · have e6 : mkOf (insE s.l ⟨x, d, s.seq + 1⟩) = fun z => if z = x then some (d, s.seq + 1) else mkOf s.l z := funext (fun z => mkOf_ins (e := ⟨x, d, s.seq + 1⟩) hmn z)
    show MapF _ _ _ _ (s.seq + 1).toNat (mkOf (insE s.l ⟨x, d, s.seq + 1⟩))
    rw [e6, show (s.seq + 1).toNat = s.seq.toNat + 1 by have := h.ok.s0; omega]
    exact M5
  · have T : ∀ b0 : Nat, b0 < w.heap.size → dom b bm (.slice A s.l.length c) b0 → dom b bm (.slice A s.l.length c) b0 := fun _ _ z => z
    have f1 : Fr (dom b bm (.slice A s.l.length c)) w X := (F1.mono (fun k hk => .inl hk)).then0 (F2.then0 FX)
    have f2 := f1.trans (FY.mono (T := dom b bm (.slice A s.l.length c)) (fun k hk => .inr (.inr hk))) T
    have f3 := f2.trans (FS.mono (T := dom b bm (.slice A s.l.length c)) (fun k hk => .inl hk)) T
    exact f3.drew.trans (hf5.mono (T := dom b bm (.slice A s.l.length c)) (fun k hk => .inr (.inl hk))) T
  · rcases KN k hk with h1 | h1
    · exact .inl h1
    · exact .inr (by omega)

set_option maxRecDepth 100000 in
set_option maxHeartbeats 8000000 in
theorem Add_any (b bm : Nat) (v : Value) (s : LS) (x d : Int) (hx : fits x) (hs : s.seq + 1 ≤ 10000) (w : World) (h : LateV w b bm v s) : Calls Try.prog 14 #[.pointer (some ⟨b, 0, none⟩), .int .i64 x, .int .i64 d] w fun e w' => Turned w b bm v (addS s x d) (.int .i64 (addE s x d)) e w' := by
  obtain ⟨A, c, rfl, _⟩ := h.form
  obtain ⟨c0, c1, c2⟩ := h.cells
  have HH := Lib.hid h
  have HV := Lib.hid (valid_any b bm _ s w h)
  have hl := h.mp.look_ok Try.underlying3 Try.underlying48 (zeroM w) hx
  have hgb : getB s x = (mkOf s.l x).isSome := rfl
  rw [← hgb] at hl
  have HAS := Lib.hid (show addS s x d = if addE s x d = 0 then ⟨insE s.l ⟨x, d, s.seq + 1⟩, s.seq + 1⟩ else s from rfl)
  rcases addE_cases s x d with ⟨h1, he⟩ | ⟨h1, h2, he⟩ | ⟨h1, h2, h3, he⟩ | ⟨h1, h2, h3, he⟩
  case inr.inr.inr =>
    have hmn : mkOf s.l x = none := by
      have : (mkOf s.l x).isSome = false := by rw [← hgb]; exact h3
      simpa using this
    rw [h3, hmn] at hl
    rw [if_pos he] at HAS
    rw [he, HAS.out]
    have HMN := Lib.hid hmn
    have hval : (none : Option (Int × Int)).getD (0, 0) = (0, 0) := rfl
    rw [hval] at hl
    unfold val2 at hl
    dsimp only at hl
    clear he hgb hmn hval h3
    have hs0 := h.ok.s0
    have hlen := h.len
    have hw1 : IntKind.i64.wrap (s.seq + 1) = s.seq + 1 := by simp only [IntKind.wrap_i64]; omega
    have z2 := h.blk.frozen 2
    obtain ⟨q, hq⟩ : ∃ q, s.seq + 1 = q := ⟨_, rfl⟩
    have HQ := Lib.hid hq
    obtain ⟨w1, hw1'⟩ : ∃ w1, w1 = (w.setCell ⟨b, 2, none⟩ (.int .i64 q)).alloc (.cells #[.int .i64 0, .int .i64 0] 60) := ⟨_, rfl⟩
    have F1 := Lib.hid (show Fr (· = b) w w1 by rw [hw1']; exact ((Fr.refl (fun k => k = b) w).setCell (p := ⟨b, 2, none⟩) (.inr rfl) _).alloc _)
    have B1 := Lib.hid (show Blk w1 b 50 #[.map (some bm), .slice A s.l.length c, .int .i64 q] by
      rw [hw1']
      have := (h.blk.set_ 2 (.int .i64 q)).alloc (.cells #[.int .i64 0, .int .i64 0] 60)
      simpa using this)
    obtain ⟨w2, hw2'⟩ : ∃ w2, w2 = w1.alloc (.cells #[.int .i64 d, .int .i64 q] 60) := ⟨_, rfl⟩
    have F2 := Lib.hid (show Fr No w1 w2 by rw [hw2']; exact (Fr.refl No w1).alloc _)
    have HV2 := Lib.hid ((h.count hs (by rw [hq]; exact B1.out) F1.out).fr F2.out (fun _ _ z => z))
    have hsz1 : w1.heap.size = w.heap.size + 1 := by rw [hw1']; simp
    have BM := Lib.hid (show Blk w2 w1.heap.size 60 #[.int .i64 d, .int .i64 q] by rw [hw2']; exact Blk.new _ _ _)
    rw [hsz1] at BM
    have HW := Lib.hid (show w2 = ((w.setCell ⟨b, 2, none⟩ (.int .i64 q)).alloc (.cells #[.int .i64 0, .int .i64 0] 60)).alloc (.cells #[.int .i64 d, .int .i64 q] 60) by rw [hw2', hw1'])
    have HOWN := Lib.hid (show ∀ X, Fr No w2 X → X.ownsRow 0 3 1 (.slice A s.l.length c) s.l.length (cells .i64 (ids s.l)) from fun X hX => own_fr HV2.out.own hX (fun _ _ z => z))
    have HRL := Lib.hid (show ∀ k, (Value.slice A s.l.length c).ownBlock = some k → k < w2.heap.size from fun k hk => (HV2.out.own.lt k hk).2)
    have HFIND := Lib.hid (fun X (hX : Fr No w2 X) => find_any b bm _ ⟨s.l, s.seq + 1⟩ (d, q) X (HV2.out.fr hX (fun _ _ z => z)))
    have HIX := Lib.hid (idx_le s.l (d, q))
    obtain ⟨i, hi⟩ : ∃ i, i = idx s.l (d, q) := ⟨_, rfl⟩
    rw [← hi] at HFIND HIX
    have HI := Lib.hid hi
    obtain ⟨n, hn⟩ : ∃ n, n = s.l.length := ⟨_, rfl⟩
    have HN := Lib.hid hn
    rw [← hn] at HIX hlen HOWN HRL c1
    have HINS := Lib.hid (fun X vb (hX : Fr No w2 X) (hv : Blk X vb 3 #[.int .i64 x]) (hge : w2.heap.size ≤ vb) => ins_any A n c i vb x (ids s.l) X (HOWN.out X hX) hv (fun k hk e => by have := HRL.out k hk; omega) HIX.out (by omega))
    have HB1 := Lib.hid B1.out
    rw [← hn] at HB1
    have SK := Lib.hid (fun (X : World) (hX : Fr No w2 X) => (show (X.cell? ⟨b, 1, none⟩ = some (.slice A n c) ∧ X.cell? ⟨w.heap.size + 1, 0, none⟩ = some (.int .i64 d) ∧ X.cell? ⟨w.heap.size + 1, 1, none⟩ = some (.int .i64 q) ∧ X.frozen? ⟨b, 1, none⟩ = false) from
      ⟨((HB1.out.fr F2.out (fun z => z)).fr hX (fun z => z)).cell 1, (blk2 (BM.out.fr hX (fun z => z))).1, (blk2 (BM.out.fr hX (fun z => z))).2, ((HB1.out.fr F2.out (fun z => z)).fr hX (fun z => z)).frozen 1⟩))
    have HNEB := Lib.hid (show ∀ k, (Value.slice A n c).ownBlock = some k → k ≠ b ∧ k ≠ bm ∧ k ≠ w.heap.size + 1 from fun k hk => by
      have hk' : (Value.slice A s.l.length c).ownBlock = some k := by rw [own_len A _ c n c]; exact hk
      have h1 := (h.own.lt k hk').2
      exact ⟨h.ne.2.1 k hk', h.ne.2.2 k hk', by omega⟩)
    have SI := Lib.hid (fun (X Y : World) (hX : Fr No w2 X) (hY : Fr (fun k => (Value.slice A n c).ownBlock = some k) X Y) => (show (Y.cell? ⟨b, 1, none⟩ = some (.slice A n c) ∧ Y.cell? ⟨w.heap.size + 1, 0, none⟩ = some (.int .i64 d) ∧ Y.cell? ⟨w.heap.size + 1, 1, none⟩ = some (.int .i64 q) ∧ Y.frozen? ⟨b, 1, none⟩ = false) from
      ⟨(((HB1.out.fr F2.out (fun z => z)).fr hX (fun z => z)).fr hY (fun z => (HNEB.out b z).1 rfl)).cell 1, (blk2 ((BM.out.fr hX (fun z => z)).fr hY (fun z => (HNEB.out _ z).2.2 rfl))).1, (blk2 ((BM.out.fr hX (fun z => z)).fr hY (fun z => (HNEB.out _ z).2.2 rfl))).2, (((HB1.out.fr F2.out (fun z => z)).fr hX (fun z => z)).fr hY (fun z => (HNEB.out b z).1 rfl)).frozen 1⟩))
    have hbs : b < w.heap.size := h.blk.lt
    have FD := Lib.hid (Fr.refl No w2).drew
    obtain ⟨s1, s2, s3, s4⟩ := SK.out w2 (Fr.refl _ _)
    unfold val2 at HFIND
    clear hw1' hw2' hsz1 hn hi h
    go_enter Try.func14, Try.ntmps14
    go_wp2_with fail
    refine HV.out.mono ?_
    rintro e w0 ⟨rfl, rfl⟩
    go_wp2_with fail
    rw [← HW.out]
    obtain ⟨s1', s2', s3', s4'⟩ := SK.out w2.drew FD.out
    have FDA := Lib.hid ((Fr.refl No w2).alloc (.cells #[.int .i64 x] 3)).drew
    have FDB := Lib.hid ((Fr.refl No w2).alloc (.cells #[.int .i64 x] 3))
    obtain ⟨s1x, s2x, s3x, s4x⟩ := SK.out _ FDA.out
    obtain ⟨s1y, s2y, s3y, s4y⟩ := SK.out _ FDB.out
    go_region_law (first
      | (go_simp; go_at_call 37; first
          | ((with_reducible refine (HFIND.out _ FDA.out).mono ?_); rintro e wF ⟨rfl, hf⟩; have FF := Lib.hid (FDA.out.then0 hf); have BV := Lib.hid ((Blk.new w2 3 #[.int .i64 x]).drew.fr hf (fun z => z)); clear hf; obtain ⟨q1, q2, q3, q4⟩ := SK.out _ FF.out)
          | ((with_reducible refine (HFIND.out _ FD.out).mono ?_); rintro e wF ⟨rfl, hf⟩; have FA := Lib.hid (FD.out.then0 hf); clear hf; obtain ⟨q1, q2, q3, q4⟩ := SK.out _ FA.out; obtain ⟨r1, r2, r3, r4⟩ := SK.out _ (FA.out.alloc (.cells #[.int .i64 x] 3))))
      | (go_simp; go_at_call 36; first
          | ((with_reducible refine (HINS.out _ _ FF.out BV.out (Nat.le_refl _)).mono ?_); rintro e wI ⟨A', c', rfl, ho', hf', hnew'⟩; have FX := FF; have FY := Lib.hid hf'; have KO := Lib.hid ho'; have KN := Lib.hid hnew'; clear ho' hf' hnew'; obtain ⟨t1, t2, t3, t4⟩ := SI.out _ _ FX.out FY.out)
          | ((with_reducible refine (HINS.out _ _ (FA.out.alloc (.cells #[.int .i64 x] 3)) (Blk.new _ _ _) FA.out.size).mono ?_); rintro e wI ⟨A', c', rfl, ho', hf', hnew'⟩; have FX := Lib.hid (FA.out.alloc (.cells #[.int .i64 x] 3)); have FY := Lib.hid hf'; have KO := Lib.hid ho'; have KN := Lib.hid hnew'; clear ho' hf' hnew'; obtain ⟨t1, t2, t3, t4⟩ := SI.out _ _ FX.out FY.out)))
    all_goals
      obtain ⟨⟨g0, g1, g2⟩, w5, hput, hT⟩ := add_fin (mb := w.heap.size + 1) HH.out hs hx ⟨by omega, by omega⟩ HMN.out F1.out (by rw [HQ.out]; exact B1.out) F2.out FX.out FY.out HN.out (by rw [HQ.out, ← HI.out]; exact KO.out) KN.out (by rw [HQ.out]; exact BM.out) (by omega)
      rw [HQ.out] at g2 hput
      have HT := Lib.hid hT
      clear hT
      go_wp2
      go_region
      all_goals
        go_wp2
        go_ret
        exact HT.out
  case inl =>
    rw [he, if_neg (by omega)] at HAS
    rw [he, HAS.out]
    clear h hl he hgb
    go_enter Try.func14, Try.ntmps14
    go_wp2_with fail
    refine HV.out.mono ?_
    rintro e w0 ⟨rfl, rfl⟩
    go_wp2
    go_ret
    exact ⟨rfl, _, HH.out, Fr.refl _ _, fun k hk => .inl hk⟩
  case inr.inl =>
    rw [he, if_neg (by omega)] at HAS
    rw [he, HAS.out]
    clear h hl he hgb
    go_enter Try.func14, Try.ntmps14
    go_wp2_with fail
    refine HV.out.mono ?_
    rintro e w0 ⟨rfl, rfl⟩
    go_wp2
    go_ret
    exact ⟨rfl, _, HH.out, Fr.refl _ _, fun k hk => .inl hk⟩
  case inr.inr.inl =>
    rw [he, if_neg (by omega)] at HAS
    rw [he, HAS.out]
    rw [h3] at hl
    generalize (mkOf s.l x).getD (0, 0) = p at *
    obtain ⟨p1, p2⟩ := p
    unfold val2 at hl
    dsimp only at hl
    clear h he hgb h3
    go_enter Try.func14, Try.ntmps14
    go_wp2_with fail
    refine HV.out.mono ?_
    rintro e w0 ⟨rfl, rfl⟩
    go_wp2
    go_ret
    exact ⟨rfl, _, HH.out.fr ((Fr.refl No _).alloc _) (fun _ _ z => z), ((Fr.refl No _).alloc _).mono (fun _ z => z.elim), fun k hk => .inl hk⟩
end Go.Proofs.Ytgkpmckbdagkcaa
