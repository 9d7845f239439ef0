/- The contract of Past. -/
import Derived.Test.YtgkpmckbdagkcaaJ
namespace Go.Proofs.Ytgkpmckbdagkcaa
open Go.RowKit Go.Wk

/-- What Past leaves. -/
def PastR (w : World) (b bm : Nat) (v : Value) (s : LS) (now : Int) (e : Ending) (w' : World) : Prop := ∃ G gc v', e = .returned (.slice G (pastN s now) gc) ∧ w'.ownsRow w.heap.size 3 1 (.slice G (pastN s now) gc) (pastN s now) (cells .i64 (pastG s now)) ∧ pastN s now ≤ gc ∧
  LateV w' b bm v' (pastS s now) ∧ v'.ownBlock = v.ownBlock ∧ Fr (dom b bm v) w w'

theorem pastN_le (s : LS) (now : Int) : pastN s now ≤ s.l.length := idx_le _ _
theorem reads_cut {w : World} {n k B : Nat} {A : Option Addr} {l : List Int} (h : Reads w B 1 A n (l.map (Value.int .i64))) (hk : k ≤ n) : Reads w B 1 A k ((l.take k).map (Value.int .i64)) := by
  have hl : l.length = n := by have := h.1; simpa using this
  refine ⟨by simp; omega, fun hp => ?_⟩
  obtain ⟨ad, hA, hb, hc⟩ := h.2 (by omega)
  refine ⟨ad, hA, hb, fun j u hu => hc j u ?_⟩
  rw [List.map_take, List.getElem?_take] at hu
  split at hu
  · exact hu
  · cases hu

set_option maxRecDepth 100000 in
set_option maxHeartbeats 8000000 in
theorem Past_any (b bm : Nat) (v : Value) (s : LS) (now : Int) (w : World) (h : LateV w b bm v s) : Calls Try.prog 23 #[.pointer (some ⟨b, 0, none⟩), .int .i64 now] w fun e w' => PastR w b bm v s now e w' := by
  obtain ⟨A, c, rfl, hnc⟩ := h.form
  obtain ⟨c0, c1, c2⟩ := h.cells
  have HH := Lib.hid h
  have HV := Lib.hid (valid_any b bm _ s w h)
  have HF := Lib.hid (find_any b bm _ s (now, 0) w h)
  have hpn := pastN_le s now
  have HPG := Lib.hid (show pastG s now = (ids s.l).take (pastN s now) by unfold pastG ids; rw [List.map_take])
  have HPS := Lib.hid (show pastS s now = ⟨s.l.drop (pastN s now), s.seq⟩ from rfl)
  have hlen := h.len
  unfold PastR
  have hidx : idx s.l (now, 0) = pastN s now := rfl
  rw [hidx] at HF
  obtain ⟨p, hp⟩ : ∃ p, p = pastN s now := ⟨_, rfl⟩
  rw [← hp] at HF hpn HPG HPS ⊢
  obtain ⟨n, hn⟩ : ∃ n, n = s.l.length := ⟨_, rfl⟩
  have HN := Lib.hid hn
  rw [← hn] at c1 hpn hnc hlen
  have hpc : p ≤ c := by omega
  clear h hp hn hidx
  unfold val2 at HF
  go_enter Try.func23, Try.ntmps23
  go_wp2_with fail
  refine HV.out.mono ?_
  rintro e w0 ⟨rfl, rfl⟩
  go_wp2_with fail
  refine HF.out.mono ?_
  rintro e w1 ⟨rfl, hf⟩
  have F1 := Lib.hid hf
  have HV1 := Lib.hid (HH.out.fr hf (fun _ _ z => z))
  have d0 := HV1.out.cells.1
  have d1 := HV1.out.cells.2.1
  rw [← HN.out] at d1
  have HC := Lib.hid (clone_any A p c ((ids s.l).take p) w1 (reads_cut (Reads.of_own HV1.out.own) (by rw [← HN.out]; exact hpn)) (by omega))
  clear hf c0 c1 c2
  go_wp2_with fail
  refine HC.out.mono ?_
  rintro e w2 ⟨G, gc, rfl, hog, hgc, hf⟩
  have F2 := Lib.hid (F1.out.then0 hf)
  have HG := Lib.hid (own_base hog F1.out.size)
  have HV2 := Lib.hid (HV1.out.fr hf (fun _ _ z => z))
  clear hf hog d0 d1
  have d0 := HV2.out.cells.1
  have d1 := HV2.out.cells.2.1
  rw [← HN.out] at d1
  have HD := Lib.hid (del_own A n c 0 p (ids s.l) w2 (by rw [HN.out]; exact HV2.out.own) (Nat.zero_le _) hpn (by omega))
  rw [show ((0 : Nat) : Int) = 0 from rfl, Nat.zero_add] at HD
  go_wp2_with fail
  refine HD.out.mono ?_
  rintro e w3 ⟨rfl, ho3, hf3⟩
  have hne := HV2.out.ne
  have hfS : ∀ k, (Value.slice A (n - p) c).ownBlock = some k → (Value.slice A s.l.length c).ownBlock = some k := fun k hk => by rw [own_len A _ c (n - p) c]; exact hk
  have hnew : ∀ k, (Value.slice G p gc).ownBlock = some k → ¬ dom b bm (.slice A s.l.length c) k := fun k hk hd => by
    have h1 := (HG.out.lt k hk).1
    have h2 := HH.out.lt hd
    omega
  have B3 := Lib.hid (HV2.out.blk.fr hf3 (fun hk => hne.2.1 b (hfS b hk) rfl))
  have M3 := Lib.hid (HV2.out.mp.fr hf3 (fun hk => hne.2.2 bm (hfS bm hk) rfl))
  have G3 := Lib.hid (own_fr HG.out hf3 (fun k hk e => hnew k hk (.inr (.inr (hfS k e)))))
  have e0 := B3.out.cell 0
  have e1 := B3.out.cell 1
  have z1 := B3.out.frozen 1
  simp only [List.getElem?_toArray, List.getElem?_cons_zero, List.getElem?_cons_succ] at e0 e1
  have F4 := Lib.hid (fr_cell1 b 1 (.slice A (n - p) c) w3)
  have B4 := Lib.hid (B3.out.set_ 1 (.slice A (n - p) c))
  have O4 := Lib.hid (own_fr ho3 F4.out (fun k hk e => hne.2.1 k (hfS k hk) e))
  have M4 := Lib.hid (M3.out.fr F4.out hne.1)
  have G4 := Lib.hid (own_fr G3.out F4.out (fun k hk e => hnew k hk (.inl e)))
  have FA := Lib.hid (show Fr (dom b bm (.slice A s.l.length c)) w (w3.setCell ⟨b, 1, none⟩ (.slice A (n - p) c)) from by
    refine Fr.trans (S := dom b bm (.slice A s.l.length c)) (T := dom b bm (.slice A s.l.length c)) ?_ (F4.out.mono (fun k hk => .inl hk)) (fun _ _ z => z)
    exact Fr.trans (S := dom b bm (.slice A s.l.length c)) (T := dom b bm (.slice A s.l.length c)) (F2.out.mono (fun _ z => z.elim)) (hf3.mono (fun k hk => .inr (.inr (hfS k hk)))) (fun _ _ z => z))
  have HNE := Lib.hid hne
  have HFS := Lib.hid hfS
  have HNEW := Lib.hid hnew
  have HD0 := Lib.hid (show MapF (w3.setCell ⟨b, 1, none⟩ (.slice A (n - p) c)) Try.prog 3 bm s.seq.toNat (mkOf (s.l.drop 0)) from M4.out)
  clear ho3 hf3 hne hfS hnew d0 d1
  go_wp2
  go_loopw [34] (fun i wr => ∃ k : Nat, i = .int .i64 k ∧ k ≤ p ∧ Hid (MapF wr Try.prog 3 bm s.seq.toNat (mkOf (s.l.drop k))) ∧ Hid (Blk wr b 50 #[.map (some bm), .slice A (n - p) c, .int .i64 s.seq]) ∧ Hid (wr.ownsRow 0 3 1 (.slice A (n - p) c) (n - p) (delL (cells .i64 (ids s.l)) 0 p)) ∧ Hid (wr.ownsRow w.heap.size 3 1 (.slice G p gc) p (cells .i64 ((ids s.l).take p))) ∧ Hid (Fr (dom b bm (.slice A s.l.length c)) w wr)) (fun i _ => p - (intOf i).toNat)
  case atStart => exact ⟨0, rfl, Nat.zero_le _, HD0, Lib.hid (by have := B4.out; simpa using this), O4, G4, FA⟩
  case round =>
    clear HD0 B4 O4 G4 FA M4 B3 M3 G3 F4 e0 e1 z1
    obtain ⟨k, rfl, hk, HM, HB, HO, HGO, HFR⟩ := hrel
    by_cases hlt : k < p
    · have hks : k < s.l.length := by rw [← HN.out]; omega
      obtain ⟨gg, q, he, _⟩ := own_some HGO.out (by omega)
      cases he
      have hgc0 : wr.cell? ⟨gg, k, none⟩ = some (.int .i64 (s.l.getD k LE.zero).id) := by
        obtain ⟨b', off, he, _, hc⟩ := (Reads.of_own HGO.out).int_at (kd := .i64) (xs := (ids s.l).take p) hlt
        cases he
        have e1 : ((ids s.l).take p).getD k 0 = (s.l.getD k LE.zero).id := by
          rw [← ids_get _ _ hks]
          simp [List.getD_eq_getElem?_getD, hlt]
        rw [e1] at hc
        simpa using hc
      have hfit : fits (s.l.getD k LE.zero).id := HH.out.ok.fit _ (getD_mem hks)
      have HMD := Lib.hid (fun z => mkOf_drop HH.out.ok hks z)
      have e0 := HB.out.cell 0
      simp only [List.getElem?_toArray, List.getElem?_cons_zero] at e0
      obtain ⟨w4, hdel, m4, hf4⟩ := HM.out.del Try.underlying3 Try.underlying48 hfit 0
      obtain ⟨x, hx⟩ : ∃ x, x = (s.l.getD k LE.zero).id := ⟨_, rfl⟩
      rw [← hx] at hgc0 hdel m4 HMD
      have M5 := Lib.hid (show MapF w4 Try.prog 3 bm s.seq.toNat (mkOf (s.l.drop (k + 1))) from by
        have e6 : mkOf (s.l.drop (k + 1)) = fun z => if z = x then none else mkOf (s.l.drop k) z := funext (fun z => HMD.out z)
        rw [e6]; exact m4)
      have B5 := Lib.hid (HB.out.fr hf4 (fun h => HNE.out.1 h.symm))
      have O5 := Lib.hid (own_fr HO.out hf4 (fun k hk e => HNE.out.2.2 k (HFS.out k hk) e))
      have G5 := Lib.hid (own_fr HGO.out hf4 (fun k hk e => HNEW.out k hk (.inr (.inl e))))
      have F5 := Lib.hid (Fr.trans (S := dom b bm (.slice A s.l.length c)) (T := dom b bm (.slice A s.l.length c)) HFR.out (hf4.mono (fun k hk => .inr (.inl hk))) (fun _ _ z => z))
      have hlt2 : (k : Int) < (p : Int) := by omega
      clear hx m4 hf4 hfit hks
      go_wp2_with fail
      go_roundw
      case rel => exact ⟨k + 1, by go_num, by omega, M5, B5, O5, G5, F5⟩
      case measure => simp [intOf]; omega
    · obtain rfl : k = p := by omega
      go_wp2
      go_ret
      refine ⟨G, gc, .slice A (n - k) c, rfl, by rw [HPG.out]; exact HGO.out, hgc, ⟨?_, ?_, ?_, ?_⟩, own_len _ _ _ _ _, HFR.out⟩
      · rw [HPS.out]; exact HB.out
      · rw [HPS.out]
        show World.ownsRow _ 0 3 1 _ (s.l.drop k).length (cells .i64 (ids (s.l.drop k)))
        have e5 : (s.l.drop k).length = n - k := by rw [List.length_drop, HN.out]
        have e6 : cells .i64 (ids (s.l.drop k)) = delL (cells .i64 (ids s.l)) 0 k := by
          have := ids_del s.l 0 k
          simpa using this
        rw [e5, e6]; exact HO.out
      · rw [HPS.out]; exact HM.out
      · rw [HPS.out]; exact sub_ok HH.out.ok (List.drop_sublist _ _)
end Go.Proofs.Ytgkpmckbdagkcaa
