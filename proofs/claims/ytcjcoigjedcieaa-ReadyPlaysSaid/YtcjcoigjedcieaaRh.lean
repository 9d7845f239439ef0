/- The document's Head, Pick. -/
import Derived.Test.YtcjcoigjedcieaaRg
import Derived.Test.YtcjcoigjedcieaaKp
namespace Go.Proofs.Ytcjcoigjedcieaa
open Go.RowKit Go.Wk

section
variable {s t : QS}
theorem Rel.oks (h : Rel s t) : ∀ x ∈ t.l, x.Ok := fun x hx => h.ok.fit x (h.mem.1 hx)
theorem Rel.agb (h : Rel s t) : 1 ≤ t.ag ∧ t.ag ≤ 68719476736 := by rw [h.ag]; exact h.ok.ag1
theorem rItems_rel (h : Rel s t) (r : Nat) (v : Value) (w : World) (hv : RV w r v t) : Calls Try.prog 39 #[.pointer (some ⟨r, 0, none⟩)] w fun e w' => Cloned w s.l.length s.l e w' := by
  have := rItems_any r v t h.oks h.up h.agb w hv
  rw [← h.l, h.len] at this
  exact this
end
theorem rHead_rel {s t : QS} (h : Rel s t) (r : Nat) (v : Value) (w : World) (hv : RV w r v t) : Calls Try.prog 55 #[.pointer (some ⟨r, 0, none⟩)] w fun e w' => e = .returned (.tuple #[.int .i64 (headV s), .bool (headB s)]) ∧ Fr No w w' := by
  have HI := Lib.hid (rItems_rel h r v w hv)
  have hn := h.ok.n
  by_cases hl : s.l.length = 0
  · have hnil : s.l = [] := List.eq_nil_of_length_eq_zero hl
    rw [show headV s = 0 by unfold headV; rw [if_pos hnil], show headB s = false by unfold headB; rw [hnil]; rfl]
    rw [hl] at HI
    clear hnil hl h hv
    go_enter Try.func55, Try.ntmps55
    go_wp2_with fail
    refine HI.out.mono ?_
    rintro e w1 ⟨G, c, rfl, _, _, hf⟩
    go_wp2
    go_ret2
    exact ⟨rfl, hf⟩
  · have hh := head_of (s := s) (by omega)
    rw [hh.1, hh.2]
    have hlb : ((s.l.length : Int) == 0) = false := by rw [beq_eq_false_iff_ne]; omega
    obtain ⟨x, hx⟩ : ∃ x, x = (s.l.getD 0 IV.zero).id := ⟨_, rfl⟩
    rw [← hx]
    have HX := Lib.hid hx
    clear hh h hv hx
    go_enter Try.func55, Try.ntmps55
    go_wp2_with fail
    refine HI.out.mono ?_
    rintro e w1 ⟨G, c, rfl, ho, hc, hf⟩
    have hpos : 0 < s.l.length := by omega
    obtain ⟨g, q, he, _⟩ := own_some ho hpos
    cases he
    obtain ⟨g', off, he, _, _, d0, _, _, _⟩ := reads_item (Reads.of_own ho) (i := 0) hpos
    cases he
    simp only [Nat.zero_mul, Nat.add_zero] at d0
    rw [← HX.out] at d0
    have hpos2 : (0 : Int) < (s.l.length : Int) := by omega
    have HF := Lib.hid hf
    clear ho hl hf
    go_wp2
    go_ret2
    exact ⟨rfl, HF.out⟩

/-- What the document's Pick leaves. -/
def rpickS (p : Int → Bool) (s t : QS) : QS := if pickN p s.l < s.l.length then remS t (s.l.getD (pickN p s.l) IV.zero).id else t
theorem Rel.pick {s t : QS} (h : Rel s t) (p : Int → Bool) : Rel (pickS p s) (rpickS p s t) := by
  unfold pickS rpickS
  by_cases hl : pickN p s.l < s.l.length
  · rw [if_pos hl, if_pos hl, ← remS_at h.ok hl]
    exact h.rem _
  · rw [if_neg hl, if_neg hl]; exact h
def RPicked (w : World) (r : Nat) (v : Value) (p : Int → Bool) (s t : QS) (e : Ending) (w' : World) : Prop :=
  ∃ GA ca v', e = .returned (.tuple #[.int .i64 (pickV p s), .bool (pickB p s), .slice GA (min (pickN p s.l + 1) s.l.length) ca]) ∧
    w'.ownsRow w.heap.size 3 1 (.slice GA (min (pickN p s.l + 1) s.l.length) ca) (min (pickN p s.l + 1) s.l.length) (cells .i64 ((ids s.l).take (min (pickN p s.l + 1) s.l.length))) ∧
    RV w' r v' (rpickS p s t) ∧ Fr (domR r v) w w' ∧ ∀ k, v'.ownBlock = some k → v.ownBlock = some k ∨ w.heap.size ≤ k

set_option maxRecDepth 100000 in
set_option maxHeartbeats 8000000 in
theorem rPick_rel {s t : QS} (h : Rel s t) (p : Int → Bool) (la : List Int) (hla : ∀ e ∈ s.l, p e.id = true ↔ e.id ∈ la) (A : Option Addr) (m c : Nat) (r : Nat) (v : Value) (w : World) (hv : RV w r v t) (ha : Reads w w.heap.size 1 A m (la.map (Value.int .i64))) (hm : m ≤ 1024) :
    Calls Try.prog 41 #[.pointer (some ⟨r, 0, none⟩), .slice A m c] w (RPicked w r v p s t) := by
  obtain ⟨i0, hi, hz0, hz1, hz2⟩ : ∃ i, Try.prog.info? 3 = some i ∧ i.zero = some (.int .i64 0) ∧ i.size = 1 ∧ i.bytes = 8 := ⟨_, rfl, rfl, rfl, rfl⟩
  have HI := Lib.hid (rItems_rel h r v w hv)
  have HV := Lib.hid hv
  have HA := Lib.hid ha
  have HAL := Lib.hid ha.length_ints
  have HLA := Lib.hid hla
  have HH := Lib.hid h
  have hn := h.ok.n
  have HN := Lib.hid (fun i h0 h1 h2 => pickN_eq (p := p) (l := s.l) (i := i) h0 h1 h2)
  obtain ⟨n, hnn⟩ : ∃ n, n = s.l.length := ⟨_, rfl⟩
  have HNN := Lib.hid hnn
  rw [← hnn] at HI hn
  have HDOM := Lib.hid (fun k (hk : domR r v k) => hv.lt hk)
  clear h hv ha hla hnn
  go_enter Try.func41, Try.ntmps41
  go_wp2_with fail
  refine HI.out.mono ?_
  rintro e w1 ⟨G, gc, rfl, ho, hgc, hf⟩
  have RI := Lib.hid (Reads.of_own ho)
  have ROW := Lib.hid ho
  have F1 := Lib.hid hf
  clear ho hf
  go_wp2
  go_loopw [7, 9] (fun av iv wr => ∃ (i : Nat) (GA : Option Addr) (ca : Nat), av = .slice GA i ca ∧ iv = .int .i64 i ∧ i ≤ n ∧ Hid (Fr No w1 wr) ∧ Hid (wr.ownsRow w1.heap.size 3 1 (.slice GA i ca) i (cells .i64 ((ids s.l).take i))) ∧ Hid (∀ j, j < i → p (s.l.getD j IV.zero).id = false)) (fun _ iv _ => n - (intOf iv).toNat)
  case atStart => exact ⟨0, none, 0, rfl, rfl, Nat.zero_le _, Lib.hid (Fr.refl _ _), Lib.hid (own_nil _ _ _ _), Lib.hid (fun j hj => by omega)⟩
  case round =>
    obtain ⟨i, GA, ca, rfl, rfl, hin, HFW, HO, HP⟩ := hrel
    obtain ⟨wo, rfl⟩ : ∃ wo : World, wo = wr := ⟨_, rfl⟩
    by_cases hlt : i < n
    · have hil : i < s.l.length := by rw [← HNN.out]; exact hlt
      obtain ⟨g, off, rfl, hg, _, d0, d1, d2, d3⟩ := reads_item (RI.out.fr0 HFW.out) hlt
      obtain ⟨x, hx⟩ : ∃ x, x = (s.l.getD i IV.zero).id := ⟨_, rfl⟩
      rw [← hx] at d0
      have HX := Lib.hid hx
      have HTK := Lib.hid (ids_take_succ s.l hil)
      rw [← hx] at HTK
      have HMEM := Lib.hid (HLA.out _ (getD_mem' hil))
      rw [← hx] at HMEM
      have hlt2 : (i : Int) < (n : Int) := by omega
      clear hx d1 d2 d3 hil
      go_wp2_with (at_builtin; refine wpList_push1 (wr := wo) rfl (.tmp 19) (.tmp 25) 49 rfl w1.heap.size 3 i0 (.int .i64 0) 8 Try.underlying49 hi hz0 hz1 hz2 rfl (by omega) (.int .i64 x) 3 rfl (.slice GA i ca) i (cells .i64 ((ids s.l).take i)) rfl rfl HO.out (by omega) HFW.out.size ?_)
      intro v' w2 hown2 hf2
      rw [← cells_snoc, ← HTK.out] at hown2
      obtain ⟨GA2, ca2, rfl⟩ := own_form' hown2
      have F2 := Lib.hid (show Fr No w1 w2 from HFW.out.ownS hf2 (fun q hq => (HO.out.lt q hq).1))
      have O2 := Lib.hid hown2
      have V2 := Lib.hid (HV.out.fr0 (F1.out.then0 F2.out))
      have A2 := Lib.hid (HA.out.fr0 (F1.out.then0 F2.out))
      obtain ⟨g', off', he, _, _, e0, _, _, _⟩ := reads_item (RI.out.fr0 F2.out) hlt
      cases he
      rw [← HX.out] at e0
      clear hown2 hf2 d0 HFW HO
      go_wp2
      go_loopw [10] (fun kv wr => ∃ k q : Nat, kv = .int .i64 k ∧ k ≤ m ∧ Hid (wr = w2.drewN q) ∧ Hid (∀ j, j < k → la.getD j 0 ≠ x)) (fun kv _ => m - (intOf kv).toNat)
      case atStart => exact ⟨0, 0, rfl, Nat.zero_le _, Lib.hid rfl, Lib.hid (fun j hj => by omega)⟩
      case round =>
        obtain ⟨k, q, rfl, hkm, HW, HNE⟩ := hrel
        have FQ := Lib.hid (show Fr No w2 wr by rw [HW.out]; exact (Fr.refl No w2).drewN q)
        have e0r := (FQ.out.cell (p := ⟨g, off + i * 4, none⟩) (World.block_lt_of_cell? _ _ e0) (fun z => z)).trans e0
        by_cases hlk : k < m
        · obtain ⟨ga, oa, rfl, hga, a0⟩ := (A2.out.fr0 FQ.out).int_at hlk
          have hlk2 : (k : Int) < (m : Int) := by omega
          obtain ⟨z, hz⟩ : ∃ z, z = la.getD k 0 := ⟨_, rfl⟩
          rw [← hz] at a0
          have HZ := Lib.hid hz
          clear hz
          by_cases hzx : z = x
          · have hb : (z == x) = true := by simpa using hzx
            have hpx : p x = true := HMEM.out.2 (by
              rw [← hzx, HZ.out]
              have : k < la.length := by rw [HAL.out]; exact hlk
              simp [this])
            have HNK := Lib.hid (HN.out i (by rw [← HNN.out]; exact hin) HP.out (fun _ => by rw [← HX.out]; exact hpx))
            have hil : i < s.l.length := by rw [← HNN.out]; exact hlt
            have HM := Lib.hid (show min (pickN p s.l + 1) s.l.length = i + 1 by rw [HNK.out]; omega)
            have HR := Lib.hid (show pickV p s = x ∧ pickB p s = true ∧ rpickS p s t = remS t x from by
              unfold pickV pickB rpickS
              rw [HNK.out, if_pos hil, if_pos hil, ← HX.out]
              exact ⟨rfl, by simpa using hil, rfl⟩)
            have RM := Lib.hid (fun X hX => rRemove_any r v t x HH.out.nodup X hX)
            rw [remE_some (by rw [HH.out.has, HX.out]; exact hasB_of (getD_mem' hil))] at RM
            clear hpx hil hzx
            go_wp2
            go_quiet (fail)
            go_wp2_with fail
            have FN := Lib.hid ((F1.out.then0 F2.out).then0 (FQ.out.drewN nq))
            refine (RM.out _ (HV.out.fr0 FN.out)).mono ?_
            rintro e w4 ⟨rfl, v4, hv4, hf4, hd4⟩
            have hgd : ¬ domR r v g := fun hd => by
              have h1 := HDOM.out g hd
              obtain ⟨g2, q2, he2, hb2⟩ := own_some ROW.out (by omega)
              cases he2
              omega
            have e4 : w4.cell? ⟨g, off + i * 4, none⟩ = some (.int .i64 x) := (hf4.cell (p := ⟨g, off + i * 4, none⟩) (World.block_lt_of_cell? _ _ ((show (wr.drewN nq).cell? ⟨g, off + i * 4, none⟩ = _ from e0r))) hgd).trans e0r
            have HV4 := Lib.hid hv4
            have HF4 := Lib.hid hf4
            have HD4 := Lib.hid hd4
            clear hv4 hf4 hd4 a0 e0 e0r hgd
            go_wp2
            go_ret3
            refine ⟨GA2, ca2, v4, by rw [HM.out, HR.out.1, HR.out.2.1]; rfl, ?_, by rw [HR.out.2.2]; exact HV4.out, ?_, fun k hk => (HD4.out k hk).imp_right (fun h' => Nat.le_trans FN.out.size h')⟩
            · rw [HM.out]
              exact own_fr (own_fr (own_base O2.out F1.out.size) (FQ.out.drewN nq) (fun _ _ z => z)) HF4.out (fun q hq hd => by have := (O2.out.lt q hq).1; have := HDOM.out q hd; have := F1.out.size; omega)
            · exact (FN.out.mono (fun _ z => z.elim)).trans HF4.out (fun _ _ z => z)
          · have hb : (z == x) = false := by simpa using hzx
            have HNE2 := Lib.hid (show ∀ j, j < k + 1 → la.getD j 0 ≠ x from fun j hj => by
              by_cases e : j = k
              · rw [e, ← HZ.out]; exact hzx
              · exact HNE.out j (by omega))
            clear hzx
            go_wp2
            go_quiet (fail)
            go_wp2
            go_roundw
            case rel => exact ⟨k + 1, q + nq, by go_num, by omega, Lib.hid (by rw [HW.out, World.drewN_drewN]), HNE2⟩
            case measure => simp [intOf]; omega
        · have hlk2 : ¬ (k : Int) < (m : Int) := by omega
          have hpx : p x = false := by
            cases hp : p x
            · rfl
            · have := HMEM.out.1 hp
              obtain ⟨j, hj, he⟩ := List.mem_iff_getElem.1 this
              exact absurd (by simp [hj, he]) (HNE.out j (by rw [HAL.out] at hj; omega))
          have HP2 := Lib.hid (show ∀ j, j < i + 1 → p (s.l.getD j IV.zero).id = false from fun j hj => by
            by_cases e : j = i
            · rw [e, ← HX.out]; exact hpx
            · exact HP.out j (by omega))
          clear hpx e0 e0r
          go_wp2
          go_roundw
          case rel => exact ⟨i + 1, GA2, ca2, rfl, by go_num, by omega, Lib.hid (F2.out.then0 FQ.out), Lib.hid (own_fr O2.out FQ.out (fun _ _ z => z)), HP2⟩
          case measure => simp [intOf]; omega
    · have HIN := Lib.hid (show i = s.l.length by rw [← HNN.out]; omega)
      have HNK := Lib.hid (HN.out i (by rw [← HNN.out]; exact hin) HP.out (fun h => absurd h (by rw [← HNN.out]; exact hlt)))
      have HM := Lib.hid (show min (pickN p s.l + 1) s.l.length = i by rw [HNK.out]; have := HIN.out; omega)
      have hnl : ¬ i < s.l.length := by have := HIN.out; omega
      have HR := Lib.hid (show pickV p s = 0 ∧ pickB p s = false ∧ rpickS p s t = t from by
        unfold pickV pickB rpickS
        rw [HNK.out, if_neg hnl, if_neg hnl]
        exact ⟨rfl, by simpa using hnl, rfl⟩)
      have hlt2 : ¬ (i : Int) < (n : Int) := by omega
      clear hnl
      go_wp2
      go_ret3
      refine ⟨GA, ca, v, by rw [HM.out, HR.out.1, HR.out.2.1]; rfl, ?_, by rw [HR.out.2.2]; exact HV.out.fr0 (F1.out.then0 HFW.out), (F1.out.then0 HFW.out).mono (fun _ z => z.elim), fun k hk => .inl hk⟩
      rw [HM.out]
      exact own_base HO.out F1.out.size
end Go.Proofs.Ytcjcoigjedcieaa
