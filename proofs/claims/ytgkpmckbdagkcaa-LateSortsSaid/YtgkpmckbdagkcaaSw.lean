/- LateSorts: the walk. -/
import Derived.Test.YtgkpmckbdagkcaaSo
namespace Go.Proofs.Ytgkpmckbdagkcaa
open Go.RowKit Go.Wk

theorem one {bytes : Nat} {w : World} {A : Option Addr} {n c : Nat} {es : List (List Int)} (h : RowF [.u32] bytes w A n c es) {k : Nat} (hk : k < n) :
    ∃ b off v, A = some ⟨b, off, none⟩ ∧ b < w.heap.size ∧ 0 ≤ v ∧ v ≤ 4294967295 ∧ w.cell? ⟨b, off + k, none⟩ = some (.int .u32 v) := by
  obtain ⟨b, off, hA, hb, hl, hw, hc⟩ := h.at_ (by decide) hk
  generalize es.getD k [] = l at *
  match l, hl with
  | [v], _ =>
    have h1 := hw 0 .u32 v rfl rfl
    simp [Lit.wf] at h1
    have e0 := hc 0 _ rfl
    have e : off + k * [IntKind.u32].length + 0 = off + k := by simp
    rw [e] at e0
    exact ⟨b, off, v, hA, hb, h1.1, h1.2, e0⟩

/-- A row of numbers beside two lists. -/
structure RowN (B : Nat) (wr : World) (E F : Nat → Prop) (v : Value) (m : Nat) (dd : List Int) : Prop where
  row : wr.ownsRow B 2 1 v m (cells .i64 dd)
  ne : ∀ k, v.ownBlock = some k → ¬ E k ∧ ¬ F k
theorem RowN.fr0 {B m : Nat} {w1 w2 : World} {E F : Nat → Prop} {v : Value} {dd : List Int} (h : RowN B w1 E F v m dd) (hf : Fr No w1 w2) : RowN B w2 E F v m dd := ⟨own_fr h.row hf (fun _ _ x => x), h.ne⟩
theorem RowN.nx {B m : Nat} {w1 w2 : World} {E E' F : Nat → Prop} {v : Value} {dd : List Int} (h : RowN B w1 E F v m dd) (hf : Fr E w1 w2) (hd : ∀ k, E' k → E k ∨ w1.heap.size ≤ k) : RowN B w2 E' F v m dd :=
  ⟨own_fr h.row hf (fun k hk => (h.ne k hk).1), fun k hk => ⟨fun he => (hd k he).elim (h.ne k hk).1 (fun h' => by have := (h.row.lt k hk).2; omega), (h.ne k hk).2⟩⟩
theorem RowN.ny {B m : Nat} {w1 w2 : World} {E F F' : Nat → Prop} {v : Value} {dd : List Int} (h : RowN B w1 E F v m dd) (hf : Fr F w1 w2) (hd : ∀ k, F' k → F k ∨ w1.heap.size ≤ k) : RowN B w2 E F' v m dd :=
  ⟨own_fr h.row hf (fun k hk => (h.ne k hk).2), fun k hk => ⟨(h.ne k hk).1, fun he => (hd k he).elim (h.ne k hk).2 (fun h' => by have := (h.row.lt k hk).2; omega)⟩⟩

def Seen (dd : List Int) (x : Int) (t : Nat) (hb : Bool) : Prop := hb = true ↔ ∃ i, i < t ∧ dd.getD i 0 = x
theorem w64 {x : Int} (h : -9223372036854775808 ≤ x ∧ x ≤ 9223372036854775807) : IntKind.i64.wrap x = x ∧ wrap64 x = x := ⟨by simp only [IntKind.wrap_i64]; omega, by unfold wrap64; omega⟩
theorem back_ix {k m : Nat} (h : k < m) (hm : m ≤ 60) : (IntKind.i64.wrap ((m : Int) - 1) = ((m - 1 : Nat) : Int) ∧ wrap64 ((m : Int) - 1) = ((m - 1 : Nat) : Int)) ∧ (IntKind.i64.wrap (((m - 1 : Nat) : Int) - (k : Int)) = ((m - 1 - k : Nat) : Int) ∧ wrap64 (((m - 1 : Nat) : Int) - (k : Int)) = ((m - 1 - k : Nat) : Int)) := by
  have e1 : ((m : Int) - 1) = ((m - 1 : Nat) : Int) := by omega
  have e2 : (((m - 1 : Nat) : Int) - (k : Int)) = ((m - 1 - k : Nat) : Int) := by omega
  rw [e1, e2]
  exact ⟨w64 (by omega), w64 (by omega)⟩

set_option maxRecDepth 100000 in
set_option maxHeartbeats 8000000 in
theorem lateSorts_walk (A : Option Addr) (n c : Nat) (es : List (List Int)) (w : World) (h : RowF [.u32] 4 w A n c es) (hn : n ≤ 9223372036854775807) :
    Calls Try.prog 3 #[.slice A n c] w fun e w' => e = .returned (.bool true) ∧ Fr No w w' := by
  have HR := Lib.hid h
  clear h
  by_cases b1 : 60 < n
  · go_enter Try.func3, Try.ntmps3
    go_wp2_with fail
    refine (works_any _).mono ?_
    rintro x w1 ⟨rfl, hf⟩
    go_wp2
    go_ret
    exact ⟨rfl, hf⟩
  have hn60 : n ≤ 60 := by omega
  obtain ⟨i0, hi, hz0, hz1, hz2⟩ : ∃ i, Try.prog.info? 2 = some i ∧ i.zero = some (.int .i64 0) ∧ i.size = 1 ∧ i.bytes = 8 := ⟨_, rfl, rfl, rfl, rfl⟩
  go_enter Try.func3, Try.ntmps3
  go_wp2_with fail
  refine (New_any _).mono ?_
  rintro x w1 ⟨bx, D, rfl, hl, hD, hf⟩
  have HO := Lib.hid (show Mine w w1 bx D LS.new from ⟨hl, hf, hD⟩)
  clear hl hf hD
  go_wp2_with fail
  refine (New_any _).mono ?_
  rintro x w2 ⟨by_, E, rfl, hl, hD, hf⟩
  have T := Lib.hid (Two.of HO.out hl hD hf)
  have hws := T.out.x.fr.size
  clear hl hf hD HO
  go_wp2
  go_loopw [5, 6] (fun dv i wr => ∃ (k m : Nat) (A5 : Option Addr) (c5 : Nat) (dd : List Int), dv = .slice A5 m c5 ∧ i = .int .i64 k ∧ k ≤ n ∧ m ≤ k ∧ Hid (wr.ownsRow w2.heap.size 2 1 (.slice A5 m c5) m (cells .i64 dd)) ∧ Hid (dd.Nodup) ∧ Hid (dd.length = m) ∧ Hid (∀ x ∈ dd, 0 ≤ x ∧ x ≤ 4294967295) ∧ Fr No w2 wr) (fun dv i _ => n - (intOf i).toNat)
  case atStart => exact ⟨0, 0, none, 0, [], rfl, rfl, Nat.zero_le _, Nat.zero_le _, Lib.hid (own_nil _ _ _ _), Lib.hid List.nodup_nil, Lib.hid rfl, Lib.hid (fun x hx => by simp at hx), Fr.refl _ _⟩
  case round =>
    obtain ⟨k, m, A5, c5, dd, rfl, rfl, hk, hmk, HO, HND, HDL, HRG, hf⟩ := hrel
    by_cases hlt : k < n
    · obtain ⟨xb, xo, x, rfl, hxb, hx0, hx1, h0⟩ := one HR.out hlt
      have hff := T.out.x.fr.then0 hf
      have c0 := (hff.cell (p := ⟨xb, xo + k, none⟩) hxb (fun x => x)).trans h0
      have hxw : xb < wr.heap.size := Nat.lt_of_lt_of_le hxb hff.size
      have hb2 : w2.heap.size ≤ wr.heap.size := hf.size
      have HF := Lib.hid hf
      have RD := Lib.hid (Reads.of_own HO.out)
      have hwx : IntKind.i64.wrap x = x ∧ wrap64 x = x := w64 (by omega)
      obtain ⟨hw1, hw2⟩ := hwx
      clear hff hf h0
      go_wp2
      go_loopw [7, 8] (fun hv j w' => ∃ (q : Nat) (hb : Bool) (t : Nat), hv = .bool hb ∧ j = .int .i64 t ∧ t ≤ m ∧ w' = wr.drewN q ∧ Hid (Seen dd x t hb)) (fun hv j _ => m - (intOf j).toNat)
      case atStart => exact ⟨0, false, 0, rfl, rfl, Nat.zero_le _, rfl, Lib.hid (by unfold Seen; simp)⟩
      case round =>
        obtain ⟨q, hb, t, rfl, rfl, ht, rfl, HB⟩ := hrel
        by_cases hlt2 : t < m
        · obtain ⟨g, off, rfl, _, a0⟩ := RD.out.int_at (kd := .i64) (xs := dd) hlt2
          cases hb with
          | true =>
            have HB2 := Lib.hid (show Seen dd x (t + 1) true from ⟨fun _ => by
              obtain ⟨i, hi, e⟩ := HB.out.1 rfl
              exact ⟨i, by omega, e⟩, fun _ => rfl⟩)
            clear HB
            go_wp2
            go_quiet (fail)
            go_wp2
            go_roundw
            case rel => exact ⟨_, true, t + 1, rfl, by go_num, by omega, by first | rfl | rw [World.drewN_drewN], HB2⟩
            case measure => simp [intOf]; omega
          | false =>
            have hno : ∀ i, i < t → dd.getD i 0 ≠ x := fun i hi e => by have := HB.out.2 ⟨i, hi, e⟩; simp at this
            by_cases hy : dd.getD t 0 = x
            · have HB2 := Lib.hid (show Seen dd x (t + 1) true from ⟨fun _ => ⟨t, by omega, hy⟩, fun _ => rfl⟩)
              rw [hy] at a0
              have hxx : (x == x) = true := by simp
              clear HB hno hy
              go_wp2
              go_quiet (fail)
              go_wp2
              go_roundw
              case rel => exact ⟨_, true, t + 1, rfl, by go_num, by omega, by first | rfl | rw [World.drewN_drewN], HB2⟩
              case measure => simp [intOf]; omega
            · have HB2 := Lib.hid (show Seen dd x (t + 1) false from ⟨fun h => by simp at h, fun ⟨i, hi, e⟩ => by
                by_cases hit : i = t
                · rw [hit] at e; exact absurd e hy
                · exact absurd e (hno i (by omega))⟩)
              generalize dd.getD t 0 = y at *
              have hxx : (y == x) = false := by simpa using hy
              clear HB hno hy
              go_wp2
              go_quiet (fail)
              go_wp2
              go_roundw
              case rel => exact ⟨_, false, t + 1, rfl, by go_num, by omega, by first | rfl | rw [World.drewN_drewN], HB2⟩
              case measure => simp [intOf]; omega
        · cases hb with
          | true =>
            have HF2 := Lib.hid (HF.out.drewN q)
            have HO2 := Lib.hid (HO.out.drewN_ q)
            clear HB hw1 hw2
            go_wp2
            go_roundw
            case rel => exact ⟨k + 1, m, _, _, dd, rfl, by go_num, by omega, by omega, HO2, HND, HDL, HRG, HF2.out⟩
            case measure => simp [intOf]; omega
          | false =>
            have hno : ∀ y ∈ dd, y ≠ x := fun y hy e => by
              obtain ⟨i, hi, rfl⟩ := List.mem_iff_getElem.1 hy
              have := HB.out.2 ⟨i, by have := HDL.out; omega, by simp [hi, e]⟩
              simp at this
            have ND2 := Lib.hid (show (dd ++ [x]).Nodup from List.nodup_append.2 ⟨HND.out, by simp, fun a ha b hb => by simp at hb; rw [hb]; exact hno a ha⟩)
            have DL2 := Lib.hid (show (dd ++ [x]).length = m + 1 by rw [List.length_append, HDL.out]; rfl)
            have RG2 := Lib.hid (show ∀ y ∈ dd ++ [x], 0 ≤ y ∧ y ≤ 4294967295 from fun y hy => by
              rcases List.mem_append.1 hy with h | h
              · exact HRG.out y h
              · simp at h; rw [h]; exact ⟨hx0, hx1⟩)
            have HF2 := Lib.hid (HF.out.drewN q)
            have HO2 := Lib.hid (HO.out.drewN_ q)
            clear HB hno
            have hb3 : w2.heap.size ≤ (wr.drewN q).heap.size := hb2
            go_wp2_with (at_builtin; refine wpList_push (wr := wr.drewN q) rfl (.tmp 46) (.tmp 52) 26 rfl w2.heap.size 2 i0 (.int .i64 0) 8 Try.underlying26 hi hz0 hz1 hz2 rfl (by omega) (.int .i64 x) 2 rfl _ m _ rfl rfl HO2.out (by omega) hb3 ?_)
            intro v' w5 hown5 hf5 _
            have hc5 : w5.ownsRow w2.heap.size 2 1 v' (m + 1) (cells .i64 (dd ++ [x])) := by rw [cells_snoc]; exact hown5
            obtain ⟨A6, c6, rfl⟩ := own_form' hc5
            have HO5 := Lib.hid hc5
            have HF5 := Lib.hid (HF2.out.ownS hf5 (fun b hb => hb))
            clear hown5 hc5 hf5 hw1 hw2
            go_wp2
            go_roundw
            case rel => exact ⟨k + 1, m + 1, A6, c6, dd ++ [x], rfl, by go_num, by omega, by omega, HO5, ND2, DL2, RG2, HF5.out⟩
            case measure => simp [intOf]; omega
    · have T2 := Lib.hid (T.out.fr0 hf)
      have RN := Lib.hid (show RowN w2.heap.size wr D E (.slice A5 m c5) m dd from ⟨HO.out, fun q hq => ⟨fun hd => by have h1 := (HO.out.lt q hq).1; have h2 := T.out.x.at_.lt hd; omega, fun hd => by have h1 := (HO.out.lt q hq).1; have h2 := T.out.y.at_.lt hd; omega⟩⟩)
      have hm60 : m ≤ 60 := by omega
      clear hf HO
      go_wp2
      go_loopw [9] (fun i w' => ∃ (t : Nat) (E1 F1 : Nat → Prop) (s1 s2 : LS), i = .int .i64 t ∧ t ≤ m ∧ Hid (Two w w' bx E1 s1 by_ F1 s2) ∧ Hid (RowN w2.heap.size w' E1 F1 (.slice A5 m c5) m dd) ∧ Hid (Holds s1 (frontP dd t)) ∧ Hid (Holds s2 (backP dd t))) (fun i _ => m - (intOf i).toNat)
      case atStart => exact ⟨0, D, E, LS.new, LS.new, rfl, Nat.zero_le _, T2, RN, Lib.hid Holds.new, Lib.hid Holds.new⟩
      case round =>
        clear T T2 RN
        obtain ⟨t, E1, F1, s1, s2, rfl, ht, T, RN, H1, H2⟩ := hrel
        by_cases hlt : t < m
        · have hdl := HDL.out
          have hlt2 : m - 1 - t < m := by omega
          obtain ⟨g, off, rfl, hgl, a0⟩ := (Reads.of_own RN.out.row).int_at (kd := .i64) (xs := dd) hlt
          obtain ⟨g', off', he, _, a1⟩ := (Reads.of_own RN.out.row).int_at (kd := .i64) (xs := dd) hlt2
          cases he
          have hr0 := HRG.out (dd.getD t 0) (by rw [show dd.getD t 0 = dd[t] by simp [show t < dd.length by omega]]; exact List.getElem_mem _)
          have hr1 := HRG.out (dd.getD (m - 1 - t) 0) (by rw [show dd.getD (m - 1 - t) 0 = dd[m - 1 - t] by simp [show m - 1 - t < dd.length by omega]]; exact List.getElem_mem _)
          obtain ⟨p1, p2⟩ := H1.out.add (x := (t : Int)) (d := dd.getD t 0) (fun p hp => frontP_mem hp) (by omega)
          obtain ⟨p3, p4⟩ := H2.out.add (x := ((m - 1 - t : Nat) : Int)) (d := dd.getD (m - 1 - t) 0) (fun p hp => by rw [← hdl]; exact backP_mem (by omega) hp) (by omega)
          rw [← frontP_succ] at p2
          have hbs := backP_succ dd t
          rw [hdl] at hbs
          rw [← hbs] at p4
          have q1 := H1.out.seq
          have q2 := H2.out.seq
          have l1 : (frontP dd t).length = t := by simp [frontP]
          have l2 : (backP dd t).length = t := by simp [backP]
          have A1 := Lib.hid (Add_at bx E1 s1 (t : Int) (dd.getD t 0) (by unfold fits; omega) (by omega) wr T.out.x.at_)
          have A2 := Lib.hid (fun X F hX => Add_at by_ F s2 ((m - 1 - t : Nat) : Int) (dd.getD (m - 1 - t) 0) (by unfold fits; omega) (by omega) X hX)
          rw [p1] at A1
          rw [p3] at A2
          have N1 := Lib.hid p2
          have N2 := Lib.hid p4
          have hne := (RN.out.ne g rfl).1
          obtain ⟨⟨x1, x2⟩, x3, x4⟩ := back_ix hlt hm60
          clear p1 p2 p3 p4 q1 q2 l1 l2 hbs hdl H1 H2
          generalize addS s1 (t : Int) (dd.getD t 0) = s3 at *
          generalize addS s2 ((m - 1 - t : Nat) : Int) (dd.getD (m - 1 - t) 0) = s4 at *
          generalize dd.getD t 0 = d0 at *
          generalize dd.getD (m - 1 - t) 0 = d1 at *
          generalize m - 1 - t = m1 at *
          go_wp2_with fail
          clear x1 x2 x3 x4
          refine A1.out.mono ?_
          rintro e w6 ⟨rfl, htt⟩
          obtain ⟨E2, T6, hdd, hf6⟩ := T.out.next htt
          have a2 := (hf6.cell (p := ⟨g, off + m1, none⟩) hgl hne).trans a1
          have RN6 := Lib.hid (RN.out.nx hf6 hdd)
          have HT6 := Lib.hid T6
          clear htt hdd hf6 T6 a1 a0
          go_wp2_with fail
          refine (A2.out _ _ HT6.out.y.at_).mono ?_
          rintro e w7 ⟨rfl, htt⟩
          obtain ⟨F2, T7, hdd, hf7⟩ := HT6.out.next2 htt
          have RN7 := Lib.hid (RN6.out.ny hf7 hdd)
          have HT7 := Lib.hid T7
          clear htt hdd hf7 T7 a2
          go_wp2
          go_roundw
          case rel => exact ⟨t + 1, E2, F2, s3, s4, by go_num, by omega, HT7, RN7, N1, N2⟩
          case measure => simp [intOf]; omega
        · have htm : t = m := by omega
          have h1 := H1.out
          have h2 := H2.out
          rw [htm, ← HDL.out] at h1 h2
          have VW := Lib.hid (holds_eq T.out.x.at_.ok T.out.y.at_.ok h1 h2 (front_back dd) (front_snd dd HND.out))
          have HIN := Lib.hid (fun q (hq : q < m) => ids_front h1 (k := q) (by rw [HDL.out]; exact hq))
          have hNl := T.out.x.at_.n
          have IDS := Lib.hid (Ids_at bx E1 s1 wr T.out.x.at_)
          obtain ⟨N, hN⟩ : ∃ N, N = s1.l.length := ⟨_, rfl⟩
          rw [← hN] at IDS hNl
          clear h1 h2 htm H1 H2 hN RN
          go_wp2_with fail
          refine IDS.out.mono ?_
          rintro e w6 ⟨G, gc, rfl, ho, _, hf⟩
          replace T := Lib.hid (T.out.fr0 hf)
          have R := Lib.hid (Reads.of_own ho)
          clear hf ho IDS
          go_wp2
          go_loopw [12] (fun i w' => ∃ u : Nat, i = .int .i64 u ∧ u ≤ m ∧ w' = w6.drewN 0) (fun i _ => m - (intOf i).toNat)
          case atStart => exact ⟨0, rfl, Nat.zero_le _, rfl⟩
          case round =>
            obtain ⟨u, rfl, hu, rfl⟩ := hrel
            by_cases hlt : u < m
            · have HH := Lib.hid (has_any G N gc (ids s1.l) (u : Int) (w6.drewN 0) R.out (by omega) (HIN.out u hlt))
              go_wp2_with fail
              refine HH.out.mono ?_
              rintro e _ ⟨rfl, rfl⟩
              go_wp2
              go_roundw
              case rel => exact ⟨u + 1, by go_num, by omega, trivial⟩
              case measure => simp [intOf]; omega
            · have T9 := Lib.hid (T.out.fr0 ((Fr.refl No w6).drewN 0))
              generalize w6.drewN 0 = w7 at *
              go_wp2_with fail
              refine (alike_any bx by_ E1 F1 s1 s2 _ T9.out.x.at_ T9.out.y.at_ VW.out).mono ?_
              rintro e w8 ⟨rfl, hf⟩
              have T10 := Lib.hid (T9.out.fr0 hf)
              clear hf
              go_wp2_with fail
              refine (works_any _).mono ?_
              rintro e w9 ⟨rfl, hf⟩
              have T11 := Lib.hid (T10.out.fr0 hf)
              clear hf
              go_wp2
              go_ret
              exact ⟨rfl, T11.out.x.fr⟩
end Go.Proofs.Ytgkpmckbdagkcaa
