/- ReadyPicks: the walk. -/
import Derived.Test.YtcjcoigjedcieaaPk
namespace Go.Proofs.Ytcjcoigjedcieaa
open Go.RowKit Go.Wk

def ids (l : List IV) : List Int := l.map IV.id
theorem ids_len (l : List IV) : (ids l).length = l.length := by simp [ids]
theorem ids_take_succ (l : List IV) {k : Nat} (hk : k < l.length) : (ids l).take (k + 1) = (ids l).take k ++ [(l.getD k IV.zero).id] := by
  rw [take_snoc _ k (by rw [ids_len]; exact hk)]
  simp [ids, hk]
theorem pickN_findIdx (p : Int → Bool) (l : List IV) : l.findIdx (fun e => p e.id) = pickN p l := by
  unfold pickN
  induction l with
  | nil => rfl
  | cons a l ih =>
    rw [List.findIdx_cons]
    cases h : p a.id
    · rw [List.takeWhile_cons_of_pos (by simp [h]), List.length_cons, ← ih]; rfl
    · rw [List.takeWhile_cons_of_neg (by simp [h])]; rfl
theorem rem_has' {s : QS} {x : Int} : hasB (remS s x) x = false := by
  unfold hasB remS
  rw [byId_rem, if_pos rfl]; rfl
theorem idxF_pick (p : Int → Bool) (l : List IV) : idxF (fun e => p e.id) l = if pickN p l < l.length then (pickN p l : Int) else -1 := by
  unfold idxF
  rw [pickN_findIdx]
/-- The state of the calls in Pick. -/
def PI (w0 : World) (B ba bi b0 : Nat) (a : Int) (l : List IV) (k : Nat) (X : World) : Prop := IsB X bi b0 a ∧ Asked B X ba ((ids l).take k) ∧ Fr (· = ba) w0 X
theorem pick_at (a : Int) (ba bi b0 b : Nat) (D : Nat → Prop) (s : QS) (w : World) (h : QAt w b D s) (h0 : 0 ≤ a) (h1 : a ≤ 18446744073709551615) (hI : IsB w bi b0 a) (hA : Blk w ba 49 #[.slice none 0 0]) (hne : ba ≠ bi ∧ ba ≠ b0) (hD : ∀ k, D k → k ≠ ba) :
    Calls Try.prog 23 #[.pointer (some ⟨b, 0, none⟩), .func (.func 24) #[] #[.pointer (some ⟨ba, 0, none⟩), .pointer (some ⟨bi, 0, none⟩)]] w fun e w' => e = .returned (.tuple #[.int .i64 (pickV (isA a) s), .bool (pickB (isA a) s)]) ∧
      ∃ X, PI w w.heap.size ba bi b0 a s.l (min (pickN (isA a) s.l + 1) s.l.length) X ∧ TurnedAt X b D (pickS (isA a) s) w' := by
  obtain ⟨bm, v, hv, rfl⟩ := h
  have hba := hA.lt
  have hbi := hI.bi.lt
  have hb0 := hI.b0.lt
  refine (Pick_any 24 _ (isA a) (PI w w.heap.size ba bi b0 a s.l) (· = ba) b bm v s w hv ⟨hI, ⟨none, 0, by simpa using hA, own_nil _ _ _ _⟩, Fr.refl _ _⟩ (fun _ _ h => h.2.2) (fun k hk e => hD k hk e) Try.call24 (fun k X o hk hX => ?_)).mono ?_
  · obtain ⟨hi, ha, hf⟩ := hX
    have hsz := hf.size
    refine (ask_any _ a w.heap.size ba bi b0 _ X o (hv.ok.fit _ (getD_mem' hk)).id h0 h1 (by have := hv.ok.n; rw [List.length_take, ids_len]; omega) hi ha hsz hba hbi hb0 hne).mono ?_
    rintro e X' ⟨rfl, hi', ha', h3, h4, hf'⟩
    refine ⟨rfl, ⟨hi', by rw [ids_take_succ _ hk]; exact ha', hf.trans hf' (fun k hk h => h.elim id (fun h => by omega))⟩, h3, h4⟩
  · rintro e w' ⟨X, hX, ht⟩
    exact ⟨ht.at_.1, X, hX, ht.at_.2⟩

set_option maxRecDepth 100000 in
set_option maxHeartbeats 8000000 in
theorem readyPicks_walk (A : Option Addr) (n c : Nat) (es : List (List Int)) (a0 a1 : Int) (w : World) (h : RowF kOne 8 w A n c es) (ha0 : 0 ≤ a0 ∧ a0 ≤ 4294967295) (ha1 : 0 ≤ a1 ∧ a1 ≤ 18446744073709551615) :
    Calls Try.prog 6 #[.slice A n c, .int .u32 a0, .int .u64 a1] w fun e w' => e = .returned (.bool true) ∧ Fr No w w' := by
  obtain ⟨m, hm⟩ : ∃ m, m = min n 64 := ⟨_, rfl⟩
  have hm64 : m ≤ 64 := by omega
  have hX0 := fun i (hi : i < (ones es).length) => ones_ok h (k := i) (by rw [ones_len, h.2.2.2.1] at hi; exact hi)
  have hL0 : (ones es).length = n := by rw [ones_len]; exact h.2.2.2.1
  have HA := Lib.hid (show 1 ≤ a0 + 1 ∧ a0 + 1 ≤ 68719476736 by omega)
  obtain ⟨w0, hw0⟩ : ∃ w0, w0 = w.alloc (.cells #[.int .u64 a1] 48) := ⟨_, rfl⟩
  have F0 := Lib.hid (show Fr No w w0 by rw [hw0]; exact (Fr.refl No w).alloc _)
  have B0 := Lib.hid (show Blk w0 w.heap.size 48 #[.int .u64 a1] by rw [hw0]; exact Blk.new _ _ _)
  have HF := Lib.hid (filled_any A n c 64 (a0 + 1) es w0 (h.fr0 F0.out) (by omega) HA.out)
  rw [show ((64 : Nat) : Int) = 64 from rfl, ← hm] at HF
  have hok := fillK_ok (size := 64) (ag := a0 + 1) (by omega) HA.out hX0 m (by rw [hL0]; omega) (by omega)
  have hsl := fillK_len (size := 64) (ag := a0 + 1) (xs := ones es) m
  generalize fillK 64 (a0 + 1) (ones es) m = s at *
  have HOK := Lib.hid hok
  have HSL := Lib.hid hsl
  have HW0 := Lib.hid hw0
  have hsz0 : w0.heap.size = w.heap.size + 1 := by rw [hw0]; simp
  have HSZ0 := Lib.hid hsz0
  have ha00 := ha0.1
  have ha01 := ha0.2
  have HA1 := Lib.hid ha1
  clear h hm hX0 hL0 hok hsl hw0 ha0 ha1 hsz0
  go_enter Try.func6, Try.ntmps6
  go_wp2_with fail
  rw [← HW0.out]
  refine HF.out.mono ?_
  rintro e w1 ⟨b, D, rfl, M⟩
  replace M := Lib.hid M
  clear HF
  go_wp2_with fail
  refine (Items_at b D s _ M.out.at_).mono ?_
  rintro e w2 ⟨G, gc, rfl, ho, hgc, hf⟩
  have hD1 := fun k (hk : D k) => M.out.at_.lt hk
  have HD1 := Lib.hid hD1
  have B2 := Lib.hid (B0.out.fr (M.out.fr.then0 hf) (fun z => z))
  replace M := Lib.hid (M.out.fr0 hf)
  rw [HSL.out] at ho hgc ⊢
  have HO := Lib.hid ho
  have hw12 := hf.size
  have hw1 := M.out.fr.size
  clear ho hf hD1
  obtain ⟨wb, hwb⟩ : ∃ wb, wb = (w2.alloc (.cells #[.slice none 0 0] 49)).alloc (.cells #[.func (.func 22) #[] #[.pointer (some ⟨w.heap.size, 0, none⟩)]] 34) := ⟨_, rfl⟩
  have FB := Lib.hid (show Fr No w2 wb by rw [hwb]; exact ((Fr.refl No w2).alloc _).alloc _)
  have BA := Lib.hid (show Blk wb w2.heap.size 49 #[.slice none 0 0] by rw [hwb]; exact (Blk.new _ _ _).alloc _)
  have BI := Lib.hid (show Blk wb (w2.heap.size + 1) 34 #[.func (.func 22) #[] #[.pointer (some ⟨w.heap.size, 0, none⟩)]] by
    rw [hwb]
    have := Blk.new (w2.alloc (.cells #[.slice none 0 0] 49)) 34 #[.func (.func 22) #[] #[.pointer (some ⟨w.heap.size, 0, none⟩)]]
    rwa [World.size_alloc] at this)
  have IB := Lib.hid (show IsB wb (w2.heap.size + 1) w.heap.size a1 from ⟨BI.out, B2.out.fr FB.out (fun z => z)⟩)
  have HWB := Lib.hid hwb
  have HWBS := Lib.hid (show wb.heap.size = w2.heap.size + 2 by rw [hwb]; simp)
  have hw2lt : w.heap.size < w2.heap.size := by have := HSZ0.out; omega
  have PK := Lib.hid (pick_at a1 w2.heap.size (w2.heap.size + 1) w.heap.size b D s wb (M.out.at_.fr0 FB.out) HA1.out.1 HA1.out.2 IB.out BA.out ⟨by omega, by omega⟩ (fun k hk => by have := HD1.out k hk; omega))
  clear hwb
  go_wp2_with fail
  rw [← HWB.out]
  refine PK.out.mono ?_
  rintro e w3 ⟨rfl, X, ⟨hI, hA, hfx⟩, ht⟩
  obtain ⟨D3, hq3, hf3, hd3⟩ := ht
  have hXs := hfx.size
  have hwbs := HWBS.out
  have M3 := Lib.hid (show Mine w0 w3 b D3 (pickS (isA a1) s) from ⟨hq3, ((M.out.fr0 FB.out).fr.ownS hfx (fun k hk => by rw [hk]; exact hw1)).ownS hf3 M.out.hD, fun k hk => (hd3 k hk).elim (M.out.hD k) (fun h' => by omega)⟩)
  have HO3 := Lib.hid (own_fr (own_fr (own_fr HO.out FB.out (fun _ _ z => z)) hfx (fun k hk e => by have := (HO.out.lt k hk).2; omega)) hf3 (fun k hk hd => by have := (HO.out.lt k hk).1; have := HD1.out k hd; omega))
  have AS3 := Lib.hid (hA.fr hf3 (fun hd => by have := HD1.out _ hd; omega) (fun k h1 h2 hd => by have := HD1.out k hd; omega))
  have IS3 := Lib.hid (hI.fr hf3 (fun hd => by have := HD1.out _ hd; omega) (fun hd => by have := M.out.hD _ hd; have := HSZ0.out; omega))
  have IX := Lib.hid (index_any 26 #[.pointer (some ⟨w2.heap.size + 1, 0, none⟩)] (fun e => isA a1 e.id) G m gc s.l w3 (Reads.of_own HO3.out) (by omega) Try.call26 (fun x Y hx hY => able_any x a1 _ _ Y (HOK.out.fit _ hx).id HA1.out.1 HA1.out.2 (IS3.out.fr hY (fun z => z) (fun z => z))))
  rw [idxF_pick, HSL.out] at IX
  have hD3 := Lib.hid hd3
  have hnn := pickN_le (isA a1) s.l
  rw [HSL.out] at hnn
  obtain ⟨nn, hnne⟩ : ∃ nn, nn = pickN (isA a1) s.l := ⟨_, rfl⟩
  have HNN := Lib.hid hnne
  obtain ⟨GA, ca, hga, hoa⟩ := AS3.out
  have hgl : ((ids s.l).take (min (pickN (isA a1) s.l + 1) s.l.length)).length = min (nn + 1) m := by rw [List.length_take, ids_len, HSL.out, ← hnne]; omega
  rw [hgl] at hga hoa
  rw [← hnne] at IX hnn hoa
  rw [HSL.out] at hoa
  have HGA := Lib.hid hga
  have HOA := Lib.hid hoa
  have g0 := hga.cell 0
  have g0l := hga.lt
  simp only [List.getElem?_toArray, List.getElem?_cons_zero] at g0
  clear hI hA hfx hq3 hf3 hd3 PK hga hoa hnne hgl
  by_cases hlt : nn < m
  · have hpv : pickV (isA a1) s = (s.l.getD nn IV.zero).id := by unfold pickV; rw [← HNN.out, HSL.out, if_pos hlt]
    have hpb : pickB (isA a1) s = true := by unfold pickB; rw [← HNN.out, HSL.out]; simpa using hlt
    have hps : pickS (isA a1) s = s.cut nn := by unfold pickS; rw [← HNN.out, HSL.out, if_pos hlt]
    rw [hpv, hpb]
    rw [hps] at M3
    rw [if_pos hlt] at IX
    have hmn : min (nn + 1) m = nn + 1 := by omega
    rw [hmn] at g0 HOA HGA
    have hls : nn < s.l.length := by rw [HSL.out]; exact hlt
    obtain ⟨id, hid⟩ : ∃ id, id = (s.l.getD nn IV.zero).id := ⟨_, rfl⟩
    have HID := Lib.hid hid
    rw [← hid]
    have hfid : fits id := by rw [hid]; exact (HOK.out.fit _ (getD_mem' hls)).id
    have hHas : hasB (s.cut nn) id = false := by rw [hid, ← remS_at HOK.out hls]; exact rem_has'
    have hcl : (s.cut nn).l.length = m - 1 := by rw [cut_len _ hls, HSL.out]; omega
    have hci := icells_cut s nn
    have HCL := Lib.hid hcl
    have HCI := Lib.hid hci
    have A1 := Lib.hid (fun X hX => Has_at b D3 (s.cut nn) X hX id hfid)
    rw [hHas] at A1
    have A2 := Lib.hid (fun X hX => Items_at b D3 (s.cut nn) X hX)
    generalize s.cut nn = s2 at *
    have HLS := Lib.hid hls
    have HSG := Lib.hid (show ∀ i, i < nn + 1 → ((ids s.l).take (nn + 1)).getD i 0 = (s.l.getD i IV.zero).id from fun i hi => by
      have : i < s.l.length := by omega
      simp [List.getD_eq_getElem?_getD, hi, ids, this])
    have hlti : (nn : Int) < (m : Int) := by omega
    clear hpv hpb hps hmn hid hHas hcl hci hls
    go_wp2_with fail
    refine IX.out.mono ?_
    rintro e w4 ⟨rfl, hf⟩
    replace M3 := Lib.hid (M3.out.fr0 hf)
    replace HO3 := Lib.hid (own_fr HO3.out hf (fun _ _ z => z))
    replace HOA := Lib.hid (own_fr HOA.out hf (fun _ _ z => z))
    have g1 : w4.cell? ⟨w2.heap.size, 0, none⟩ = some (.slice GA (nn + 1) ca) := (hf.cell (p := ⟨w2.heap.size, 0, none⟩) g0l (fun z => z)).trans g0
    obtain ⟨gg, qq, hge, _⟩ := own_some HO3.out (by omega)
    cases hge
    obtain ⟨g', off, he, _, _, d0, _, _, _⟩ := reads_item (Reads.of_own HO3.out) (i := nn) hlt
    cases he
    rw [← HID.out, Nat.zero_add] at d0
    have hne1 : (id != id) = false := by simp
    have hne2 : ((nn : Int) + 1 != (nn : Int) + 1) = false := by simp
    clear hf g0 g0l
    have key : ∃ bb : Bool, ((nn : Int) + 1 != (m : Int)) = bb := ⟨_, rfl⟩
    obtain ⟨bb, hbb⟩ := key
    cases bb
    all_goals
      go_wp2
      clear hbb d0 g1
      go_loopw [94] (fun i wr => ∃ k : Nat, i = .int .i64 k ∧ k ≤ nn + 1 ∧ w4 = wr) (fun i _ => nn + 1 - (intOf i).toNat)
      case atStart => exact ⟨0, rfl, Nat.zero_le _, rfl⟩
      case round =>
        obtain ⟨k, rfl, hk, rfl⟩ := hrel
        by_cases hlk : k < nn + 1
        · have hkm : k < m := by omega
          obtain ⟨g', off, he, _, _, d0, _, _, _⟩ := reads_item (Reads.of_own HO3.out) (i := k) hkm
          cases he
          rw [Nat.zero_add] at d0
          obtain ⟨gA, offA, heA, _, dA⟩ := (Reads.of_own HOA.out).int_at (kd := .i64) (xs := (ids s.l).take (nn + 1)) hlk
          subst heA
          rw [HSG.out k hlk] at dA
          have hlk2 : (k : Int) < (nn : Int) + 1 := by omega
          have hkm2 : (k : Int) < (m : Int) := by omega
          generalize (s.l.getD k IV.zero).id = z at *
          have hzz : (z != z) = false := by simp
          go_wp2
          go_roundw
          case rel => exact ⟨k + 1, by go_num, by omega, by trivial⟩
          case measure => simp [intOf]; omega
        · have hlk2 : ¬ (k : Int) < (nn : Int) + 1 := by omega
          clear HOA
          go_wp2_with fail
          refine (A2.out _ M3.out.at_).mono ?_
          rintro e w5 ⟨G5, c5, rfl, ho5, _, hf⟩
          replace M3 := Lib.hid (M3.out.fr0 hf)
          replace HO3 := Lib.hid (own_fr HO3.out hf (fun _ _ z => z))
          have O5 := Lib.hid ho5
          have HD5 := Lib.hid (fun k (hk : D3 k) => M3.out.at_.lt hk)
          have h5s := M3.out.fr.size
          clear hf ho5
          go_wp2_with fail
          refine (clone_any _ m gc s.l w5 (Reads.of_own HO3.out) (by omega)).mono ?_
          rintro e w6 ⟨G6, c6, rfl, ho6, _, hf⟩
          replace M3 := Lib.hid (M3.out.fr0 hf)
          have O5b := Lib.hid (own_fr O5.out hf (fun _ _ z => z))
          have O6 := Lib.hid ho6
          have L5 := Lib.hid (fun k hk => (O5.out.lt k hk).2)
          clear hf ho6
          have DL := Lib.hid (del_own G6 m c6 nn (nn + 1) s.l w6 (own_base O6.out (Nat.zero_le _)) (by omega) (by omega) (by omega))
          rw [show ((nn + 1 : Nat) : Int) = (nn : Int) + 1 by omega] at DL
          go_wp2_with fail
          refine DL.out.mono ?_
          rintro e w7 ⟨rfl, ho7, hf7⟩
          have hdom : ∀ k, (Value.slice G6 (nn + (m - (nn + 1))) c6).ownBlock = some k → w5.heap.size ≤ k := fun k hk => (O6.out.lt k (by rw [own_len G6 _ c6 (nn + (m - (nn + 1))) c6]; exact hk)).1
          have HM5 := HD5
          have M7 := Lib.hid (M3.out.beside hf7 (fun k hk => by have := hdom k hk; omega) (fun k h1 h2 => by have := hdom k h2; have := HM5.out k h1; omega))
          have R5 := Lib.hid (Reads.of_own (own_fr O5b.out hf7 (fun k hk e => by have := hdom k e; have := L5.out k hk; omega)))
          have R7 := Lib.hid (Reads.of_own ho7)
          rw [← HCI.out] at R7
          have hq : nn + (m - (nn + 1)) = m - 1 := by omega
          rw [HCL.out] at R5 ⊢
          rw [hq] at R7 ⊢
          have EQ := Lib.hid (equal_eq G5 G6 (m - 1) c5 (m - 1) c6 s2.l w7 R5.out R7.out (by omega))
          clear hf7 ho7 hdom
          go_wp2_with fail
          refine EQ.out.mono ?_
          rintro e w8 ⟨rfl, q, rfl⟩
          replace M7 := Lib.hid (M7.out.fr0 ((Fr.refl No _).drewN q))
          generalize w7.drewN q = w8 at *
          go_wp2_with fail
          refine (A1.out _ M7.out.at_).mono ?_
          rintro e w9 ⟨rfl, hf⟩
          replace M7 := Lib.hid (M7.out.fr0 hf)
          clear hf
          go_wp2_with fail
          refine (works_any _).mono ?_
          rintro e w10 ⟨rfl, hf⟩
          have F9 := Lib.hid (F0.out.then0 (M7.out.fr.then0 hf))
          clear hf
          go_wp2
          go_ret
          exact ⟨rfl, F9.out⟩
  · have hpv : pickV (isA a1) s = 0 := by unfold pickV; rw [← HNN.out, HSL.out, if_neg hlt]
    have hpb : pickB (isA a1) s = false := by unfold pickB; rw [← HNN.out, HSL.out]; simpa using hlt
    have hps : pickS (isA a1) s = s := by unfold pickS; rw [← HNN.out, HSL.out, if_neg hlt]
    rw [hpv, hpb]
    rw [hps] at M3
    rw [if_neg hlt] at IX
    have hmn : min (nn + 1) m = m := by omega
    rw [hmn] at g0 HOA HGA
    have hmm : ((m : Int) != (m : Int)) = false := by simp
    clear hpv hpb hps hmn
    go_wp2_with fail
    refine IX.out.mono ?_
    rintro e w4 ⟨rfl, hf⟩
    replace M3 := Lib.hid (M3.out.fr0 hf)
    replace HO3 := Lib.hid (own_fr HO3.out hf (fun _ _ z => z))
    have g1 : w4.cell? ⟨w2.heap.size, 0, none⟩ = some (.slice GA m ca) := (hf.cell (p := ⟨w2.heap.size, 0, none⟩) g0l (fun z => z)).trans g0
    have PN := Lib.hid (show ∀ X, QAt X b D3 s → Calls Try.prog 23 #[.pointer (some ⟨b, 0, none⟩), .nilFunc] X fun e w' => e = .returned (.tuple #[.int .i64 0, .bool false]) ∧ X = w' from fun X hX => by
      obtain ⟨bm, v, hv, _⟩ := hX
      exact Pick_nil b bm v s X hv)
    clear hf g0 g0l
    go_wp2_with fail
    refine (PN.out _ M3.out.at_).mono ?_
    rintro e w5 ⟨rfl, rfl⟩
    clear g1
    go_wp2_with fail
    refine (Items_at b D3 s _ M3.out.at_).mono ?_
    rintro e w5 ⟨G5, c5, rfl, ho5, _, hf⟩
    replace M3 := Lib.hid (M3.out.fr0 hf)
    have R5 := Lib.hid (Reads.of_own ho5)
    have R3 := Lib.hid (Reads.of_own (own_fr HO3.out hf (fun _ _ z => z)))
    rw [HSL.out] at R5 ⊢
    have EQ := Lib.hid (equal_eq G5 G m c5 m gc s.l w5 R5.out R3.out (by omega))
    clear hf ho5
    go_wp2_with fail
    refine EQ.out.mono ?_
    rintro e w6 ⟨rfl, q, rfl⟩
    replace M3 := Lib.hid (M3.out.fr0 ((Fr.refl No _).drewN q))
    generalize w5.drewN q = w6 at *
    go_wp2_with fail
    refine (works_any _).mono ?_
    rintro e w7 ⟨rfl, hf⟩
    have F9 := Lib.hid (F0.out.then0 (M3.out.fr.then0 hf))
    clear hf
    go_wp2
    go_ret
    exact ⟨rfl, F9.out⟩
end Go.Proofs.Ytcjcoigjedcieaa
