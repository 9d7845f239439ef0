/- What a list shows: ids and deadlines; alike. -/
import Derived.Test.YtgkpmckbdagkcaaF
namespace Go.Proofs.Ytgkpmckbdagkcaa
open Go.RowKit Go.Wk

def vw (l : List LE) : List (Int × Int) := l.map (fun e => (e.id, e.at_))
def lookV (v : List (Int × Int)) (x : Int) : Option Int := (v.find? (fun p => p.1 == x)).map Prod.snd
theorem lookV_vw (l : List LE) (x : Int) : (mkOf l x).map Prod.fst = lookV (vw l) x := by
  induction l with
  | nil => rfl
  | cons a l ih =>
    rw [mkOf_cons]
    unfold lookV vw at *
    rw [List.map_cons]
    by_cases h : a.id = x
    · rw [if_pos h, List.find?_cons_of_pos (by simpa using h)]; rfl
    · rw [if_neg h, List.find?_cons_of_neg (by simpa using h), ih]
theorem getV_vw (s : LS) (x : Int) : getV s x = (lookV (vw s.l) x).getD 0 := by
  unfold getV
  rw [← lookV_vw]
  cases mkOf s.l x <;> rfl
theorem getB_vw (s : LS) (x : Int) : getB s x = (lookV (vw s.l) x).isSome := by
  unfold getB
  rw [← lookV_vw, Option.isSome_map]
theorem getV_eq {s s' : LS} (h : vw s.l = vw s'.l) (x : Int) : getV s x = getV s' x := by rw [getV_vw, getV_vw, h]
theorem getB_eq {s s' : LS} (h : vw s.l = vw s'.l) (x : Int) : getB s x = getB s' x := by rw [getB_vw, getB_vw, h]
theorem ids_vw (l : List LE) : ids l = (vw l).map Prod.fst := by unfold ids vw; rw [List.map_map]; rfl
theorem ids_eq {s s' : LS} (h : vw s.l = vw s'.l) : ids s.l = ids s'.l := by rw [ids_vw, ids_vw, h]
theorem len_eq {s s' : LS} (h : vw s.l = vw s'.l) : s.l.length = s'.l.length := by
  have := congrArg List.length h
  simpa [vw] using this
theorem getB_get {s : LS} (h : s.ok) {i : Nat} (hi : i < s.l.length) : getB s (s.l.getD i LE.zero).id = true := by unfold getB; rw [mkOf_get h hi]; rfl
theorem getV_get {s : LS} (h : s.ok) {i : Nat} (hi : i < s.l.length) : getV s (s.l.getD i LE.zero).id = (s.l.getD i LE.zero).at_ := by unfold getV; rw [mkOf_get h hi]; rfl
theorem fits_get {s : LS} (h : s.ok) {i : Nat} (hi : i < s.l.length) : fits (s.l.getD i LE.zero).id := by
  have e : s.l.getD i LE.zero = s.l[i] := by simp [hi]
  rw [e]; exact h.fit _ (List.getElem_mem hi)

theorem LateAt.n {w : World} {b : Nat} {D : Nat → Prop} {s : LS} (h : LateAt w b D s) : s.l.length ≤ 10000 := by have h1 := h.ok.len; have h2 := h.ok.s1; omega

set_option maxRecDepth 100000 in
set_option maxHeartbeats 4000000 in
theorem alike_any (b b' : Nat) (D D' : Nat → Prop) (s s' : LS) (w : World) (h : LateAt w b D s) (h' : LateAt w b' D' s') (hv : vw s.l = vw s'.l) :
    Calls Try.prog 17 #[.pointer (some ⟨b, 0, none⟩), .pointer (some ⟨b', 0, none⟩)] w fun e w' => e = .returned (.bool true) ∧ Fr No w w' := by
  have hn := h.n
  have HI := Lib.hid (ids_eq hv)
  have HN := Lib.hid (len_eq hv)
  have HV := Lib.hid hv
  have HOK := Lib.hid h.ok
  obtain ⟨N, hN⟩ : ∃ N, N = s.l.length := ⟨_, rfl⟩
  have A1 := Lib.hid (fun X hX => Ids_at b D s X hX)
  have A2 := Lib.hid (fun X hX => Ids_at b' D' s' X hX)
  have A3 := Lib.hid (fun X hX => Len_at b D s X hX)
  have A4 := Lib.hid (fun X hX => Len_at b' D' s' X hX)
  rw [← HI.out, ← HN.out] at A2
  rw [← HN.out] at A4
  rw [← hN] at A1 A2 A3 A4 hn
  have HNN := Lib.hid hN
  have hnb : ((N : Int) != (N : Int)) = false := by simp
  clear hv hN
  go_enter Try.func17, Try.ntmps17
  go_wp2_with fail
  refine (A1.out _ h).mono ?_
  rintro e w1 ⟨G, gc, rfl, ho, hgc, hf1⟩
  have h1 := h.fr0 hf1
  have h1' := h'.fr0 hf1
  clear h h'
  go_wp2_with fail
  refine (A2.out _ h1').mono ?_
  rintro e w2 ⟨G', gc', rfl, ho', hgc', hf2⟩
  have h2 := h1.fr0 hf2
  have h2' := h1'.fr0 hf2
  have R := Lib.hid ((Reads.of_own ho).fr0 hf2)
  have F := Lib.hid (hf1.then0 hf2)
  have S := Lib.hid (same_any G G' N gc N gc' (ids s.l) (ids s.l) w2 R.out (Reads.of_own ho') (by omega))
  rw [decide_eq_true rfl] at S
  clear h1 h1' hf1 hf2 ho ho'
  go_wp2_with fail
  refine S.out.mono ?_
  rintro e w3 ⟨rfl, q, rfl⟩
  have h3 := h2.fr0 ((Fr.refl No w2).drewN q)
  have h3' := h2'.fr0 ((Fr.refl No w2).drewN q)
  have F3 := Lib.hid (F.out.drewN q)
  have R3 := Lib.hid (R.out.fr0 ((Fr.refl No w2).drewN q))
  clear h2 h2'
  generalize w2.drewN q = w3 at *
  clear S R F
  go_wp2_with fail
  refine (A3.out _ h3).mono ?_
  rintro e _ ⟨rfl, rfl⟩
  go_wp2_with fail
  refine (A4.out _ h3').mono ?_
  rintro e _ ⟨rfl, rfl⟩
  have H3 := Lib.hid h3
  have H3' := Lib.hid h3'
  clear h3 h3'
  go_wp2
  go_loopw [6] (fun i wr => ∃ k : Nat, i = .int .i64 k ∧ k ≤ N ∧ Fr No w3 wr) (fun i _ => N - (intOf i).toNat)
  case atStart => exact ⟨0, rfl, Nat.zero_le _, Fr.refl _ _⟩
  case round =>
    obtain ⟨k, rfl, hk, hf⟩ := hrel
    by_cases hlt : k < N
    · have hlt' : k < s.l.length := by rw [← HNN.out]; exact hlt
      obtain ⟨g, off, rfl, hgl, a0⟩ := (R3.out.fr0 hf).int_at (kd := .i64) (xs := ids s.l) hlt
      rw [ids_get _ _ hlt'] at a0
      have HB := Lib.hid (getB_get HOK.out hlt')
      have hfx := fits_get HOK.out hlt'
      generalize (s.l.getD k LE.zero).id = x at *
      have G1 := Lib.hid (Get_at b D s x hfx wr (H3.out.fr0 hf))
      have G2 := Lib.hid (fun X hX => Get_at b' D' s' x hfx X hX)
      rw [← getV_eq HV.out, ← getB_eq HV.out] at G2
      rw [HB.out] at G1 G2
      generalize getV s x = y at *
      have HF := Lib.hid hf
      clear hf HB hlt'
      go_wp2_with fail
      refine G1.out.mono ?_
      rintro e w4 ⟨rfl, hf4⟩
      have F4 := Lib.hid (HF.out.then0 hf4)
      have a1 := (hf4.cell (p := ⟨g, off + k, none⟩) hgl (fun x => x)).trans a0
      clear hf4
      go_wp2_with fail
      refine (G2.out _ (H3'.out.fr0 F4.out)).mono ?_
      rintro e w5 ⟨rfl, hf5⟩
      have F5 := F4.out.then0 hf5
      have hy : (y != y) = false := by simp
      clear hf5
      have F5 := Lib.hid F5
      go_wp2
      go_roundw
      case rel => exact ⟨k + 1, by go_num, by omega, F5.out⟩
      case measure => simp [intOf]; omega
    · have HF := Lib.hid hf
      clear hf
      go_wp2
      go_ret
      exact ⟨rfl, F3.out.then0 HF.out⟩
end Go.Proofs.Ytgkpmckbdagkcaa
