/- Scripts; filled. -/
import Derived.Test.YtgkpmckbdagkcaaW
import Derived.Test.YtgkpmckbdagkcaaFlat
namespace Go.Wk
open Go.RowKit
theorem RowF.at_ {ks : List IntKind} {bytes : Nat} {w : World} {A : Option Addr} {n c : Nat} {es : List (List Int)} (h : RowF ks bytes w A n c es) (hks : 0 < ks.length) {k : Nat} (hk : k < n) :
    ∃ b off, A = some ⟨b, off, none⟩ ∧ b < w.heap.size ∧ (es.getD k []).length = ks.length ∧ (∀ (i : Nat) (q : IntKind) (v : Int), ks[i]? = some q → (es.getD k [])[i]? = some v → (Lit.int q v).wf = true) ∧
      ∀ j u, (rowOf ks (es.getD k []))[j]? = some u → w.cell? ⟨b, off + k * ks.length + j, none⟩ = some u := by
  obtain ⟨_, _, hr, hl, hw⟩ := h
  obtain ⟨ad, hA, hb, hc⟩ := hr.2 (by omega)
  have hmem : ∀ i, i < n → es.getD i [] ∈ es := fun i hi => by
    rw [show es.getD i [] = es[i]'(by omega) by simp [show i < es.length by omega]]
    exact List.getElem_mem _
  have hlen : ∀ i, i < n → (rowOf ks (es.getD i [])).length = ks.length := fun i hi => by
    rw [rowOf, List.length_zipWith, (hw _ (hmem i hi)).1, Nat.min_self]
  have key : ∀ j u, (rowOf ks (es.getD k []))[j]? = some u → w.cell? (ad.add (k * ks.length + j)) = some u := fun j u hu => by
    have hj : j < ks.length := by
      have := (List.getElem?_eq_some_iff.1 hu).1
      rw [hlen k hk] at this
      exact this
    exact hc _ u ((flatMap_get es k j (fun ns hn => (hw ns hn).1) (by omega) hj).trans hu)
  obtain ⟨b, off, spot⟩ := ad
  have hs : spot = none := by
    have h0 := hlen 0 (by omega)
    have hr0 : (rowOf ks (es.getD 0 []))[0]? = some ((rowOf ks (es.getD 0 []))[0]'(by omega)) := List.getElem?_eq_getElem _
    have := hc _ _ ((flatMap_get es 0 0 (fun ns hn => (hw ns hn).1) (by omega) hks).trans hr0)
    rw [Nat.zero_mul] at this
    simpa [Addr.add] using World.cell?_spot this
  subst hs
  refine ⟨b, off, hA, hb, (hw _ (hmem k hk)).1, (hw _ (hmem k hk)).2, fun j u hu => ?_⟩
  have := key j u hu
  rw [add_plain, ← Nat.add_assoc] at this
  exact this
theorem RowF.fr {S : Nat → Prop} {ks : List IntKind} {bytes : Nat} {w w' : World} {A : Option Addr} {n c : Nat} {es : List (List Int)} (h : RowF ks bytes w A n c es) (hf : Fr S w w') (hS : ∀ b, b < w.heap.size → ¬ S b) : RowF ks bytes w' A n c es := by
  obtain ⟨h1, h2, h3, h4, h5⟩ := h
  exact ⟨h1, h2, (h3.fr hf (Nat.le_refl _) hS).more hf.size, h4, h5⟩
theorem RowF.fr0 {ks : List IntKind} {bytes : Nat} {w w' : World} {A : Option Addr} {n c : Nat} {es : List (List Int)} (h : RowF ks bytes w A n c es) (hf : Fr No w w') : RowF ks bytes w' A n c es := h.fr hf (fun _ _ x => x)
end Go.Wk
namespace Go.Proofs.Ytgkpmckbdagkcaa
open Go.RowKit Go.Wk

/-- A step of a script. -/
structure Stp where
  d : Int
  id : Int
  at_ : Int
def stp (l : List Int) : Stp := ⟨l.getD 0 0, l.getD 1 0, l.getD 2 0⟩
abbrev kStp : List IntKind := [.i64, .i64, .i64]
def LS.step (s : LS) (x : Stp) : LS := if x.d = 0 then addS s x.id x.at_ else if x.d = 1 then remS s x.id else if x.d = 2 then pastS s x.at_ else s
def fillS (xs : List Stp) : LS := xs.foldl LS.step .new
def stps (es : List (List Int)) : List Stp := es.map stp

theorem fillS_succ (es : List (List Int)) {k : Nat} (hk : k < es.length) : fillS ((stps es).take (k + 1)) = (fillS ((stps es).take k)).step (stp (es.getD k [])) := by
  have hl : k < (stps es).length := by simpa [stps] using hk
  rw [List.take_succ_eq_append_getElem hl, fillS, List.foldl_append]
  simp [fillS, stps, hk]
theorem addS_seq (s : LS) (x d : Int) : (addS s x d).seq ≤ s.seq + 1 := by
  unfold addS
  split
  · exact Int.le_refl _
  · omega
theorem step_seq (s : LS) (x : Stp) : (s.step x).seq ≤ s.seq + 1 := by
  unfold LS.step
  split
  · exact addS_seq _ _ _
  · split
    · show s.seq ≤ _; omega
    · split
      · show s.seq ≤ _; omega
      · omega
theorem foldl_seq : ∀ (xs : List Stp) (s : LS), (xs.foldl LS.step s).seq ≤ s.seq + xs.length
  | [], s => by simp
  | x :: xs, s => by
    have h1 := foldl_seq xs (s.step x)
    have h2 := step_seq s x
    simp only [List.foldl_cons, List.length_cons]
    omega
theorem fillS_seq (xs : List Stp) : (fillS xs).seq ≤ xs.length := by
  have := foldl_seq xs .new
  have e : LS.new.seq = 0 := rfl
  rw [e] at this
  unfold fillS
  omega

theorem three {bytes : Nat} {w : World} {A : Option Addr} {n c : Nat} {es : List (List Int)} (h : RowF kStp bytes w A n c es) {k : Nat} (hk : k < n) :
    ∃ b off x, x = stp (es.getD k []) ∧ A = some ⟨b, off, none⟩ ∧ b < w.heap.size ∧ fits x.id ∧ fits x.at_ ∧
      w.cell? ⟨b, off + k * 3, none⟩ = some (.int .i64 x.d) ∧ w.cell? ⟨b, off + k * 3 + 1, none⟩ = some (.int .i64 x.id) ∧ w.cell? ⟨b, off + k * 3 + 2, none⟩ = some (.int .i64 x.at_) := by
  obtain ⟨b, off, hA, hb, hl, hw, hc⟩ := h.at_ (by decide) hk
  generalize es.getD k [] = l at *
  match l, hl with
  | [d, j, u], _ =>
    have h1 := hw 1 .i64 j rfl rfl
    have h2 := hw 2 .i64 u rfl rfl
    simp [Lit.wf] at h1 h2
    exact ⟨b, off, _, rfl, hA, hb, ⟨h1.1, h1.2⟩, ⟨h2.1, h2.2⟩, hc 0 _ rfl, hc 1 _ rfl, hc 2 _ rfl⟩

/-- A list of the call's own. -/
structure Mine (w wr : World) (b : Nat) (D : Nat → Prop) (s : LS) : Prop where
  at_ : LateAt wr b D s
  fr : Fr No w wr
  hD : ∀ k, D k → w.heap.size ≤ k

theorem Mine.fr0 {w w1 w2 : World} {b : Nat} {D : Nat → Prop} {s : LS} (h : Mine w w1 b D s) (hf : Fr No w1 w2) : Mine w w2 b D s := ⟨h.at_.fr0 hf, h.fr.then0 hf, h.hD⟩
theorem Mine.next {w w1 w2 : World} {b : Nat} {D : Nat → Prop} {s s' : LS} (h : Mine w w1 b D s) (ht : TurnedAt w1 b D s' w2) : ∃ D', Mine w w2 b D' s' ∧ (∀ k, D' k → D k ∨ w1.heap.size ≤ k) ∧ Fr D w1 w2 := by
  obtain ⟨D', hl, hf, hd⟩ := ht
  exact ⟨D', ⟨hl, h.fr.ownS hf h.hD, fun k hk => (hd k hk).elim (h.hD k) (fun h' => Nat.le_trans h.fr.size h')⟩, hd, hf⟩
theorem Mine.not {w wr : World} {b : Nat} {D : Nat → Prop} {s : LS} (h : Mine w wr b D s) {k : Nat} (hk : k < w.heap.size) : ¬ D k := fun x => by
  have := h.hD k x
  omega
theorem Mine.back {w w0 wr : World} {b : Nat} {D : Nat → Prop} {s : LS} (h : Mine w0 wr b D s) (hf : Fr No w w0) : Mine w wr b D s :=
  ⟨h.at_, hf.then0 h.fr, fun k hk => Nat.le_trans hf.size (h.hD k hk)⟩
/-- Another list's turn. -/
theorem Mine.beside {w w1 w2 : World} {b : Nat} {D E : Nat → Prop} {s : LS} (h : Mine w w1 b D s) (hf : Fr E w1 w2) (hE : ∀ k, E k → w.heap.size ≤ k) (ha : ∀ k, D k → ¬ E k) : Mine w w2 b D s :=
  ⟨h.at_.fr hf ha, h.fr.ownS hf hE, h.hD⟩
theorem Mine.past {w w1 w2 : World} {b : Nat} {D : Nat → Prop} {s s' : LS} (h : Mine w w1 b D s) (hl : LateAt w2 b D s') (hf : Fr D w1 w2) : Mine w w2 b D s' := ⟨hl, h.fr.ownS hf h.hD, h.hD⟩

def Filled (w : World) (s : LS) (x : Ending) (w' : World) : Prop := ∃ b D, x = .returned (.pointer (some ⟨b, 0, none⟩)) ∧ Mine w w' b D s

set_option maxRecDepth 100000 in
set_option maxHeartbeats 4000000 in
theorem filled_any (A : Option Addr) (n c : Nat) (es : List (List Int)) (w : World) (h : RowF kStp 24 w A n c es) (hn : n ≤ 80) :
    Calls Try.prog 34 #[.slice A n c] w fun x w' => Filled w (fillS (stps es)) x w' := by
  have hl := h.2.2.2.1
  have HR := Lib.hid h
  clear h
  go_enter Try.func34, Try.ntmps34
  go_wp2_with fail
  refine (New_any _).mono ?_
  rintro x w1 ⟨b, D1, rfl, hc, hD1, hf⟩
  have OW : Mine w w1 b D1 (fillS ((stps es).take 0)) := ⟨hc, hf, hD1⟩
  clear hc hf hD1
  go_wp2
  go_loopw [4] (fun i wr => ∃ (k : Nat) (D : Nat → Prop), i = .int .i64 k ∧ k ≤ n ∧ Mine w wr b D (fillS ((stps es).take k))) (fun i _ => n - (intOf i).toNat)
  case atStart => exact ⟨0, _, rfl, Nat.zero_le _, OW⟩
  case round =>
    clear OW
    obtain ⟨k, D, rfl, hk, OW⟩ := hrel
    by_cases hlt : k < n
    · obtain ⟨xb, xo, x, hx, rfl, hxb, hfi, hfa, h0, h1, h2⟩ := three HR.out hlt
      have HS := Lib.hid (fillS_succ es (by omega : k < es.length))
      rw [← hx] at HS
      have hseq : (fillS ((stps es).take k)).seq + 1 ≤ 10000 := by
        have := fillS_seq ((stps es).take k)
        have := List.length_take_le k (stps es)
        omega
      generalize fillS ((stps es).take k) = s at *
      have c0 := (OW.fr.cell (p := ⟨xb, xo + k * 3, none⟩) hxb (fun x => x)).trans h0
      have c1 := (OW.fr.cell (p := ⟨xb, xo + k * 3 + 1, none⟩) hxb (fun x => x)).trans h1
      have c2 := (OW.fr.cell (p := ⟨xb, xo + k * 3 + 2, none⟩) hxb (fun x => x)).trans h2
      have hnd := OW.not hxb
      have hxw := Nat.lt_of_lt_of_le hxb OW.fr.size
      have HO := Lib.hid OW
      clear h0 h1 h2 OW hx
      by_cases hd0 : x.d = 0
      · have HE := Lib.hid (show s.step x = addS s x.id x.at_ by unfold LS.step; rw [if_pos hd0])
        go_wp2
        have KD : wr.drew.cell? ⟨xb, xo + k * 3 + 1, none⟩ = some (.int .i64 x.id) ∧ wr.drew.cell? ⟨xb, xo + k * 3 + 2, none⟩ = some (.int .i64 x.at_) := ⟨c1, c2⟩
        have HOD := Lib.hid (HO.out.fr0 ((Fr.refl No wr).drew))
        go_region_held3 (fun w' => w'.cell? ⟨xb, xo + k * 3 + 1, none⟩ = some (.int .i64 x.id) ∧ w'.cell? ⟨xb, xo + k * 3 + 2, none⟩ = some (.int .i64 x.at_)) (first | go_keep | exact k1 | exact KD)
          (first
            | (go_at_call 14; refine (Add_at _ D s x.id x.at_ hfi hseq wr.drew HOD.out.at_).mono ?_; rintro e w2 ⟨rfl, ht⟩; obtain ⟨D', HN, hdd, hf⟩ := HOD.out.next ht; have k1 : w2.cell? ⟨xb, xo + k * 3 + 1, none⟩ = some (.int .i64 x.id) ∧ w2.cell? ⟨xb, xo + k * 3 + 2, none⟩ = some (.int .i64 x.at_) := ⟨(hf.cell (p := ⟨xb, xo + k * 3 + 1, none⟩) hxw hnd).trans c1, (hf.cell (p := ⟨xb, xo + k * 3 + 2, none⟩) hxw hnd).trans c2⟩))
        rw [← HE.out, ← HS.out] at HN
        generalize addE s x.id x.at_ = ge at *
        clear ht hf hdd c0 c1 c2 k1 KD
        go_wp2
        go_roundw
        case rel => exact ⟨k + 1, _, by go_num, by omega, HN⟩
        case measure => simp [intOf]; omega
      by_cases hd1 : x.d = 1
      · have HE := Lib.hid (show s.step x = remS s x.id by unfold LS.step; rw [if_neg hd0, if_pos hd1])
        go_wp2_with fail
        refine (Remove_at _ D s x.id hfi _ HO.out.at_).mono ?_
        rintro e w2 ⟨rfl, ht⟩
        obtain ⟨D', HN, _, _⟩ := HO.out.next ht
        rw [← HE.out, ← HS.out] at HN
        generalize remE s x.id = ge at *
        clear ht c0 c1 c2
        go_wp2
        go_roundw
        case rel => exact ⟨k + 1, _, by go_num, by omega, HN⟩
        case measure => simp [intOf]; omega
      by_cases hd2 : x.d = 2
      · have HE := Lib.hid (show s.step x = pastS s x.at_ by unfold LS.step; rw [if_neg hd0, if_neg hd1, if_pos hd2])
        go_wp2_with fail
        refine (Past_at _ D s x.at_ _ HO.out.at_).mono ?_
        rintro e w2 ⟨G, gc, rfl, _, _, hl2, hf2⟩
        have HN := HO.out.past hl2 hf2
        rw [← HE.out, ← HS.out] at HN
        generalize pastN s x.at_ = ge at *
        clear hl2 hf2 c0 c1 c2
        go_wp2
        go_roundw
        case rel => exact ⟨k + 1, _, by go_num, by omega, HN⟩
        case measure => simp [intOf]; omega
      · have HE : s.step x = s := by unfold LS.step; rw [if_neg hd0, if_neg hd1, if_neg hd2]
        have HN := HO.out
        rw [← HE, ← HS.out] at HN
        clear HE
        have HN := Lib.hid HN
        go_wp2
        go_roundw
        case rel => exact ⟨k + 1, _, by go_num, by omega, HN.out⟩
        case measure => simp [intOf]; omega
    · have hkn : k = n := by omega
      rw [hkn, List.take_of_length_le (by simp [stps]; omega)] at OW
      have HO := Lib.hid OW
      clear OW
      go_wp2
      go_ret
      exact ⟨_, D, rfl, HO.out⟩
end Go.Proofs.Ytgkpmckbdagkcaa
