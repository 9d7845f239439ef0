/- Scripts; filled. -/
import Derived.Test.YtopcjakgfaobcaaN
import Derived.Test.YtopcjakgfaobcaaFlat
namespace Go.Wk
open Go.RowKit
theorem RowF.at_ {ks : List IntKind} {bytes : Nat} {w : World} {A : Option Addr} {n c : Nat} {es : List (List Int)} (h : RowF ks bytes w A n c es) (hks : 0 < ks.length) {k : Nat} (hk : k < n) :
    ∃ b off, A = some ⟨b, off, none⟩ ∧ b < w.heap.size ∧ (es.getD k []).length = ks.length ∧ (∀ (i : Nat) (q : IntKind) (v : Int), ks[i]? = some q → (es.getD k [])[i]? = some v → (Lit.int q v).wf = true) ∧
      ∀ j u, (rowOf ks (es.getD k []))[j]? = some u → w.cell? ⟨b, off + k * ks.length + j, none⟩ = some u := by
  obtain ⟨_, _, hr, hl, hw⟩ := h
  obtain ⟨ad, hA, hb, hc⟩ := hr.2 (by omega)
  have hmem : ∀ i, i < n → es.getD i [] ∈ es := fun i hi => by
    rw [show es.getD i [] = es[i]'(by omega) by simp [show i < es.length by omega]]
    exact List.getElem_mem _
  have hlen : ∀ i, i < n → (rowOf ks (es.getD i [])).length = ks.length := fun i hi => by
    rw [rowOf, List.length_zipWith, (hw _ (hmem i hi)).1, Nat.min_self]
  have key : ∀ j u, (rowOf ks (es.getD k []))[j]? = some u → w.cell? (ad.add (k * ks.length + j)) = some u := fun j u hu => by
    have hj : j < ks.length := by
      have := (List.getElem?_eq_some_iff.1 hu).1
      rw [hlen k hk] at this
      exact this
    exact hc _ u ((flatMap_get es k j (fun ns hn => (hw ns hn).1) (by omega) hj).trans hu)
  obtain ⟨b, off, spot⟩ := ad
  have hs : spot = none := by
    have h0 := hlen 0 (by omega)
    have hr0 : (rowOf ks (es.getD 0 []))[0]? = some ((rowOf ks (es.getD 0 []))[0]'(by omega)) := List.getElem?_eq_getElem _
    have := hc _ _ ((flatMap_get es 0 0 (fun ns hn => (hw ns hn).1) (by omega) hks).trans hr0)
    rw [Nat.zero_mul] at this
    simpa [Addr.add] using World.cell?_spot this
  subst hs
  refine ⟨b, off, hA, hb, (hw _ (hmem k hk)).1, (hw _ (hmem k hk)).2, fun j u hu => ?_⟩
  have := key j u hu
  rw [add_plain, ← Nat.add_assoc] at this
  exact this
end Go.Wk
namespace Go.Proofs.Ytopcjakgfaobcaa
open Go.RowKit Go.Wk

/-- A step of a script. -/
structure Stp where
  d : Int
  job : Int
  due : Int
  att : Int
  now : Int
  run : Int
def stp (l : List Int) : Stp := ⟨l.getD 0 0, l.getD 1 0, l.getD 2 0, l.getD 3 0, l.getD 4 0, l.getD 5 0⟩
abbrev kStp : List IntKind := [.i64, .i64, .i64, .i64, .i64, .i64]
def TS.step (s : TS) (x : Stp) : TS := if x.d = 1 then s.finS x.run else s.startS x.job x.due x.att x.now
def fillS (xs : List Stp) : TS := xs.foldl TS.step (.new 50)
def stps (es : List (List Int)) : List Stp := es.map stp

theorem fillS_succ (es : List (List Int)) {k : Nat} (hk : k < es.length) : fillS ((stps es).take (k + 1)) = (fillS ((stps es).take k)).step (stp (es.getD k [])) := by
  have hl : k < (stps es).length := by simpa [stps] using hk
  rw [List.take_succ_eq_append_getElem hl, fillS, List.foldl_append]
  simp [fillS, stps, hk]
theorem finS_last (s : TS) (r : Int) : (s.finS r).last = s.last := by
  unfold TS.finS
  split <;> rfl
theorem startS_last (s : TS) (a b c d : Int) : (s.startS a b c d).last ≤ s.last + 1 := by
  unfold TS.startS
  split
  · exact Int.le_refl _
  · omega
theorem step_last (s : TS) (x : Stp) : (s.step x).last ≤ s.last + 1 := by
  unfold TS.step
  split
  · rw [finS_last]; omega
  · exact startS_last _ _ _ _ _
theorem foldl_last : ∀ (xs : List Stp) (s : TS), (xs.foldl TS.step s).last ≤ s.last + xs.length
  | [], s => by simp
  | x :: xs, s => by
    have h1 := foldl_last xs (s.step x)
    have h2 := step_last s x
    simp only [List.foldl_cons, List.length_cons]
    omega
theorem fillS_last (xs : List Stp) : (fillS xs).last ≤ xs.length := by
  have := foldl_last xs (.new 50)
  have e : (TS.new 50).last = 0 := rfl
  rw [e] at this
  unfold fillS
  omega

theorem six {bytes : Nat} {w : World} {A : Option Addr} {n c : Nat} {es : List (List Int)} (h : RowF kStp bytes w A n c es) {k : Nat} (hk : k < n) :
    ∃ b off x, x = stp (es.getD k []) ∧ A = some ⟨b, off, none⟩ ∧ b < w.heap.size ∧ x.now ≤ 9223372036854775807 ∧
      w.cell? ⟨b, off + k * 6, none⟩ = some (.int .i64 x.d) ∧ w.cell? ⟨b, off + k * 6 + 1, none⟩ = some (.int .i64 x.job) ∧ w.cell? ⟨b, off + k * 6 + 2, none⟩ = some (.int .i64 x.due) ∧
      w.cell? ⟨b, off + k * 6 + 3, none⟩ = some (.int .i64 x.att) ∧ w.cell? ⟨b, off + k * 6 + 4, none⟩ = some (.int .i64 x.now) ∧ w.cell? ⟨b, off + k * 6 + 5, none⟩ = some (.int .i64 x.run) := by
  obtain ⟨b, off, hA, hb, hl, hw, hc⟩ := h.at_ (by decide) hk
  generalize es.getD k [] = l at *
  match l, hl with
  | [d, j, u, a, t, r], _ =>
    have h4 := hw 4 .i64 t rfl rfl
    exact ⟨b, off, _, rfl, hA, hb, by simp [stp]; simp [Lit.wf] at h4; omega, hc 0 _ rfl, hc 1 _ rfl, hc 2 _ rfl, hc 3 _ rfl, hc 4 _ rfl, hc 5 _ rfl⟩

/-- A table of the call's own. -/
structure Own (w wr : World) (b : Nat) (D : Nat → Prop) (s : TS) : Prop where
  tab : TabAt wr b D s
  fr : Fr No w wr
  hD : ∀ k, D k → w.heap.size ≤ k

theorem Own.fr0 {w w1 w2 : World} {b : Nat} {D : Nat → Prop} {s : TS} (h : Own w w1 b D s) (hf : Fr No w1 w2) : Own w w2 b D s := ⟨h.tab.fr0 hf, h.fr.then0 hf, h.hD⟩
theorem Own.next {w w1 w2 : World} {b : Nat} {D D' : Nat → Prop} {s s' : TS} (h : Own w w1 b D s) (ht : TabAt w2 b D' s') (hf : Fr D w1 w2) (hd : ∀ k, D' k → D k ∨ w1.heap.size ≤ k) : Own w w2 b D' s' :=
  ⟨ht, h.fr.ownS hf h.hD, fun k hk => (hd k hk).elim (h.hD k) (fun h' => Nat.le_trans h.fr.size h')⟩
theorem Own.not {w wr : World} {b : Nat} {D : Nat → Prop} {s : TS} (h : Own w wr b D s) {k : Nat} (hk : k < w.heap.size) : ¬ D k := fun x => by
  have := h.hD k x
  omega

def Filled (w : World) (s : TS) (x : Ending) (w' : World) : Prop := ∃ b D, x = .returned (.pointer (some ⟨b, 0, none⟩)) ∧ Own w w' b D s

set_option maxRecDepth 100000 in
set_option maxHeartbeats 4000000 in
theorem filled_any (A : Option Addr) (n c : Nat) (es : List (List Int)) (w : World) (h : RowF kStp 48 w A n c es) (hn : n ≤ 60) :
    Calls Try.prog 16 #[.slice A n c] w fun x w' => Filled w (fillS (stps es)) x w' := by
  have hl := h.2.2.2.1
  have HR := Lib.hid h
  clear h
  go_enter Try.func16, Try.ntmps16
  go_wp2_with fail
  refine (new_good 50 _ (by omega) (by omega)).mono ?_
  rintro x w1 ⟨rfl, hc, hf⟩
  have OW : Own w w1 w.heap.size (· = w.heap.size) (.new 50) := ⟨hc, hf, fun k hk => by omega⟩
  clear hc hf
  go_wp2
  go_loopw [5] (fun i wr => ∃ (k : Nat) (D : Nat → Prop), i = .int .i64 k ∧ k ≤ n ∧ Own w wr w.heap.size D (fillS ((stps es).take k))) (fun i _ => n - (intOf i).toNat)
  case atStart => exact ⟨0, _, rfl, Nat.zero_le _, OW⟩
  case round =>
    clear OW
    obtain ⟨k, D, rfl, hk, OW⟩ := hrel
    by_cases hlt : k < n
    · obtain ⟨xb, xo, x, hx, rfl, hxb, _, h0, h1, h2, h3, h4, h5⟩ := six HR.out hlt
      have HS := Lib.hid (fillS_succ es (by omega : k < es.length))
      rw [← hx] at HS
      have hlast : (fillS ((stps es).take k)).last < 1000000 := by
        have := fillS_last ((stps es).take k)
        have := List.length_take_le k (stps es)
        omega
      generalize fillS ((stps es).take k) = s at *
      have c0 := (OW.fr.cell (p := ⟨xb, xo + k * 6, none⟩) hxb (fun x => x)).trans h0
      have c1 := (OW.fr.cell (p := ⟨xb, xo + k * 6 + 1, none⟩) hxb (fun x => x)).trans h1
      have c2 := (OW.fr.cell (p := ⟨xb, xo + k * 6 + 2, none⟩) hxb (fun x => x)).trans h2
      have c3 := (OW.fr.cell (p := ⟨xb, xo + k * 6 + 3, none⟩) hxb (fun x => x)).trans h3
      have c4 := (OW.fr.cell (p := ⟨xb, xo + k * 6 + 4, none⟩) hxb (fun x => x)).trans h4
      have c5 := (OW.fr.cell (p := ⟨xb, xo + k * 6 + 5, none⟩) hxb (fun x => x)).trans h5
      have hnd := OW.not hxb
      have hxw := Nat.lt_of_lt_of_le hxb OW.fr.size
      have HO := Lib.hid OW
      clear h0 h1 h2 h3 h4 h5 OW hx
      by_cases hd : x.d = 1
      · have HE := Lib.hid (show s.step x = s.finS x.run by unfold TS.step; rw [if_pos hd])
        go_wp2_with fail
        refine (finish_any _ _ _ _ x.run HO.out.tab).mono ?_
        rintro e w2 ⟨rfl, ht, hf⟩
        have HN := HO.out.next ht hf (fun k hk => .inl hk)
        rw [← HE.out, ← HS.out] at HN
        generalize s.getV x.run = gv at *
        generalize s.finE x.run = ge at *
        clear ht hf c0 c1 c2 c3 c4 c5
        go_wp2
        go_roundw
        case rel => exact ⟨k + 1, _, by go_num, by omega, HN⟩
        case measure => simp [intOf]; omega
      · have HE := Lib.hid (show s.step x = s.startS x.job x.due x.att x.now by unfold TS.step; rw [if_neg hd])
        go_wp2
        have KD : wr.drew.cell? ⟨xb, xo + k * 6 + 1, none⟩ = some (.int .i64 x.job) ∧ wr.drew.cell? ⟨xb, xo + k * 6 + 2, none⟩ = some (.int .i64 x.due) ∧ wr.drew.cell? ⟨xb, xo + k * 6 + 3, none⟩ = some (.int .i64 x.att) ∧ wr.drew.cell? ⟨xb, xo + k * 6 + 4, none⟩ = some (.int .i64 x.now) := ⟨c1, c2, c3, c4⟩
        have HOD := Lib.hid (HO.out.fr0 ((Fr.refl No wr).drew))
        go_region_held3 (fun w' => w'.cell? ⟨xb, xo + k * 6 + 1, none⟩ = some (.int .i64 x.job) ∧ w'.cell? ⟨xb, xo + k * 6 + 2, none⟩ = some (.int .i64 x.due) ∧ w'.cell? ⟨xb, xo + k * 6 + 3, none⟩ = some (.int .i64 x.att) ∧ w'.cell? ⟨xb, xo + k * 6 + 4, none⟩ = some (.int .i64 x.now)) (first | go_keep | exact k1 | exact KD)
          (first
            | (go_at_call 13; refine (start_any _ D s wr.drew x.job x.due x.att x.now HOD.out.tab hlast).mono ?_; rintro e w2 ⟨rfl, D', ht, hf, hdd⟩; have k1 : w2.cell? ⟨xb, xo + k * 6 + 1, none⟩ = some (.int .i64 x.job) ∧ w2.cell? ⟨xb, xo + k * 6 + 2, none⟩ = some (.int .i64 x.due) ∧ w2.cell? ⟨xb, xo + k * 6 + 3, none⟩ = some (.int .i64 x.att) ∧ w2.cell? ⟨xb, xo + k * 6 + 4, none⟩ = some (.int .i64 x.now) := ⟨(hf.cell (p := ⟨xb, xo + k * 6 + 1, none⟩) hxw hnd).trans c1, (hf.cell (p := ⟨xb, xo + k * 6 + 2, none⟩) hxw hnd).trans c2, (hf.cell (p := ⟨xb, xo + k * 6 + 3, none⟩) hxw hnd).trans c3, (hf.cell (p := ⟨xb, xo + k * 6 + 4, none⟩) hxw hnd).trans c4⟩))
        have HN := HOD.out.next ht hf hdd
        rw [← HE.out, ← HS.out] at HN
        generalize s.startV x.job x.due x.att x.now = gv at *
        generalize s.startE x.job x.due x.att x.now = ge at *
        clear ht hf hdd c0 c1 c2 c3 c4 c5 k1 KD
        go_wp2
        go_roundw
        case rel => exact ⟨k + 1, _, by go_num, by omega, HN⟩
        case measure => simp [intOf]; omega
    · have hkn : k = n := by omega
      rw [hkn, List.take_of_length_le (by simp [stps]; omega)] at OW
      have HO := Lib.hid OW
      clear OW
      go_wp2
      go_ret
      exact ⟨_, D, rfl, HO.out⟩
end Go.Proofs.Ytopcjakgfaobcaa
