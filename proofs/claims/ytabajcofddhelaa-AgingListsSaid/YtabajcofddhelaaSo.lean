/- The contracts of list and Sort. -/
import Derived.Test.YtabajcofddhelaaStb
import Derived.Test.YtabajcofddhelaaCln
namespace Go.Proofs.Ytabajcofddhelaa
open Go.RowKit Go.Wk

def listE (y : Int) (l more : List IV) : Int := if yearsE y ≠ 0 then yearsE y else if 1024 < l.length then 12 else chkE y (l ++ more)
theorem chkE_nil (y : Int) : chkE y [] = yearsE y := by
  unfold chkE
  by_cases h : yearsE y = 0
  · rw [if_neg (by simpa using h), h]; rfl
  · rw [if_pos h]

theorem list_any (A A' : Option Addr) (n c n' c' : Nat) (l l' : List IV) (y : Int) (w : World) (h : Reads w w.heap.size 4 A n (icells l)) (h' : Reads w w.heap.size 4 A' n' (icells l')) (hn : n ≤ 9223372036854775807) (hn' : n' ≤ 10) :
    Calls Try.prog 37 #[.int .i64 y, .slice A n c, .slice A' n' c'] w fun x w' => x = .returned (.int .i64 (listE y l l')) ∧ Fr No w w' := by
  have HR := Lib.hid h
  have HR' := Lib.hid h'
  have hl := reads_ilen h
  have HL := Lib.hid hl
  have HC0 := Lib.hid (check_any none 0 0 [] y w Reads.none_ (by omega))
  have HCC := Lib.hid (fun A c X hR (hn : n + n' ≤ 9223372036854775807) => check_any A (n + n') c (l ++ l') y X hR hn)
  rw [chkE_nil] at HC0
  have HE := Lib.hid (show listE y l l' = if yearsE y ≠ 0 then yearsE y else if 1024 < n then 12 else chkE y (l ++ l') by unfold listE; rw [hl])
  clear h h' hl
  generalize listE y l l' = r at *
  generalize yearsE y = ye at *
  generalize hck : chkE y (l ++ l') = ck at *
  clear hck
  by_cases h0 : ye = 0
  · have hb : (ye != 0) = false := by simpa using h0
    rw [if_neg (by simpa using h0)] at HE
    by_cases h1 : 1024 < n
    · rw [if_pos h1] at HE
      have h1i : (1024 : Int) < (n : Int) := by omega
      clear h0
      go_enter Try.func37, Try.ntmps37
      go_wp2_with fail
      refine HC0.out.mono ?_
      rintro x w1 ⟨rfl, hf⟩
      go_wp2
      go_ret
      exact ⟨ret1i HE.out.symm, hf⟩
    · rw [if_neg h1] at HE
      have h1i : ¬ (1024 : Int) < (n : Int) := by omega
      clear h0
      go_enter Try.func37, Try.ntmps37
      go_wp2_with fail
      refine HC0.out.mono ?_
      rintro x w1 ⟨rfl, hf⟩
      have HF1 := Lib.hid hf
      have hbk := Blk.new w1 40 #[.slice A n c, .slice A' n' c']
      have HF2 := Lib.hid (hf.alloc (.cells #[.slice A n c, .slice A' n' c'] 40))
      have HCT := Lib.hid (concat_any w1.heap.size A A' n c n' c' l l' _ hbk (HR.out.fr0 HF2.out) (HR'.out.fr0 HF2.out) (by omega) (by omega))
      clear hf hbk
      go_wp2_with fail
      refine HCT.out.mono ?_
      rintro x w2 ⟨G, gc, rfl, ho, _, hf⟩
      have HF3 := Lib.hid (HF2.out.then0 hf)
      have HC2 := Lib.hid (HCC.out G gc w2 (Reads.of_own ho) (by omega))
      clear ho hf
      go_wp2_with fail
      refine HC2.out.mono ?_
      rintro x w3 ⟨rfl, hf⟩
      go_wp2
      go_ret
      exact ⟨ret1i HE.out.symm, HF3.out.then0 hf⟩
  · have hb : (ye != 0) = true := by simpa using h0
    rw [if_pos (by simpa using h0)] at HE
    clear h0
    go_enter Try.func37, Try.ntmps37
    go_wp2_with fail
    refine HC0.out.mono ?_
    rintro x w1 ⟨rfl, hf⟩
    go_wp2
    go_ret
    exact ⟨ret1i HE.out.symm, hf⟩

/-! ### nothing to sort -/
theorem ins_zero (A : Option Addr) (c : Nat) (F : Value) (w : World) : Calls Try.prog 55 #[.slice A 0 c, .int .i64 0, .int .i64 0, F] w fun x w' => x = .returned (.tuple #[]) ∧ Fr No w w' := by
  go_enter Try.func55, Try.ntmps55
  go_wp2
  go_loopw [8] (fun i wr => i = .int .i64 1 ∧ w = wr) (fun _ _ => 0)
  case atStart => exact ⟨rfl, rfl⟩
  case round =>
    obtain ⟨rfl, rfl⟩ := hrel
    go_wp2
    go_end0
    exact ⟨rfl, Fr.refl _ _⟩
theorem sortS_zero (A : Option Addr) (c : Nat) (F : Value) (w : World) : Calls Try.prog 39 #[.slice A 0 c, F] w fun x w' => x = .returned (.tuple #[]) ∧ Fr No w w' := by
  have H : Calls Try.prog 50 #[.slice A 0 c, .int .i64 0, F] w fun x w' => x = .returned (.tuple #[]) ∧ Fr No w w' := by
    go_enter Try.func50, Try.ntmps50
    go_wp2
    go_loopw [7, 8] (fun i j wr => i = .int .i64 0 ∧ j = .int .i64 20 ∧ w = wr) (fun _ _ _ => 0)
    case atStart => exact ⟨rfl, rfl, rfl⟩
    case round =>
      obtain ⟨rfl, rfl, rfl⟩ := hrel
      go_wp2_with fail
      refine (ins_zero A c F _).mono ?_
      rintro x w1 ⟨rfl, hf⟩
      go_wp2
      go_loopw [6] (fun i wr => i = .int .i64 20 ∧ w1 = wr) (fun _ _ => 0)
      case atStart => exact ⟨rfl, rfl⟩
      case round =>
        obtain ⟨rfl, rfl⟩ := hrel
        go_wp2
        go_end0
        exact ⟨rfl, hf⟩
  have HH := Lib.hid H
  clear H
  go_enter Try.func39, Try.ntmps39
  go_wp2_with fail
  refine HH.out.mono ?_
  rintro x w' ⟨rfl, hf⟩
  go_wp2
  go_end0
  exact ⟨rfl, hf⟩

/-- A list, sorted. -/
def SortOf (y : Int) (l l' : List IV) : Prop := ∃ L : List TI, l' = L.map Prod.fst ∧ L.Perm (tagged l) ∧ Srt y 0 l.length L
theorem SortOf.len {y : Int} {l l' : List IV} (h : SortOf y l l') : l'.length = l.length := by
  obtain ⟨L, rfl, hp, _⟩ := h
  rw [List.length_map, hp.length_eq, tagged_len]
theorem SortOf.perm {y : Int} {l l' : List IV} (h : SortOf y l l') : l'.Perm l := by
  obtain ⟨L, rfl, hp, _⟩ := h
  have := hp.map Prod.fst
  rwa [tagged_map] at this
theorem SortOf.one {y : Int} {l a b : List IV} (h : SortOf y l a) (k : SortOf y l b) : a = b := by
  obtain ⟨L, rfl, hp, hs⟩ := h
  obtain ⟨M, rfl, kp, ks⟩ := k
  have e1 : L.length = l.length := by rw [hp.length_eq, tagged_len]
  have e2 : M.length = l.length := by rw [kp.length_eq, tagged_len]
  rw [srt_one (hp.trans kp.symm) (by rw [e1]; exact hs) (by rw [e2]; exact ks)]

/-- The row of a slice of the call's own, as sorting takes it. -/
theorem RowT.of_own {w : World} {base n c g : Nat} {l : List IV} (h : w.ownsRow base 23 4 (.slice (some ⟨g, 0, none⟩) n c) n (icells l)) : RowT w g c (tagged l) := by
  have hl : l.length = n := by have := h.1; rw [icells_len] at this; omega
  rcases h.2 with ⟨h1, _⟩ | ⟨g', cap, cur, h1, _, h3, h4, _, h6, h7⟩
  · cases h1
  · injection h1 with h1 _ h2
    cases h1
    subst h2
    refine ⟨cur, h3, h6, by rw [tagged_len, hl]; exact h4, by rw [tagged_len, hl, h6]; omega, fun i k hi hk => ?_⟩
    rw [tagged_len] at hi
    rw [tagged_at l i hi, ← icells_get l i k hi hk, ← h7, List.getElem?_take, if_pos (by omega), Array.getElem?_toList]
theorem RowT.own {w : World} {base b c n : Nat} {L : List TI} (h : RowT w b c L) (hn : L.length = n) (hb : base ≤ b) (hc : c ≤ maxLen) : w.ownsRow base 23 4 (.slice (some ⟨b, 0, none⟩) n c) n (icells (L.map Prod.fst)) := by
  obtain ⟨cs, hB, h1, h2, h3, h4⟩ := h
  refine ⟨by rw [icells_len, List.length_map, hn], .inr ⟨b, c, cs, rfl, hb, hB, by omega, hc, h1, ?_⟩⟩
  apply List.ext_getElem?
  intro j
  rw [List.getElem?_take]
  by_cases hj : j < n * 4
  · rw [if_pos hj, Array.getElem?_toList]
    have e : j = j / 4 * 4 + j % 4 := by omega
    have hi : j / 4 < L.length := by omega
    rw [e, h4 (j / 4) (j % 4) hi (by omega), icells_get _ _ _ (by rw [List.length_map]; exact hi) (by omega), map_at L _ hi]
  · rw [if_neg hj, List.getElem?_eq_none (by rw [icells_len, List.length_map, hn]; omega)]

/-- What Sort gives. -/
def SortR (y : Int) (n : Nat) (l : List IV) (w : World) (x : Ending) (w' : World) : Prop := Fr No w w' ∧ ((listE y l [] ≠ 0 ∧ x = .returned (.tuple #[.slice none 0 0, .int .i64 (listE y l [])])) ∨
  (listE y l [] = 0 ∧ ∃ A c l', x = .returned (.tuple #[.slice A n c, .int .i64 0]) ∧ SortOf y l l' ∧ n ≤ c ∧ w'.ownsRow w.heap.size 23 4 (.slice A n c) n (icells l')))

theorem listE_ok {y : Int} {l more : List IV} (h : listE y l more = 0) : (1 ≤ y ∧ y ≤ 68719476736) ∧ l.length ≤ 1024 ∧ (∀ x ∈ l, Ok x) ∧ ∀ x ∈ more, Ok x := by
  unfold listE at h
  by_cases h0 : yearsE y = 0
  · rw [if_neg (by simpa using h0)] at h
    by_cases h1 : 1024 < l.length
    · rw [if_pos h1] at h; omega
    · rw [if_neg h1] at h
      have := chkE_ok h
      exact ⟨this.1, by omega, fun x hx => this.2 x (List.mem_append_left _ hx), fun x hx => this.2 x (List.mem_append_right _ hx)⟩
  · rw [if_pos h0] at h; exact absurd h h0

set_option maxHeartbeats 1000000 in
theorem Sort_any (A : Option Addr) (n c : Nat) (l : List IV) (y : Int) (w : World) (h : Reads w w.heap.size 4 A n (icells l)) (hn : n ≤ 9223372036854775807) :
    Calls Try.prog 23 #[.slice A n c, .int .i64 y] w (SortR y n l w) := by
  have HR := Lib.hid h
  have hl := reads_ilen h
  have HLE := Lib.hid (list_any A none n c 0 0 l [] y w h Reads.none_ hn (by omega))
  have HOK := Lib.hid (show listE y l [] = 0 → _ from listE_ok)
  unfold SortR
  clear h
  by_cases h0 : listE y l [] = 0
  · obtain ⟨⟨y0, y1⟩, hlen, hok, _⟩ := HOK.out h0
    rw [h0] at HLE ⊢
    have HK := Lib.hid hok
    have hn1 : n ≤ 1024 := by omega
    clear h0 HOK hok hlen
    have HL := Lib.hid hl
    clear hl
    go_enter Try.func23, Try.ntmps23
    go_wp2_with fail
    refine HLE.out.mono ?_
    rintro x w1 ⟨rfl, hf⟩
    have HF1 := Lib.hid hf
    have HCL := Lib.hid (clone_any A n c l w1 (HR.out.fr0 hf) (by omega))
    clear hf
    go_wp2_with fail
    refine HCL.out.mono ?_
    rintro x w2 ⟨G, gc, rfl, ho, hgc, hf⟩
    have HF2 := Lib.hid (HF1.out.then0 hf)
    have HO := Lib.hid (own_base ho HF1.out.size)
    clear hf ho
    go_wp2_with fail
    refine (order_any _ _).mono ?_
    rintro x w3 ⟨rfl, hw3⟩
    have HB := Lib.hid (show Blk w3 w2.heap.size 2 #[.int .i64 y] by rw [hw3]; exact Blk.new _ _ _)
    have HF3 := Lib.hid (show Fr No w w3 by rw [hw3]; exact HF2.out.alloc _)
    have HO3 := Lib.hid (show w3.ownsRow w.heap.size 23 4 (.slice G n gc) n (icells l) by rw [hw3]; exact HO.out.alloc _)
    clear hw3
    by_cases hz : n = 0
    · subst hz
      have hl0 : l = [] := List.eq_nil_of_length_eq_zero HL.out
      have HL0 := Lib.hid hl0
      clear hl0
      go_wp2_with fail
      refine (sortS_zero G gc _ _).mono ?_
      rintro x w4 ⟨rfl, hf⟩
      have HO4 := Lib.hid (own_fr HO3.out hf (fun _ _ x => x))
      have HF4 := Lib.hid (HF3.out.then0 hf)
      clear hf
      go_wp2
      go_ret2
      refine ⟨HF4.out, .inr ⟨(by trivial), G, gc, l, rfl, ⟨[], by rw [HL0.out]; rfl, by rw [HL0.out]; exact List.Perm.refl _, fun i j h1 h2 h3 => by rw [HL0.out] at h3; simp at h3⟩, hgc, HO4.out⟩⟩
    · obtain ⟨g, q, he, hge⟩ := own_some HO3.out (by omega)
      cases he
      have hcm : gc ≤ maxLen := by
        rcases HO3.out.2 with ⟨h1, _⟩ | ⟨_, _, _, h1, _, _, _, h5, _⟩
        · cases h1
        · injection h1 with _ _ h6
          rw [h6]; exact h5
      have HS := Lib.hid (show Srtr w3 w2.heap.size g gc y (tagged l) from ⟨HB.out, RowT.of_own HO3.out, fun i hi => by
        rw [tagged_len] at hi
        rw [tagged_at l i hi]
        have : l.getD i IV.zero = l[i] := by simp [hi]
        rw [this]
        exact HK.out _ (List.getElem_mem hi), y0, y1⟩)
      have HSS := Lib.hid (sortS_any _ g gc n y (tagged l) w3 HS.out (by rw [tagged_len]; exact HL.out) (by rw [← HL.out]; exact tagged_tags l) (by omega))
      go_wp2_with fail
      refine HSS.out.mono ?_
      rintro x w4 ⟨rfl, L', hs', ht', hsr', hf'⟩
      have HTL := Lib.hid (show L'.length = n by rw [ht'.len, tagged_len]; exact HL.out)
      have HO4 := Lib.hid (hs'.row.own (base := w.heap.size) HTL.out hge hcm)
      have HSO := Lib.hid (show SortOf y l (L'.map Prod.fst) from ⟨L', rfl, ht'.perm, by rw [HL.out]; exact hsr'⟩)
      have HF4 := Lib.hid (HF3.out.own hf' hge)
      clear hs' ht' hsr' hf' hge hcm
      go_wp2
      go_ret2
      exact ⟨HF4.out, .inr ⟨(by trivial), _, gc, _, rfl, HSO.out, hgc, HO4.out⟩⟩
  · have hb : (listE y l [] != 0) = true := by simpa using h0
    have H0 := Lib.hid h0
    clear HOK h0 hl
    generalize listE y l [] = r at *
    go_enter Try.func23, Try.ntmps23
    go_wp2_with fail
    refine HLE.out.mono ?_
    rintro x w1 ⟨rfl, hf⟩
    go_wp2
    go_ret2
    exact ⟨hf, .inl ⟨H0.out, rfl⟩⟩
end Go.Proofs.Ytabajcofddhelaa
