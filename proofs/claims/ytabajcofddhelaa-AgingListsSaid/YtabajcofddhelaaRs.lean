/- The document's Sort. -/
import Derived.Test.YtabajcofddhelaaRl
namespace Go.Proofs.Ytabajcofddhelaa
open Go.RowKit Go.Wk

/-- The first k items of a list, sorted. -/
structure SortT (y : Int) (l : List IV) (k : Nat) (M : List TI) : Prop where
  perm : M.Perm (tagged (l.take k))
  srt : Srt y 0 k M
theorem tagged_snoc (l : List IV) {k : Nat} (hk : k < l.length) : tagged (l.take (k + 1)) = tagged (l.take k) ++ [(l.getD k IV.zero, k)] := by
  have e : l.getD k IV.zero = l[k] := by simp [hk]
  unfold tagged
  rw [List.take_succ_eq_append_getElem hk, List.zipIdx_append, e]
  simp [Nat.min_eq_left (Nat.le_of_lt hk)]
theorem SortT.len {y : Int} {l : List IV} {k : Nat} {M : List TI} (h : SortT y l k M) (hk : k ≤ l.length) : M.length = k := by
  rw [h.perm.length_eq, tagged_len, List.length_take]; omega
theorem SortT.start (y : Int) (l : List IV) : SortT y l 0 [] := ⟨List.Perm.refl _, fun i j _ _ h => by omega⟩
theorem ati_app {L M : List TI} {i : Nat} (h : i < L.length) : ati (L ++ M) i = ati L i := by
  unfold ati; rw [List.getD_eq_getElem?_getD, List.getElem?_append_left h, ← List.getD_eq_getElem?_getD]
theorem ati_last (L : List TI) (t : TI) : ati (L ++ [t]) L.length = t := by
  unfold ati; rw [List.getD_eq_getElem?_getD, List.getElem?_append_right (Nat.le_refl _)]; simp
theorem ati_out {L : List TI} {i : Nat} (h : L.length ≤ i) : ati L i = tz := by
  unfold ati; rw [List.getD_eq_getElem?_getD, List.getElem?_eq_none h]; rfl
theorem ati_mem {L : List TI} {i : Nat} (h : i < L.length) : ati L i ∈ L := by rw [ati_get h]; exact List.getElem_mem _
theorem SortT.begin {y : Int} {l : List IV} {k : Nat} {M : List TI} (h : SortT y l k M) (hk : k < l.length) : InsJ y 0 k k (tagged (l.take (k + 1))) (M ++ [(l.getD k IV.zero, k)]) := by
  have hl : M.length = k := h.len (by omega)
  have hp : (M ++ [(l.getD k IV.zero, k)]).Perm (tagged (l.take (k + 1))) := by
    rw [tagged_snoc l hk]; exact h.perm.append_right _
  have h0 : (tagged (l.take (k + 1))).length = k + 1 := by rw [tagged_len, List.length_take]; omega
  refine ⟨⟨hp, fun i hi => ?_, fun i h1 h2 => ?_⟩, Nat.zero_le _, Nat.le_refl _, fun p q h1 h2 h3 h4 => ?_, fun p h1 h2 h3 => ?_⟩
  · rw [ati_out (by rw [List.length_append, List.length_singleton]; omega), ati_out (by omega)]
  · have hm := hp.mem_iff.1 (ati_mem (L := M ++ [(l.getD k IV.zero, k)]) (i := i) (by rw [List.length_append, List.length_singleton]; omega))
    obtain ⟨j, hj, e⟩ := List.mem_iff_getElem.1 hm
    exact ⟨j, Nat.zero_le _, by omega, by rw [ati_get hj, e]⟩
  · rw [ati_app (by omega), ati_app (by omega)]
    exact h.srt p q h1 h2 (by omega)
  · have e : ati (M ++ [(l.getD k IV.zero, k)]) k = (l.getD k IV.zero, k) := by
      have := ati_last M (l.getD k IV.zero, k)
      rw [hl] at this
      exact this
    rw [ati_app (by omega), e]
    have hm := h.perm.mem_iff.1 (ati_mem (L := M) (i := p) (by omega))
    obtain ⟨j, hj, e2⟩ := List.mem_iff_getElem.1 hm
    rw [tagged_len, List.length_take] at hj
    rw [← e2, ← ati_get, tagged_at _ j (by rw [List.length_take]; omega)]
    show j < k
    omega
theorem SortT.done {y : Int} {l : List IV} {k : Nat} {M : List TI} (h : InsI y 0 (k + 1) (tagged (l.take (k + 1))) M) : SortT y l (k + 1) M := ⟨h.turn.perm, h.srt⟩
theorem SortT.fin {y : Int} {l : List IV} {M : List TI} (h : SortT y l l.length M) : SortOf y l (M.map Prod.fst) := ⟨M, rfl, by have := h.perm; rwa [List.take_length] at this, h.srt⟩
theorem RowT.re {w : World} {b c : Nat} {L L' : List TI} (h : RowT w b c L) (e : L.map Prod.fst = L'.map Prod.fst) : RowT w b c L' := by
  obtain ⟨cs, h1, h2, h3, h4, h5⟩ := h
  have hl : L.length = L'.length := by have := congrArg List.length e; simpa using this
  refine ⟨cs, h1, h2, by omega, by omega, fun i k hi hk => ?_⟩
  rw [h5 i k (by omega) hk, ← map_at L i (by omega), ← map_at L' i hi, e]
theorem RowT.of_own' {w : World} {base n c g : Nat} {L : List TI} (h : w.ownsRow base 23 4 (.slice (some ⟨g, 0, none⟩) n c) n (icells (L.map Prod.fst))) : RowT w g c L := (RowT.of_own h).re (tagged_map _)
theorem own_room {w : World} {base n c g : Nat} {e : TypeId} {size : Nat} {xs : List Value} (h : w.ownsRow base e size (.slice (some ⟨g, 0, none⟩) n c) n xs) : base ≤ g ∧ g < w.heap.size ∧ n ≤ c ∧ c ≤ maxLen := by
  rcases h.2 with ⟨h1, _⟩ | ⟨g', cap, cur, h1, h2, h3, h4, h5, _⟩
  · cases h1
  · injection h1 with h1 _ hc
    cases h1
    subst hc
    exact ⟨h2, (Array.getElem?_eq_some_iff.1 h3).1, h4, h5⟩
theorem listE_zeroI (y : Int) (l : List IV) : listE y l [IV.zero] = listE y l [] := by
  unfold listE
  by_cases h0 : yearsE y = 0
  · rw [chkE_in h0, chkE_in h0, firstE_app, List.append_nil]
    have e : firstE [IV.zero] = 0 := rfl
    rw [e]
    by_cases h1 : firstE l = 0
    · rw [if_pos h1, h1]
    · rw [if_neg h1]
  · rw [if_pos h0, if_pos h0]
theorem RowT.lt {w : World} {b c : Nat} {L : List TI} (h : RowT w b c L) : b < w.heap.size := by obtain ⟨cs, h1, _⟩ := h; exact h1.lt
def cells8 (X : World) (g i j : Nat) (x z : IV) : Prop := X.cell? ⟨g, i * 4, none⟩ = some (.int .i64 x.id) ∧ X.cell? ⟨g, i * 4 + 1, none⟩ = some (.int .i64 x.pr) ∧ X.cell? ⟨g, i * 4 + 2, none⟩ = some (.int .i64 x.since) ∧ X.cell? ⟨g, i * 4 + 3, none⟩ = some (.int .i64 x.seq) ∧ X.cell? ⟨g, j * 4, none⟩ = some (.int .i64 z.id) ∧ X.cell? ⟨g, j * 4 + 1, none⟩ = some (.int .i64 z.pr) ∧ X.cell? ⟨g, j * 4 + 2, none⟩ = some (.int .i64 z.since) ∧ X.cell? ⟨g, j * 4 + 3, none⟩ = some (.int .i64 z.seq)
theorem RowT.two {w : World} {b c : Nat} {L : List TI} (h : RowT w b c L) {i j : Nat} (hi : i < L.length) (hj : j < L.length) : cells8 w b i j (ati L i).1 (ati L j).1 :=
  ⟨(h.cells hi).1, (h.cells hi).2.1, (h.cells hi).2.2.1, (h.cells hi).2.2.2, (h.cells hj).1, (h.cells hj).2.1, (h.cells hj).2.2.1, (h.cells hj).2.2.2⟩
set_option maxRecDepth 100000 in
set_option maxHeartbeats 8000000 in
theorem rSort_any (A : Option Addr) (n c : Nat) (l : List IV) (y : Int) (w : World) (h : Reads w w.heap.size 4 A n (icells l)) (hn : n ≤ 9223372036854775807) :
    Calls Try.prog 28 #[.slice A n c, .int .i64 y] w (SortR y n l w) := by
  obtain ⟨i0, hi, hz0, hz1, hz2⟩ : ∃ i, Try.prog.info? 23 = some i ∧ i.zero = some (.agg #[.int .i64 0, .int .i64 0, .int .i64 0, .int .i64 0]) ∧ i.size = 4 ∧ i.bytes = 32 := ⟨_, rfl, rfl, rfl, rfl⟩
  have HR := Lib.hid h
  have hl := reads_ilen h
  have HLE := Lib.hid (rlist_any A n c l IV.zero y w h hn)
  rw [listE_zeroI] at HLE
  have HOK := Lib.hid (show listE y l [] = 0 → _ from listE_ok)
  unfold SortR
  unfold IV.zero at HLE
  dsimp only at HLE
  clear h
  by_cases h0 : listE y l [] = 0
  · obtain ⟨⟨y0, y1⟩, hlen, hok, _⟩ := HOK.out h0
    rw [h0] at HLE ⊢
    have HK := Lib.hid (show ∀ z ∈ l, Ok z from hok)
    have hn1 : n ≤ 1024 := by omega
    have HL := Lib.hid hl
    clear h0 HOK hok hlen hl
    go_enter Try.func28, Try.ntmps28
    go_wp2_with fail
    refine HLE.out.mono ?_
    rintro x w1 ⟨rfl, hf⟩
    have F1 := Lib.hid hf
    clear hf HLE
    go_wp2
    go_loopw [7, 8] (fun o i wr => ∃ (k : Nat) (G : Option Addr) (q : Nat) (M : List TI), i = .int .i64 k ∧ o = .slice G k q ∧ k ≤ n ∧ Hid (SortT y l k M) ∧ Hid (wr.ownsRow w.heap.size 23 4 (.slice G k q) k (icells (M.map Prod.fst))) ∧ Hid (Fr No w wr)) (fun _ i _ => n - (intOf i).toNat)
    case atStart => exact ⟨0, none, 0, [], rfl, rfl, Nat.zero_le _, Lib.hid (SortT.start y l), Lib.hid (own_nil _ _ _ _), F1⟩
    case round =>
      clear F1
      obtain ⟨k, G, q, M, rfl, rfl, hk, HS, HO, HF⟩ := hrel
      by_cases hlt : k < n
      · obtain ⟨b, off, rfl, hb, _, a0, a1, a2, a3⟩ := reads_item' HR.out hlt HF.out
        have hkl : k < l.length := by rw [HL.out]; exact hlt
        have hlt2 : (k : Int) < (n : Int) := by omega
        obtain ⟨x, hx⟩ : ∃ x, x = l.getD k IV.zero := ⟨_, rfl⟩
        have HJ0 := Lib.hid (HS.out.begin hkl)
        rw [← hx] at a0 a1 a2 a3 HJ0
        have hML := HS.out.len (Nat.le_of_lt hkl)
        have HOKM := Lib.hid (show ∀ t ∈ (tagged (l.take (k + 1))), Ok t.1 from fun t ht => HK.out _ (List.mem_of_mem_take (tagged_map (l.take (k + 1)) ▸ List.mem_map_of_mem (f := Prod.fst) ht)))
        obtain ⟨xi, xp, xs, xq⟩ := x
        dsimp only at a0 a1 a2 a3
        have O1 := Lib.hid (HO.out.alloc (.cells #[.int .i64 xi, .int .i64 xp, .int .i64 xs, .int .i64 xq] 23))
        have hsz := Lib.hid (Nat.le_trans HF.out.size ((Fr.refl No wr).alloc (.cells #[.int .i64 xi, .int .i64 xp, .int .i64 xs, .int .i64 xq] 23)).size)
        have hown0 := HO.out
        have HX := Lib.hid hx
        clear hx HS
        go_wp2_with (at_builtin; refine wpList_append_any (wr.alloc (.cells #[.int .i64 xi, .int .i64 xp, .int .i64 xs, .int .i64 xq] 23)) rfl (.tmp 24) (.tmp 29) 40 rfl w.heap.size 23 i0 (.agg #[.int .i64 0, .int .i64 0, .int .i64 0, .int .i64 0]) 4 32 Try.underlying40 hi hz0 hz1 hz2 rfl (by omega) (.slice G k q) k _ rfl O1.out _ (some ⟨wr.heap.size, 0, none⟩) 1 1 (icells [⟨xi, xp, xs, xq⟩]) rfl (reads1 wr ⟨xi, xp, xs, xq⟩) (icells_one _) (by unfold maxLen; omega) (by omega) hsz.out ?_)
        intro v2 w2 ho2 hg2 hl2
        have F2 : Fr (fun b => (Value.slice G k q).ownBlock = some b) wr w2 := ((Fr.refl _ wr).alloc (.cells #[.int .i64 xi, .int .i64 xp, .int .i64 xs, .int .i64 xq] 23)).trans (Fr.of_grown (S := fun b => (Value.slice G k q).ownBlock = some b) hg2 (fun b hb => hb)) (fun _ _ x => x)
        have FW2 := Lib.hid (HF.out.ownS F2 (fun b hb => (hown0.lt b hb).1))
        obtain ⟨g, q2, rfl, hgb⟩ := own_some ho2 (Nat.succ_pos k)
        rw [← icells_app, show M.map Prod.fst ++ [⟨xi, xp, xs, xq⟩] = (M ++ [((⟨xi, xp, xs, xq⟩ : IV), k)]).map Prod.fst by simp] at ho2
        have RT := Lib.hid (RowT.of_own' ho2)
        obtain ⟨_, hgs, hkq, hqm⟩ := own_room ho2
        have HCM := Lib.hid hqm
        clear ho2 hg2 hl2 F2 O1 hsz hown0 HO a0 a1 a2 a3 HF
        go_wp2
        go_loopw [9] (fun j wr2 => ∃ (p : Nat) (M2 : List TI), j = .int .i64 p ∧ Hid (InsJ y 0 k p (tagged (l.take (k + 1))) M2) ∧ Hid (RowT wr2 g q2 M2) ∧ Hid (Fr No w wr2)) (fun j _ => (intOf j).toNat)
        case atStart => exact ⟨k, _, rfl, HJ0, RT, FW2⟩
        case round =>
          clear HJ0 RT FW2
          obtain ⟨p, M2, rfl, HJ, HM2, HF2⟩ := hrel
          have hl2 : M2.length = k + 1 := by have := HJ.out.turn.len; rw [tagged_len, List.length_take] at this; omega
          have hpk := HJ.out.ji
          by_cases hp : 0 < p
          · obtain ⟨q, rfl⟩ : ∃ q, p = q + 1 := ⟨p - 1, by omega⟩
            have HOKA := Lib.hid (show ∀ i, i < k + 1 → Ok (ati M2 i).1 from fun i hi => HOKM.out _ (HJ.out.turn.perm.mem_iff.1 (ati_mem (by omega))))
            have HC := Lib.hid (fun X => rbefore_any (ati M2 (q + 1)).1 (ati M2 q).1 y X (HOKA.out _ (by omega)) (HOKA.out _ (by omega)) y0 y1)
            have SK := Lib.hid (fun (X : World) (hX : Fr No wr X) => (HM2.out.fr hX (fun x => x)).two (i := q + 1) (j := q) (by omega) (by omega))
            have HST := Lib.hid (fun h => HJ.out.step (by omega) hp h)
            have HDN := Lib.hid (fun h => HJ.out.done (y := y) (.inr h))
            have HXC := Lib.hid (fun (X X' : World) (hX : Fr No wr X) (hX' : X' = (X.setCells g ((q + 1) * 4) (ati M2 q).1.cells).setCells g (q * 4) (ati M2 (q + 1)).1.cells) => show RowT X' g q2 (swp M2 (q + 1) q) ∧ Fr No w X' from by
              have h1 := (HM2.out.fr hX (fun x => x)).put2 (i := q + 1) (j := q) (by omega) (by omega) hX'
              exact ⟨h1.1, (HF2.out.then0 hX).ownS h1.2 (fun b hb => by rw [hb]; exact hgb)⟩)
            rw [show q + 1 - 1 = q by omega] at HST HDN
            obtain ⟨r, hr⟩ : ∃ r, r = ordI y (ati M2 (q + 1)).1 (ati M2 q).1 := ⟨_, rfl⟩
            rw [← hr] at HC HST HDN
            clear hr
            generalize (ati M2 (q + 1)).1 = x at *
            generalize (ati M2 q).1 = z at *
            obtain ⟨xi, xp, xs, xq⟩ := x
            obtain ⟨zi, zp, zs, zq⟩ := z
            unfold cells8 at SK
            dsimp only at *
            have hq1 : q + 1 < k + 1 := by omega
            have hq2 : q < k + 1 := by omega
            have hq3 : (q : Int) + 1 < (k : Int) + 1 := by omega
            have hq4 : (q : Int) < (k : Int) + 1 := by omega
            have hq5 : (0 : Int) ≤ (q : Int) + 1 := by omega
            have hw1 : IntKind.i64.wrap ((q : Int) + 1 - 1) = (q : Int) := by simp only [IntKind.wrap_i64]; omega
            have hw2 : IntKind.i64.wrap (q : Int) = (q : Int) := by simp only [IntKind.wrap_i64]; omega
            have hq6 : (0 : Int) ≤ (q : Int) := by omega
            have hqa : (0 : Int) < (q : Int) + 1 := by omega
            have FD : Fr No wr wr.drew := (Fr.refl No wr).drew
            have K0 := SK.out _ FD
            by_cases hr0 : r < 0
            · have hh := Lib.hid (HST.out hr0)
              rw [decide_eq_true hr0] at HC
              clear hr0
              go_wp2
              go_region_held3 (fun w' => w'.cell? ⟨g, (q + 1) * 4, none⟩ = some (.int .i64 xi) ∧ w'.cell? ⟨g, (q + 1) * 4 + 1, none⟩ = some (.int .i64 xp) ∧ w'.cell? ⟨g, (q + 1) * 4 + 2, none⟩ = some (.int .i64 xs) ∧ w'.cell? ⟨g, (q + 1) * 4 + 3, none⟩ = some (.int .i64 xq) ∧ w'.cell? ⟨g, q * 4, none⟩ = some (.int .i64 zi) ∧ w'.cell? ⟨g, q * 4 + 1, none⟩ = some (.int .i64 zp) ∧ w'.cell? ⟨g, q * 4 + 2, none⟩ = some (.int .i64 zs) ∧ w'.cell? ⟨g, q * 4 + 3, none⟩ = some (.int .i64 zq)) (first | exact K1 | exact K0 | go_keep)
                (first | (go_at_call 36; refine (HC.out _).mono ?_; rintro e wA ⟨rfl, hf⟩; have FA : Fr No wr wA := FD.then0 hf; have K1 := SK.out wA FA))
              all_goals
                clear K0 K1 FD
                have FX := Lib.hid (FA.alloc (.cells #[.int .i64 xi, .int .i64 xp, .int .i64 xs, .int .i64 xq] 23))
                have HX0 := HXC.out wA _ FA rfl
                have HX := Lib.hid (And.intro (HX0.1.fr ((Fr.refl No _).alloc (.cells #[.int .i64 xi, .int .i64 xp, .int .i64 xs, .int .i64 xq] 23)) (fun x => x)) (HX0.2.alloc (.cells #[.int .i64 xi, .int .i64 xp, .int .i64 xs, .int .i64 xq] 23)))
                clear HX0
                obtain ⟨s0, s1, s2, s3, t0, t1, t2, t3⟩ := SK.out _ FX.out
                obtain ⟨u0, u1, u2, u3, -⟩ := SK.out _ FA
                have hfz := (HM2.out.fr FA (fun x => x)).frozen
                have hgA : g < wA.heap.size := by have := FA.size; have := HM2.out.lt; omega
                have hgx : ¬ wA.heap.size = g := by omega
                have hgy : ¬ g = wA.heap.size := by omega
                have z0 := hfz ((q + 1) * 4)
                have z1 := hfz ((q + 1) * 4 + 1)
                have z2 := hfz ((q + 1) * 4 + 2)
                have z3 := hfz ((q + 1) * 4 + 3)
                have z4 := hfz (q * 4)
                have z5 := hfz (q * 4 + 1)
                have z6 := hfz (q * 4 + 2)
                have z7 := hfz (q * 4 + 3)
                clear hfz FA
                go_wp2
                go_roundw
                case rel => exact ⟨q, _, rfl, hh, Lib.hid HX.out.1, Lib.hid HX.out.2⟩
                case measure => simp [intOf]
            · have hh := Lib.hid (HDN.out hr0)
              rw [decide_eq_false hr0] at HC
              clear hr0
              go_wp2
              go_region_held3 (fun w' => w'.cell? ⟨g, (q + 1) * 4, none⟩ = some (.int .i64 xi) ∧ w'.cell? ⟨g, (q + 1) * 4 + 1, none⟩ = some (.int .i64 xp) ∧ w'.cell? ⟨g, (q + 1) * 4 + 2, none⟩ = some (.int .i64 xs) ∧ w'.cell? ⟨g, (q + 1) * 4 + 3, none⟩ = some (.int .i64 xq) ∧ w'.cell? ⟨g, q * 4, none⟩ = some (.int .i64 zi) ∧ w'.cell? ⟨g, q * 4 + 1, none⟩ = some (.int .i64 zp) ∧ w'.cell? ⟨g, q * 4 + 2, none⟩ = some (.int .i64 zs) ∧ w'.cell? ⟨g, q * 4 + 3, none⟩ = some (.int .i64 zq)) (first | exact K1 | exact K0 | go_keep)
                (first | (go_at_call 36; refine (HC.out _).mono ?_; rintro e wA ⟨rfl, hf⟩; have FA : Fr No wr wA := FD.then0 hf; have K1 := SK.out wA FA))
              all_goals
                have FA' := Lib.hid FA
                clear K0 K1 FD FA
                go_wp2
                go_roundw
                case rel => exact ⟨k + 1, _, _, _, by go_num, rfl, hlt, Lib.hid (SortT.done hh.out), Lib.hid (by have := (HM2.out.fr FA'.out (fun x => x)).own (by omega) hgb HCM.out; exact this), Lib.hid (HF2.out.then0 FA'.out)⟩
                case measure => simp [intOf]; omega
          · obtain rfl : p = 0 := by omega
            have hh := Lib.hid (HJ.out.done (.inl rfl))
            go_wp2
            go_quiet (fail)
            go_wp2
            go_roundw
            case rel => exact ⟨k + 1, _, _, _, by go_num, rfl, hlt, Lib.hid (SortT.done hh.out), Lib.hid ((HM2.out.fr ((Fr.refl No wr).drewN _) (fun x => x)).own (by omega) hgb HCM.out), Lib.hid (HF2.out.drewN _)⟩
            case measure => simp [intOf]; omega
      · obtain rfl : k = n := by omega
        have HFIN := Lib.hid (show SortOf y l (M.map Prod.fst) from SortT.fin (by rw [HL.out]; exact HS.out))
        have hc := own_cap HO.out
        go_wp2
        go_ret2
        exact ⟨HF.out, .inr ⟨trivial, G, q, _, rfl, HFIN.out, hc, HO.out⟩⟩
  · have hb : (listE y l [] != 0) = true := by simpa using h0
    have HN := Lib.hid h0
    clear HOK h0 hl
    generalize listE y l [] = r at *
    go_enter Try.func28, Try.ntmps28
    go_wp2_with fail
    refine HLE.out.mono ?_
    rintro x w1 ⟨rfl, hf⟩
    go_wp2
    go_ret2
    exact ⟨hf, .inl ⟨HN.out, rfl⟩⟩
end Go.Proofs.Ytabajcofddhelaa
