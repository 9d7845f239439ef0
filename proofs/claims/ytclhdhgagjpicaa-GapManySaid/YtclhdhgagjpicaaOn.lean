/- The contract of gap.Only. -/
import Derived.Test.YtclhdhgagjpicaaMx
import Derived.Maps.OwnIn
namespace Go.Proofs.Ytclhdhgagjpicaa
open Go.RowKit Go.Shelf Go.Wk

attribute [local go_sem] Oper.semAt_some

/-- Those of the times that just the lists k have. -/
def onl (k : Int) (l : List (Int × Int)) : List Int := (l.filter (fun p => p.2 == k)).map (·.1)
theorem onl_same (k t : Int) (l : List (Int × Int)) : onl k (l ++ [(t, k)]) = onl k l ++ [t] := by simp [onl]
theorem onl_other {k j : Int} (t : Int) (l : List (Int × Int)) (h : ¬ j = k) : onl k (l ++ [(t, j)]) = onl k l := by simp [onl, h]
theorem onl_le (k : Int) (l : List (Int × Int)) : (onl k l).length ≤ l.length := by
  unfold onl
  rw [List.length_map]
  exact List.length_filter_le _ _
def only1 (a b : List Int) : List Int := if chk [a, b] = 0 then onl 1 (bothL a b) else []
def only2 (a b : List Int) : List Int := if chk [a, b] = 0 then onl 2 (bothL a b) else []

/-- What the loop of Only keeps. -/
structure OnlyI (w : World) (X base : Nat) (pre : List (Int × Int)) (u v : Value) (W : World) : Prop where
  b1 : Blk W X 25 #[u]
  b2 : Blk W (X + 1) 25 #[v]
  o1 : W.ownsRow base 2 1 u (onl 1 pre).length (cells .i64 (onl 1 pre))
  o2 : W.ownsRow base 2 1 v (onl 2 pre).length (cells .i64 (onl 2 pre))
  dj : ∀ k, u.ownBlock = some k → ¬ v.ownBlock = some k
  fr : Fr No w W
  sz : base ≤ W.heap.size
theorem OnlyI.keep {w : World} {X base : Nat} {pre : List (Int × Int)} {u v : Value} {W Y : World} {S : Nat → Prop} (h : OnlyI w X base pre u v W) (hf : Fr S W Y) (hS1 : ¬ S X) (hS2 : ¬ S (X + 1)) (hSb : ∀ k, base ≤ k → ¬ S k) (hSw : ∀ k, S k → w.heap.size ≤ k) : OnlyI w X base pre u v Y :=
  ⟨h.b1.fr hf hS1, h.b2.fr hf hS2, own_fr h.o1 hf (fun k hk => hSb k (h.o1.lt k hk).1), own_fr h.o2 hf (fun k hk => hSb k (h.o2.lt k hk).1), h.dj, h.fr.ownS hf hSw, Nat.le_trans h.sz hf.size⟩
theorem OnlyI.put {w : World} {X base : Nat} {pre : List (Int × Int)} {u v : Value} {W : World} (h : OnlyI w X base pre u v W) (l : Nat) (o o' : Obj) (hX : w.heap.size ≤ l) (hW : W.heap[l]? = some o) (ho : o.isCells = false) : OnlyI w X base pre u v (W.putObj l o') := by
  have hg := grownBy_putObj' W l o'
  have hr : ∀ r, some l = some r → ∃ o : Obj, W.heap[r]? = some o ∧ o.isCells = false := fun r e => by cases e; exact ⟨o, hW, ho⟩
  exact ⟨blk_own h.b1 hg hr, blk_own h.b2 hg hr, own_kept h.o1 hg hr, own_kept h.o2 hg hr, h.dj, h.fr.ownS (Fr.of_grown (S := (· = l)) hg (fun k hk => by injection hk with hk; exact hk.symm)) (fun k hk => by omega), Nat.le_trans h.sz hg.size⟩

/-- What Only leaves. -/
def Onlied (w : World) (x y : List Int) (er : Int) (e : Ending) (w' : World) : Prop := ∃ A c A' c', e = .returned (.tuple #[.slice A x.length c, .slice A' y.length c', .int .i64 er]) ∧ w'.ownsRow w.heap.size 2 1 (.slice A x.length c) x.length (cells .i64 x) ∧ w'.ownsRow w.heap.size 2 1 (.slice A' y.length c') y.length (cells .i64 y) ∧ Fr No w w'

set_option maxRecDepth 100000 in
set_option maxHeartbeats 8000000 in
theorem only_ok (A A' : Option Addr) (n c n' c' : Nat) (la lb : List Int) (w : World) (h : Reads w w.heap.size 1 A n (la.map (Value.int .i64))) (h' : Reads w w.heap.size 1 A' n' (lb.map (Value.int .i64))) (hc : n ≤ c) (hc' : n' ≤ c') (hk : chk [la, lb] = 0) :
    Calls Try.prog 31 #[.slice A n c, .slice A' n' c'] w fun e w' => Onlied w (only1 la lb) (only2 la lb) (chk [la, lb]) e w' := by
  have HC := Lib.hid (check2_any A A' n c n' c' w.heap.size la lb w h h' (Nat.le_refl _))
  have hM : only1 la lb = onl 1 (bothL la lb) := by unfold only1; rw [if_pos hk]
  have hM2 : only2 la lb = onl 2 (bothL la lb) := by unfold only2; rw [if_pos hk]
  rw [hM, hM2]
  have HG := Lib.hid (chk_ok hk)
  have hn : n ≤ 100000 := by have := (HG.out la (by simp)).len; have := h.length_ints; omega
  have hn' : n' ≤ 100000 := by have := (HG.out lb (by simp)).len; have := h'.length_ints; omega
  have HBL := Lib.hid (show (bothL la lb).length ≤ 200000 from by
    have := bothL_len la lb
    have := h.length_ints
    have := h'.length_ints
    omega)
  rw [hk] at HC
  have HK := Lib.hid hk
  clear hk hM hM2
  obtain ⟨i0, hi, hz0, hz1, hz2⟩ : ∃ i, Try.prog.info? 2 = some i ∧ i.zero = some (.int .i64 0) ∧ i.size = 1 ∧ i.bytes = 8 := ⟨_, rfl, rfl, rfl, rfl⟩
  obtain ⟨w1, hw1⟩ : ∃ w1, w1 = w.alloc (.cells #[.slice A n c, .slice A' n' c'] 25) := ⟨_, rfl⟩
  have F1 : Fr No w w1 := by rw [hw1]; exact (Fr.refl No w).alloc _
  have hs1 : w1.heap.size = w.heap.size + 1 := by rw [hw1]; simp
  have HW1 := Lib.hid hw1
  rw [← hw1] at HC
  clear hw1
  refine (callsIn_wide (n := 4)).1 ?_
  refine callsIn_of_wp_marks Try.func31 rfl trivial ?_ rfl
  simp only [Try.ntmps31, List.size_toArray, List.length_cons, List.length_nil, Nat.reduceAdd, Nat.reduceSub, Array.replicate_succ, Array.replicate_zero, List.push_toArray, List.append_toArray, List.nil_append, List.cons_append]
  gi_wp2_with (first
    | (refine ⟨trivial, ?_⟩; gi_at_call 41; rw [← HW1.out]; refine (callsIn_wide.2 HC.out).mono ?_; rintro e w' ⟨rfl, rfl⟩)
    | (refine ⟨trivial, ?_⟩; gi_at_call 44; refine (callsIn_wide.2 (both_any _ _ _ _ _ _ _)).mono ?_; rintro e w' ⟨rfl, rfl⟩))
  obtain ⟨wl, hwl⟩ : ∃ wl, wl = (((w1.alloc (.cells #[.slice none 0 0] 25)).alloc (.cells #[.slice none 0 0] 25)).alloc (.cells #[.slice A n c] 25)).alloc (.cells #[.slice A' n' c'] 25) := ⟨_, rfl⟩
  rw [← hwl]
  have b7 : Blk wl (w.heap.size + 1) 25 #[.slice none 0 0] := by
    rw [hwl, ← hs1]; exact (((Blk.new w1 25 _).alloc _).alloc _).alloc _
  have b8 : Blk wl (w.heap.size + 1 + 1) 25 #[.slice none 0 0] := by
    rw [hwl]
    have := Blk.new (w1.alloc (.cells #[.slice none 0 0] 25)) 25 #[.slice none 0 0]
    rw [World.size_alloc, hs1] at this
    exact (this.alloc _).alloc _
  have bA : Blk wl (w.heap.size + 1 + 1 + 1) 25 #[.slice A n c] := by
    rw [hwl]
    have := Blk.new ((w1.alloc (.cells #[.slice none 0 0] 25)).alloc (.cells #[.slice none 0 0] 25)) 25 #[.slice A n c]
    rw [World.size_alloc, World.size_alloc, hs1] at this
    exact this.alloc _
  have bB : Blk wl (w.heap.size + 1 + 1 + 1 + 1) 25 #[.slice A' n' c'] := by
    rw [hwl]
    have := Blk.new (((w1.alloc (.cells #[.slice none 0 0] 25)).alloc (.cells #[.slice none 0 0] 25)).alloc (.cells #[.slice A n c] 25)) 25 #[.slice A' n' c']
    rw [World.size_alloc, World.size_alloc, World.size_alloc, hs1] at this
    exact this
  have FL : Fr No w wl := by rw [hwl]; exact (((F1.alloc _).alloc _).alloc _).alloc _
  have hls : wl.heap.size = w.heap.size + 1 + 1 + 1 + 1 + 1 := by rw [hwl]; simp [hs1]
  clear hwl
  have RA : Rest wl (w.heap.size + 1 + 1 + 1) w.heap.size n A c la := ⟨bA, h.fr FL (Nat.le_refl _) (fun _ _ x => x), hc, h.length_ints⟩
  have RB : Rest wl (w.heap.size + 1 + 1 + 1 + 1) w.heap.size n' A' c' lb := ⟨bB, h'.fr FL (Nat.le_refl _) (fun _ _ x => x), hc', h'.length_ints⟩
  refine wpIn_fed (n := 4) (gf := 54) (lb := #[.pointer (some ⟨w.heap.size + 1 + 1 + 1, 0, none⟩), .pointer (some ⟨w.heap.size + 1 + 1 + 1 + 1, 0, none⟩)]) (encs := encP) (T := fun k => k = w.heap.size + 1 + 1 + 1 ∨ k = w.heap.size + 1 + 1 + 1 + 1) (Kp := KpX wl.heap.size (fun k => k = w.heap.size + 1 ∨ k = w.heap.size + 1 + 1)) (xs := bothL la lb) (by omega) rfl (enters_of Try.func54 (by kernel_rfl) rfl)
    (both_feeds 3 (by omega) (w.heap.size + 1 + 1 + 1) (w.heap.size + 1 + 1 + 1 + 1) w.heap.size wl.heap.size (fun k => k = w.heap.size + 1 ∨ k = w.heap.size + 1 + 1) A A' n c n' c' la lb wl RA RB hn hn' (by omega) (by omega) (by omega) (by omega) (by omega) (fun b hb h => by omega) (by omega) (by omega))
    (fun k hk => by omega) (fun h k => h.trans k) (fun W l o o' hl hW => KpX.put W l o o' hl hW) (fun _ => rfl)
    (fun pre W => ∃ u v, OnlyI w (w.heap.size + 1) wl.heap.size pre u v W)
    ?hIp ?hIa ?hIT ⟨_, _, b7, b8, own_nil _ _ _ _, own_nil _ _ _ _, (fun k hk => by simp [Value.ownBlock] at hk), FL, Nat.le_refl _⟩
    (fun x => { tmps := #[.slice A n c, .slice A' n' c', undef, undef, .slice none 0 0, .slice none 0 0, .int .i64 0, .int .i64 0, .pointer (some ⟨w.heap.size + 1, 0, none⟩), .pointer (some ⟨w.heap.size + 1 + 1, 0, none⟩), .int .i64 x.1, .int .i64 x.2, .slice A n c, .slice A' n' c', .slice (some ⟨w.heap.size, 0, none⟩) 2 2, .int .i64 0, .int .i64 0, .bool false, undef, .slice A n c, .slice A' n' c', .func (.func 54) #[] #[.pointer (some ⟨w.heap.size + 1 + 1 + 1, 0, none⟩), .pointer (some ⟨w.heap.size + 1 + 1 + 1 + 1, 0, none⟩)], .int .i64 x.1, .int .i64 x.2, undef, undef, undef, undef, undef, undef, undef, undef, undef, undef, undef, undef, undef, undef, undef], defers := [] }) ?assign ?body ?done
  case hIp =>
    rintro s X l o o' ⟨u, v, i1⟩ hl hX ho
    exact ⟨u, v, i1.put l o o' (by omega) hX ho⟩
  case hIa =>
    rintro s X o ⟨u, v, i1⟩
    exact ⟨u, v, i1.keep ((Fr.refl No X).alloc o) (fun x => x) (fun x => x) (fun _ _ x => x) (fun _ x => x.elim)⟩
  case hIT =>
    rintro s X Y ⟨u, v, i1⟩ hf
    exact ⟨u, v, i1.keep hf (fun h => by omega) (fun h => by omega) (fun k hk h => by omega) (fun k hk => by omega)⟩
  case assign =>
    intro l x W K hK
    rw [show encP x = #[.int .i64 x.1, .int .i64 x.2] from rfl]
    gi_wp2
    exact hK
  case body =>
    rintro l pre ⟨t, hv⟩ W hl ⟨u, v, I0⟩ hp
    have hpl := hp.length_le
    have hb2 := HBL.out
    rw [List.length_append, List.length_singleton] at hpl
    have q1 := onl_le 1 pre
    have q2 := onl_le 2 pre
    have HI := Lib.hid I0
    have HLS := Lib.hid hls
    have HLL := Lib.hid hl
    clear hls hl
    by_cases h1 : hv = 1
    · subst h1
      obtain ⟨A2, q, rfl⟩ := own_form' I0.o1
      have s0 := I0.b1.cell 0
      simp only [List.getElem?_toArray, List.getElem?_cons_zero] at s0
      obtain ⟨wa, hwa⟩ : ∃ wa, wa = W.alloc (.cells #[.int .i64 t] 2) := ⟨_, rfl⟩
      have NEW : Blk wa W.heap.size 2 #[.int .i64 t] := by rw [hwa]; exact Blk.new W 2 _
      have HNC := Lib.hid (show ∀ j v, ([.int .i64 t] : List Value)[j]? = some v → wa.cell? ((⟨W.heap.size, 0, none⟩ : Addr).add j) = some v from fun j v hv => by
        rw [add_plain, Nat.zero_add, NEW.cell, List.getElem?_toArray, ← hv])
      have FA : Fr No W wa := by rw [hwa]; exact (Fr.refl No W).alloc _
      have ON := Lib.hid (own_fr I0.o1 FA (fun _ _ x => x))
      obtain ⟨m0, hm0⟩ : ∃ m0, m0 = (onl 1 pre).length := ⟨_, rfl⟩
      have HM0 := Lib.hid hm0
      have HB1 := Lib.hid (show (m0 + 1) * 8 ≤ 140737488355328 by omega)
      have HB0 := Lib.hid (show m0 + 1 ≤ maxLen by unfold maxLen; omega)
      have HBS := Lib.hid (Nat.le_trans I0.sz FA.size)
      have I1 := Lib.hid (I0.keep FA (fun x => x) (fun x => x) (fun _ _ x => x) (fun _ x => x.elim))
      have HFA := Lib.hid FA
      have HWA := Lib.hid hwa
      have H1C : Hid (∀ v ∈ ([.int .i64 t] : List Value), v.oneCell' = true) := Lib.hid (fun v hv => by simp at hv; subst hv; rfl)
      rw [hwa] at HNC ON HBS
      rw [← hm0] at s0 ON
      clear NEW FA hwa hpl hb2 q1 q2 I0 hm0
      gi_wp2_with (gi_at_builtin; refine wpListIn_append_own_at (W.alloc (.cells #[.int .i64 t] 2)) rfl (.tmp 27) (.tmp 29) 25 rfl wl.heap.size 2 i0 (.int .i64 0) 1 8 Try.underlying25 hi hz0 hz1 hz2 rfl (by omega) (.slice A2 m0 q) m0 (cells .i64 (onl 1 pre)) rfl ON.out ⟨W.heap.size, 0, none⟩ 1 1 [.int .i64 t] rfl rfl HNC.out H1C.out HB0.out HB1.out HBS.out ?_; intro v' w3 hown1 hg1 _ hat1; obtain ⟨A3, q3, rfl⟩ := own_form' hown1; rw [← HWA.out] at hg1 hat1; have F1' := Fr.of_grown (S := fun k => (Value.slice A2 m0 q).ownBlock = some k) hg1 (fun k hk => hk); have H1 := I1.out.b1.fr F1' (fun h => by have h3 := (ON.out.lt _ h).1; have := HLS.out; omega); have H2 := I1.out.b2.fr F1' (fun h => by have h3 := (ON.out.lt _ h).1; have := HLS.out; omega); have t0 := H1.cell 0; have tz := H1.frozen 0; simp only [List.getElem?_toArray, List.getElem?_cons_zero] at t0)
      have FW : Fr (· = w.heap.size + 1) w3 (w3.setCell ⟨w.heap.size + 1, 0, none⟩ (.slice A3 (m0 + 1) q3)) := (Fr.refl (· = w.heap.size + 1) w3).setCell (p := ⟨w.heap.size + 1, 0, none⟩) (.inr rfl) _
      have KR := keeps_row (w := wa) (by rw [HWA.out]; exact ON.out) hg1
      have FT : Fr (fun k => k = w.heap.size + 1 ∨ wl.heap.size ≤ k) W (w3.setCell ⟨w.heap.size + 1, 0, none⟩ (.slice A3 (m0 + 1) q3)) :=
        ((HFA.out.mono (fun _ x => x.elim)).trans F1' (fun k _ hk => .inr (ON.out.lt _ hk).1)).trans FW (fun k _ hk => .inl hk)
      have hsz := HI.out.sz
      refine ⟨?_, ⟨FT.os, FT.tape, FT.output, FT.size, fun k hk hs => FT.block k (Nat.lt_of_lt_of_le hk hsz) (fun h => h.elim (fun h => hs (by omega)) (fun h => by omega))⟩, (.slice A3 (m0 + 1) q3), v, ?_⟩
      · have k1 : KeepsOthers W wa := by rw [HWA.out]; exact KeepsOthers.alloc _ _
        exact ((k1.trans KR).trans (KeepsOthers.setCell _ _ _)).from _
      · have hoK : (w3.setCell ⟨w.heap.size + 1, 0, none⟩ (.slice A3 (m0 + 1) q3)).ownsRow wl.heap.size 2 1 (.slice A3 (m0 + 1) q3) (onl 1 (pre ++ [(t, 1)])).length (cells .i64 (onl 1 (pre ++ [(t, 1)]))) := by
          rw [onl_same, List.length_append, List.length_singleton, ← HM0.out, cells_snoc]
          exact own_fr hown1 FW (fun k hk h => own_blk_ne hown1 H1 (by decide) k hk h)
        have hoJ : (w3.setCell ⟨w.heap.size + 1, 0, none⟩ (.slice A3 (m0 + 1) q3)).ownsRow wl.heap.size 2 1 v (onl 2 (pre ++ [(t, 1)])).length (cells .i64 (onl 2 (pre ++ [(t, 1)]))) := by
          rw [onl_other t pre (by omega)]
          refine own_fr (own_fr I1.out.o2 F1' (fun k hk h => ?_)) FW (fun k hk h => ?_)
          · rw [HM0.out] at h
            exact HI.out.dj k h hk
          · have h3 := (I1.out.o2.lt k hk).1
            have := HLS.out
            omega
        have hdj : ∀ k, (Value.slice A3 (m0 + 1) q3).ownBlock = some k → ¬ v.ownBlock = some k := fun k h1 h2 => by
          rcases hat1 with ha | ha
          · rw [ha, HM0.out] at h1
            exact HI.out.dj k h1 h2
          · rw [ha] at h1
            injection h1 with h1
            have h4 := (HI.out.o2.lt k h2).2
            have h5 := HFA.out.size
            omega
        exact ⟨H1.set_ 0 _, H2.far (by simp) _, hoK, hoJ, hdj, HI.out.fr.ownS FT (fun k hk => by have := HLS.out; omega), Nat.le_trans hsz FT.size⟩
    · by_cases h2 : hv = 2
      · subst h2
        obtain ⟨A2, q, rfl⟩ := own_form' I0.o2
        have s0 := I0.b2.cell 0
        simp only [List.getElem?_toArray, List.getElem?_cons_zero] at s0
        obtain ⟨wa, hwa⟩ : ∃ wa, wa = W.alloc (.cells #[.int .i64 t] 2) := ⟨_, rfl⟩
        have NEW : Blk wa W.heap.size 2 #[.int .i64 t] := by rw [hwa]; exact Blk.new W 2 _
        have HNC := Lib.hid (show ∀ j v, ([.int .i64 t] : List Value)[j]? = some v → wa.cell? ((⟨W.heap.size, 0, none⟩ : Addr).add j) = some v from fun j v hv => by
          rw [add_plain, Nat.zero_add, NEW.cell, List.getElem?_toArray, ← hv])
        have FA : Fr No W wa := by rw [hwa]; exact (Fr.refl No W).alloc _
        have ON := Lib.hid (own_fr I0.o2 FA (fun _ _ x => x))
        obtain ⟨m0, hm0⟩ : ∃ m0, m0 = (onl 2 pre).length := ⟨_, rfl⟩
        have HM0 := Lib.hid hm0
        have HB1 := Lib.hid (show (m0 + 1) * 8 ≤ 140737488355328 by omega)
        have HB0 := Lib.hid (show m0 + 1 ≤ maxLen by unfold maxLen; omega)
        have HBS := Lib.hid (Nat.le_trans I0.sz FA.size)
        have I1 := Lib.hid (I0.keep FA (fun x => x) (fun x => x) (fun _ _ x => x) (fun _ x => x.elim))
        have HFA := Lib.hid FA
        have HWA := Lib.hid hwa
        have H1C : Hid (∀ v ∈ ([.int .i64 t] : List Value), v.oneCell' = true) := Lib.hid (fun v hv => by simp at hv; subst hv; rfl)
        rw [hwa] at HNC ON HBS
        rw [← hm0] at s0 ON
        clear NEW FA hwa hpl hb2 q1 q2 I0 hm0
        gi_wp2_with (gi_at_builtin; refine wpListIn_append_own_at (W.alloc (.cells #[.int .i64 t] 2)) rfl (.tmp 33) (.tmp 35) 25 rfl wl.heap.size 2 i0 (.int .i64 0) 1 8 Try.underlying25 hi hz0 hz1 hz2 rfl (by omega) (.slice A2 m0 q) m0 (cells .i64 (onl 2 pre)) rfl ON.out ⟨W.heap.size, 0, none⟩ 1 1 [.int .i64 t] rfl rfl HNC.out H1C.out HB0.out HB1.out HBS.out ?_; intro v' w3 hown1 hg1 _ hat1; obtain ⟨A3, q3, rfl⟩ := own_form' hown1; rw [← HWA.out] at hg1 hat1; have F1' := Fr.of_grown (S := fun k => (Value.slice A2 m0 q).ownBlock = some k) hg1 (fun k hk => hk); have H1 := I1.out.b2.fr F1' (fun h => by have h3 := (ON.out.lt _ h).1; have := HLS.out; omega); have H2 := I1.out.b1.fr F1' (fun h => by have h3 := (ON.out.lt _ h).1; have := HLS.out; omega); have t0 := H1.cell 0; have tz := H1.frozen 0; simp only [List.getElem?_toArray, List.getElem?_cons_zero] at t0)
        have FW : Fr (· = w.heap.size + 1 + 1) w3 (w3.setCell ⟨w.heap.size + 1 + 1, 0, none⟩ (.slice A3 (m0 + 1) q3)) := (Fr.refl (· = w.heap.size + 1 + 1) w3).setCell (p := ⟨w.heap.size + 1 + 1, 0, none⟩) (.inr rfl) _
        have KR := keeps_row (w := wa) (by rw [HWA.out]; exact ON.out) hg1
        have FT : Fr (fun k => k = w.heap.size + 1 + 1 ∨ wl.heap.size ≤ k) W (w3.setCell ⟨w.heap.size + 1 + 1, 0, none⟩ (.slice A3 (m0 + 1) q3)) :=
          ((HFA.out.mono (fun _ x => x.elim)).trans F1' (fun k _ hk => .inr (ON.out.lt _ hk).1)).trans FW (fun k _ hk => .inl hk)
        have hsz := HI.out.sz
        refine ⟨?_, ⟨FT.os, FT.tape, FT.output, FT.size, fun k hk hs => FT.block k (Nat.lt_of_lt_of_le hk hsz) (fun h => h.elim (fun h => hs (by omega)) (fun h => by omega))⟩, u, (.slice A3 (m0 + 1) q3), ?_⟩
        · have k1 : KeepsOthers W wa := by rw [HWA.out]; exact KeepsOthers.alloc _ _
          exact ((k1.trans KR).trans (KeepsOthers.setCell _ _ _)).from _
        · have hoK : (w3.setCell ⟨w.heap.size + 1 + 1, 0, none⟩ (.slice A3 (m0 + 1) q3)).ownsRow wl.heap.size 2 1 (.slice A3 (m0 + 1) q3) (onl 2 (pre ++ [(t, 2)])).length (cells .i64 (onl 2 (pre ++ [(t, 2)]))) := by
            rw [onl_same, List.length_append, List.length_singleton, ← HM0.out, cells_snoc]
            exact own_fr hown1 FW (fun k hk h => own_blk_ne hown1 H1 (by decide) k hk h)
          have hoJ : (w3.setCell ⟨w.heap.size + 1 + 1, 0, none⟩ (.slice A3 (m0 + 1) q3)).ownsRow wl.heap.size 2 1 u (onl 1 (pre ++ [(t, 2)])).length (cells .i64 (onl 1 (pre ++ [(t, 2)]))) := by
            rw [onl_other t pre (by omega)]
            refine own_fr (own_fr I1.out.o1 F1' (fun k hk h => ?_)) FW (fun k hk h => ?_)
            · rw [HM0.out] at h
              exact HI.out.dj k hk h
            · have h3 := (I1.out.o1.lt k hk).1
              have := HLS.out
              omega
          have hdj : ∀ k, (Value.slice A3 (m0 + 1) q3).ownBlock = some k → ¬ u.ownBlock = some k := fun k h1 h2 => by
            rcases hat1 with ha | ha
            · rw [ha, HM0.out] at h1
              exact HI.out.dj k h2 h1
            · rw [ha] at h1
              injection h1 with h1
              have h4 := (HI.out.o1.lt k h2).2
              have h5 := HFA.out.size
              omega
          exact ⟨H2.far (by simp) _, H1.set_ 0 _, hoJ, hoK, (fun k h1 h2 => hdj k h2 h1), HI.out.fr.ownS FT (fun k hk => by have := HLS.out; omega), Nat.le_trans hsz FT.size⟩
      · have e1 : (hv == 1) = false := by simpa using h1
        have e2 : (hv == 2) = false := by simpa using h2
        gi_wp2
        refine ⟨KeepsFrom.refl _ _, ⟨rfl, rfl, rfl, Nat.le_refl _, fun _ _ _ => rfl⟩, u, v, ?_⟩
        have I := HI.out
        exact ⟨I.b1, I.b2, by rw [onl_other t pre h1]; exact I.o1, by rw [onl_other t pre h2]; exact I.o2, I.dj, I.fr, I.sz⟩
  case done =>
    rintro D W hD ⟨u, v, I⟩ hK
    obtain ⟨A1, p1, rfl⟩ := own_form' I.o1
    obtain ⟨A2, p2, rfl⟩ := own_form' I.o2
    have s1 := I.b1.cell 0
    have s2 := I.b2.cell 0
    simp only [List.getElem?_toArray, List.getElem?_cons_zero] at s1 s2
    have HI := Lib.hid I
    have HKK := Lib.hid hK
    have HLS := Lib.hid hls
    clear I hK hls
    gi_wp2
    gi_quiet (fail)
    gi_wp2
    have hK2 : (W.drewN nq).heap[D]? = some (.deferred (some [])) := HKK.out
    refine ⟨by simp, .inl ⟨_, _, rfl, run_takeDeferred hK2, ?_⟩⟩
    have I2 := HI.out.keep ((Fr.refl No W).drewN nq) (fun x => x) (fun x => x) (fun _ _ x => x) (fun _ x => x.elim)
    refine ⟨_, results_tmp3 rfl _ _ _, A1, p1, A2, p2, ?_, ?_, ?_, Fr.of_below (I2.fr.below.trans (belowK_b (w := w) (Nat.le_refl _) (W.drewN nq) D _ _ (by have := HLS.out; omega) hK2 rfl rfl))⟩
    · rw [HK.out]
      rfl
    · exact own_kept (own_base I2.o1 (by have := HLS.out; omega)) (grownBy_putObj' (W.drewN nq) D (.deferred none)) (fun r e => by cases e; exact ⟨_, hK2, rfl⟩)
    · exact own_kept (own_base I2.o2 (by have := HLS.out; omega)) (grownBy_putObj' (W.drewN nq) D (.deferred none)) (fun r e => by cases e; exact ⟨_, hK2, rfl⟩)

theorem only_any (A A' : Option Addr) (n c n' c' : Nat) (la lb : List Int) (w : World) (h : Reads w w.heap.size 1 A n (la.map (Value.int .i64))) (h' : Reads w w.heap.size 1 A' n' (lb.map (Value.int .i64))) (hc : n ≤ c) (hc' : n' ≤ c') :
    Calls Try.prog 31 #[.slice A n c, .slice A' n' c'] w fun e w' => Onlied w (only1 la lb) (only2 la lb) (chk [la, lb]) e w' := by
  by_cases hk : chk [la, lb] = 0
  · exact only_ok A A' n c n' c' la lb w h h' hc hc' hk
  · have HC := Lib.hid (check2_any A A' n c n' c' w.heap.size la lb w h h' (Nat.le_refl _))
    have HF := Lib.hid ((Fr.refl No w).alloc (.cells #[.slice A n c, .slice A' n' c'] 25))
    have HM := Lib.hid (show only1 la lb = [] by unfold only1; rw [if_neg hk])
    have HM2 := Lib.hid (show only2 la lb = [] by unfold only2; rw [if_neg hk])
    have hkb : (chk [la, lb] != 0) = true := by simpa using hk
    generalize hkk : chk [la, lb] = k at *
    clear h h'
    go_enter Try.func31, Try.ntmps31
    go_wp2_with (go_at_call 41; refine HC.out.mono ?_; rintro e w1 ⟨rfl, rfl⟩)
    go_ret3
    rw [HM.out, HM2.out]
    exact ⟨none, 0, none, 0, rfl, own_nil _ _ _ _, own_nil _ _ _ _, HF.out⟩
end Go.Proofs.Ytclhdhgagjpicaa
