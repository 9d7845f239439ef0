/- HeapTurns: the walk. -/
import Derived.Test.YtbndmelkdamgjaaTa
namespace Go.Proofs.Ytbndmelkdamgjaa.Sh
open Go.RowKit Go.Wk

/-- Three heaps of the call's own, apart. -/
structure Tri (w wr : World) (b1 b2 b3 : Nat) (D1 D2 D3 : Nat → Prop) (s1 s2 : List (En Int)) (s3 : List (En SV)) (g : Int) (g2 g3 : Int) : Prop where
  a : Proofs.Ytbndmelkdamgjaa.IH 39 ltI wr b1 D1 s1 g
  b : Proofs.Ytbndmelkdamgjaa.IH 40 gtI wr b2 D2 s2 g2
  c : IH 42 befS wr b3 D3 s3 g3
  fr : Fr No w wr
  o1 : ∀ k, D1 k → w.heap.size ≤ k
  o2 : ∀ k, D2 k → w.heap.size ≤ k
  o3 : ∀ k, D3 k → w.heap.size ≤ k
  d12 : ∀ k, D1 k → ¬ D2 k
  d13 : ∀ k, D1 k → ¬ D3 k
  d23 : ∀ k, D2 k → ¬ D3 k
section
variable {w wr w1 : World} {b1 b2 b3 : Nat} {D1 D2 D3 : Nat → Prop} {s1 s2 : List (En Int)} {s3 : List (En SV)} {g g2 g3 : Int}
theorem Tri.fr0 (T : Tri w wr b1 b2 b3 D1 D2 D3 s1 s2 s3 g g2 g3) (hf : Fr No wr w1) : Tri w w1 b1 b2 b3 D1 D2 D3 s1 s2 s3 g g2 g3 := ⟨T.a.fr0 hf, T.b.fr0 hf, T.c.fr0 hf, T.fr.then0 hf, T.o1, T.o2, T.o3, T.d12, T.d13, T.d23⟩
theorem newO {D D' : Nat → Prop} {n m : Nat} (h : ∀ k, D' k → D k ∨ m ≤ k) (ho : ∀ k, D k → n ≤ k) (hm : n ≤ m) : ∀ k, D' k → n ≤ k := fun k hk => by
  rcases h k hk with h1 | h1
  · exact ho k h1
  · omega
theorem newD {D D' E : Nat → Prop} {m : Nat} (h : ∀ k, D' k → D k ∨ m ≤ k) (hd : ∀ k, D k → ¬ E k) (hl : ∀ k, E k → k < m) : ∀ k, D' k → ¬ E k := fun k hk hc => by
  rcases h k hk with h1 | h1
  · exact hd k h1 hc
  · have := hl k hc; omega
theorem Tri.turn1 (T : Tri w wr b1 b2 b3 D1 D2 D3 s1 s2 s3 g g2 g3) {s' : List (En Int)} {g' : Int} (h : Proofs.Ytbndmelkdamgjaa.TurnI 39 ltI wr b1 D1 s' g' w1) : ∃ D, Tri w w1 b1 b2 b3 D D2 D3 s' s2 s3 g' g2 g3 := by
  obtain ⟨D, h, hf, hd⟩ := h
  exact ⟨D, h, T.b.fr hf (fun k hk hc => T.d12 k hc hk), T.c.fr hf (fun k hk hc => T.d13 k hc hk), T.fr.ownS hf T.o1, newO hd T.o1 T.fr.size, T.o2, T.o3, newD hd T.d12 (fun k => T.b.lt), newD hd T.d13 (fun k => T.c.lt), T.d23⟩
theorem Tri.turn2 (T : Tri w wr b1 b2 b3 D1 D2 D3 s1 s2 s3 g g2 g3) {s' : List (En Int)} {g' : Int} (h : Proofs.Ytbndmelkdamgjaa.TurnI 40 gtI wr b2 D2 s' g' w1) : ∃ D, Tri w w1 b1 b2 b3 D1 D D3 s1 s' s3 g g' g3 := by
  obtain ⟨D, h, hf, hd⟩ := h
  exact ⟨D, T.a.fr hf T.d12, h, T.c.fr hf (fun k hk hc => T.d23 k hc hk), T.fr.ownS hf T.o2, T.o1, newO hd T.o2 T.fr.size, T.o3, fun k h1 h2 => newD hd (fun k hk hc => T.d12 k hc hk) (fun k => T.a.lt) k h2 h1, T.d13, newD hd T.d23 (fun k => T.c.lt)⟩
theorem Tri.turn3 (T : Tri w wr b1 b2 b3 D1 D2 D3 s1 s2 s3 g g2 g3) {s' : List (En SV)} {g' : Int} (h : TurnI 42 befS wr b3 D3 s' g' w1) : ∃ D, Tri w w1 b1 b2 b3 D1 D2 D s1 s2 s' g g2 g' := by
  obtain ⟨D, h, hf, hd⟩ := h
  exact ⟨D, T.a.fr hf T.d13, T.b.fr hf T.d23, h, T.fr.ownS hf T.o3, T.o1, T.o2, newO hd T.o3 T.fr.size, T.d12, fun k h1 h2 => newD hd (fun k hk hc => T.d13 k hc hk) (fun k => T.a.lt) k h2 h1, fun k h1 h2 => newD hd (fun k hk hc => T.d23 k hc hk) (fun k => T.b.lt) k h2 h1⟩
end
theorem cNew (w : World) : Calls Try.prog 41 #[.func (.func 42) #[] #[]] w fun e w' => NewI 42 befS w [] 0 e w' := New_any w
/-- The three behind k pushes. -/
def TriK (w wr : World) (b1 b2 b3 : Nat) (l : List Int) (k : Nat) : Prop := ∃ D1 D2 D3, Tri w wr b1 b2 b3 D1 D2 D3 (stT l k) (stT l k).reverse ((stT l k).map mE) k k k
set_option maxRecDepth 100000 in
set_option maxHeartbeats 40000000 in
theorem heapTurns_walk (A : Option Addr) (n c : Nat) (xs : List Int) (w : World) (h : Reads w w.heap.size 1 A n (xs.map (Value.int .u8))) (hw : ∀ x ∈ xs, 0 ≤ x ∧ x ≤ 255) (hc : n ≤ c) (hn : n ≤ 9223372036854775807) :
    Calls Try.prog 6 #[.slice A n c] w fun e w' => e = .returned (.bool true) ∧ Fr No w w' := by
  obtain ⟨N, hN⟩ : ∃ N : Nat, N = min n 60 := ⟨_, rfl⟩
  have hNn : N ≤ n := by omega
  have hN60 : N ≤ 60 := by omega
  have hNc : (N : Int) ≤ (c : Int) := by omega
  have hmin : ∀ (ts : Array TypeId) (t : TypeId) (W : World), (Builtin.min_ ts t #[.int .i64 (n : Int), .int .i64 60]).run Try.prog W = .ok (.int .i64 (N : Int)) W := fun ts t W => by
    simp [Builtin.min_, Builtin.min2]
    omega
  have hl := h.length_ints
  have HR := Lib.hid h
  have HOK := Lib.hid (fun k (hk : k ≤ N) => okT (l := xs) hw k (by omega) (by omega))
  have HWF := Lib.hid hw
  have HL := Lib.hid hl
  have HNM := Lib.hid hN
  clear h hw hl hN
  go_enter Try.func6, Try.ntmps6
  go_wp2_with fail
  refine (Proofs.Ytbndmelkdamgjaa.New_any (f := 39) (bf := ltI) w).mono ?_
  rintro e w1 ⟨b1, D1, rfl, h1, hd1, hf1⟩
  have H1 := Lib.hid h1
  have HD1 := Lib.hid hd1
  have F1 := Lib.hid hf1
  clear h1 hd1 hf1
  go_wp2_with fail
  refine (Proofs.Ytbndmelkdamgjaa.New_any (f := 40) (bf := gtI) w1).mono ?_
  rintro e w2 ⟨b2, D2, rfl, h2, hd2, hf2⟩
  have H2 := Lib.hid h2
  have HD2 := Lib.hid hd2
  have F2 := Lib.hid hf2
  clear h2 hd2 hf2
  go_wp2_with fail
  refine (cNew w2).mono ?_
  rintro e w3 ⟨b3, D3, rfl, h3, hd3, hf3⟩
  have HT := Lib.hid (show TriK w w3 b1 b2 b3 xs 0 from by
    refine ⟨D1, D2, D3, (H1.out.fr0 F2.out).fr0 hf3, H2.out.fr0 hf3, h3, (F1.out.then0 F2.out).then0 hf3, HD1.out, fun k hk => Nat.le_trans F1.out.size (HD2.out k hk), fun k hk => Nat.le_trans (F1.out.then0 F2.out).size (hd3 k hk), fun k hk hc => ?_, fun k hk hc => ?_, fun k hk hc => ?_⟩
    · have := H1.out.lt hk; have := HD2.out k hc; omega
    · have := H1.out.lt hk; have := hd3 k hc; have := F2.out.size; omega
    · have := H2.out.lt hk; have := hd3 k hc; omega)
  clear h3 hd3 hf3 H1 H2 HD1 HD2 F1 F2
  go_wp2_with fail
  go_loopw [6, 23] (fun nv iv wr => ∃ k : Nat, nv = .int .i64 k ∧ iv = .int .i64 k ∧ k ≤ N ∧ Hid (TriK w wr b1 b2 b3 xs k)) (fun _ iv _ => N - (intOf iv).toNat)
  case atStart => exact ⟨0, rfl, rfl, Nat.zero_le _, HT⟩
  case round =>
    clear HT
    obtain ⟨k, rfl, rfl, hk, HT⟩ := hrel
    obtain ⟨D1, D2, D3, T⟩ := HT.out
    by_cases hlt : k < N
    · have hkn : k < n := by omega
      obtain ⟨bq, off, rfl, hbq, hc0⟩ := HR.out.int_at hkn
      have c0 := (T.fr.cell (p := ⟨bq, off + k, none⟩) hbq (fun z => z)).trans hc0
      have hx : 0 ≤ xs.getD k 0 ∧ xs.getD k 0 ≤ 255 := by
        have hk2 : k < xs.length := by rw [HL.out]; exact hkn
        have : xs.getD k 0 = xs[k] := by simp [hk2]
        rw [this]
        exact HWF.out _ (List.getElem_mem _)
      have HV := Lib.hid (show vT xs k = xs.getD k 0 * 64 + k from rfl)
      have O0 := HOK.out k hk
      have O1 := HOK.out (k + 1) hlt
      have HRV := Lib.hid (stT_rev O0 O1)
      have HMP := Lib.hid (stT_map O0 O1)
      have HSA := Lib.hid (show ins ltI ⟨k, vT xs k, k⟩ (stT xs k) = stT xs (k + 1) from rfl)
      have HNI := Lib.hid O0.nid
      generalize hvv : vT xs k = v at *
      generalize xs.getD k 0 = x at *
      have hv : x * 64 + (k : Int) = v := by rw [HV.out]
      obtain ⟨q, hq⟩ : ∃ q, v.tdiv 128 = q := ⟨_, rfl⟩
      obtain ⟨r, hr⟩ : ∃ r, v.tmod 128 = r := ⟨_, rfl⟩
      have hx0 := hx.1
      have hx1 := hx.2
      have hv0 : 0 ≤ v ∧ v < 16384 := by omega
      have hq2 : v.tdiv 128 = v / 128 := Int.tdiv_eq_ediv_of_nonneg hv0.1
      have hr2 : v.tmod 128 = v % 128 := Int.tmod_eq_emod_of_nonneg hv0.1
      have hq0 : 0 ≤ q := by omega
      have hq1 : q < 128 := by omega
      have hr0 : 0 ≤ r := by omega
      have hr1 : r < 128 := by omega
      have hv1 := hv0.1
      have hv3 := hv0.2
      have HENC := Lib.hid (show enc v = ⟨⟨#[120]⟩, strOfNums [q, r]⟩ by unfold enc; rw [hq, hr])
      rw [HENC.out] at HMP
      obtain ⟨wa, hwa⟩ : ∃ wa, wa = wr.alloc (.cells #[.int .u8 q, .int .u8 r] 5) := ⟨_, rfl⟩
      have FA := Lib.hid (show Fr No wr wa by rw [hwa]; exact (Fr.refl No wr).alloc _)
      have hconv : (convert 56 9 (.slice (some ⟨wr.heap.size, 0, none⟩) 2 2)).run Try.prog (wr.alloc (.cells #[.int .u8 q, .int .u8 r] 5)) = .ok (.string (strOfNums [q, r])) (wr.alloc (.cells #[.int .u8 q, .int .u8 r] 5)) :=
        run_convert_bytes_arg _ 56 5 Try.underlying56 Try.underlying5 wr.heap.size 0 2 2 [q, r] rfl (fun i hi => by
          have hb := Blk.new wr 5 #[.int .u8 q, .int .u8 r]
          rw [Nat.zero_add, hb.cell]
          match i, hi with
          | 0, _ => rfl
          | 1, _ => rfl) 9 Try.underlying9
      have TA := Lib.hid (T.fr0 FA.out)
      have HWA := Lib.hid hwa
      have hlt2 : (k : Int) < (N : Int) := by omega
      have hg : (k : Int) < 1000000000 := by omega
      have HFX := Lib.hid (show fits (k : Int) by unfold fits; omega)
      have P1 := Lib.hid (Proofs.Ytbndmelkdamgjaa.iPush bef_lt TA.out.a k v HFX.out HNI.out hg)
      rw [HSA.out] at P1
      have HNI2 := Lib.hid (show (k : Int) ∉ ids (stT xs k).reverse from fun hc => HNI.out (by simpa [ids] using hc))
      have HNI3 := Lib.hid (show (k : Int) ∉ ids ((stT xs k).map mE) by rw [ids_map]; exact HNI.out)
      clear T hwa hx hv0 hq2 hr2 hc0 O0 O1 hvv HV HSA HT
      go_wp2_with fail
      rw [← HWA.out]
      refine P1.out.mono ?_
      rintro e w5 ⟨rfl, ht⟩
      obtain ⟨E1, t1⟩ := TA.out.turn1 ht
      have T1 := Lib.hid t1
      have P2 := Lib.hid (Proofs.Ytbndmelkdamgjaa.iPush bef_gt T1.out.b k v HFX.out HNI2.out hg)
      rw [HRV.out] at P2
      clear ht t1 TA P1 hconv c0
      go_wp2_with fail
      refine P2.out.mono ?_
      rintro e w6 ⟨rfl, ht⟩
      obtain ⟨E2, t2⟩ := T1.out.turn2 ht
      have T2 := Lib.hid t2
      have P3 := Lib.hid (show Calls Try.prog 43 #[.pointer (some ⟨b3, 0, none⟩), .int .i64 k, .agg #[.string ⟨#[120]⟩, .string (strOfNums [q, r])]] w6 fun e w' => e = .returned (.int .i64 0) ∧ TurnI 42 befS w6 b3 D3 (ins befS ⟨k, ⟨⟨#[120]⟩, strOfNums [q, r]⟩, k⟩ ((stT xs k).map mE)) (k + 1) w' from iPush bef_S T2.out.c k ⟨⟨#[120]⟩, strOfNums [q, r]⟩ HFX.out HNI3.out hg)
      rw [HMP.out] at P3
      clear ht t2 T1 P2
      go_wp2_with fail
      refine P3.out.mono ?_
      rintro e w7 ⟨rfl, ht⟩
      obtain ⟨E3, t3⟩ := T2.out.turn3 ht
      have HN := Lib.hid (show TriK w w7 b1 b2 b3 xs (k + 1) from ⟨E1, E2, E3, t3⟩)
      clear ht t3 T2 P3
      go_wp2
      go_roundw
      case rel => exact ⟨k + 1, by go_num, by go_num, hlt, HN⟩
      case measure => simp [intOf]; omega
    · obtain rfl : k = N := by omega
      have HTT := Lib.hid T
      have HLN := Lib.hid (show (ids (stT xs k)).length = k by have := (HOK.out k (Nat.le_refl _)).ln; simp [ids, this])
      have HRR := Lib.hid (show ids (stT xs k).reverse = (ids (stT xs k)).reverse by simp [ids])
      have I1 := Lib.hid (Proofs.Ytbndmelkdamgjaa.iIds bef_lt T.a)
      clear T HT
      generalize hS : ids (stT xs k) = S at *
      go_wp2_with fail
      refine I1.out.mono ?_
      rintro e v1 ⟨A1, n1, c1, rfl, hn1, ho1, hf1⟩
      have O1 := Lib.hid ho1
      have F1 := Lib.hid hf1
      obtain rfl : n1 = k := hn1.trans HLN.out
      have I2 := Lib.hid (Proofs.Ytbndmelkdamgjaa.iIds bef_gt (HTT.out.b.fr0 hf1))
      rw [HRR.out] at I2
      clear hn1 ho1 hf1 I1
      go_wp2_with fail
      refine I2.out.mono ?_
      rintro e v2 ⟨A2, n2, c2, rfl, hn2, ho2, hf2⟩
      have O2 := Lib.hid ho2
      have F2 := Lib.hid hf2
      obtain rfl : n2 = n1 := hn2.trans (by rw [List.length_reverse]; exact HLN.out)
      have I3 := Lib.hid (iIds bef_S ((HTT.out.c.fr0 F1.out).fr0 hf2))
      rw [ids_map, hS] at I3
      clear hn2 ho2 hf2 I2 hS
      go_wp2_with fail
      refine I3.out.mono ?_
      rintro e v3 ⟨A3, n3, c3, rfl, hn3, ho3, hf3⟩
      have O3 := Lib.hid ho3
      have F3 := Lib.hid hf3
      obtain rfl : n3 = n2 := hn3.trans HLN.out
      have RV := Lib.hid (reverse_any A2 n3 c2 v1.heap.size S.reverse v3 (own_fr O2.out hf3 (fun _ _ z => z)) (by omega))
      rw [List.reverse_reverse] at RV
      clear hn3 ho3 hf3 I3
      go_wp2_with fail
      refine RV.out.mono ?_
      rintro e v4 ⟨rfl, ho4, hf4⟩
      have O4 := Lib.hid ho4
      have F4 := Lib.hid hf4
      have hs1 := F1.out.size
      have hs2 := F2.out.size
      have hs3 := F3.out.size
      have OA := Lib.hid (own_fr (own_fr (own_fr O1.out F2.out (fun _ _ z => z)) F3.out (fun _ _ z => z)) hf4 (fun z hz hc => by have := (O1.out.lt z hz).2; have := (O2.out.lt z hc).1; omega))
      have OC := Lib.hid (own_fr O3.out hf4 (fun z hz hc => by have := (O3.out.lt z hz).1; have := (O2.out.lt z hc).2; omega))
      have hnn : n3 ≤ 9223372036854775807 := by omega
      have E1 := Lib.hid (equal_ids OA.out (Fr.refl No v4) A2 c2 v4.heap.size hnn (Reads.of_own O4.out))
      have FT := Lib.hid (((HTT.out.fr.then0 F1.out).then0 F2.out).then0 F3.out |>.ownS hf4 (fun z hz => by have := (O2.out.lt z hz).1; have := HTT.out.fr.size; omega))
      have hbq : ((n3 : Int) == (n3 : Int)) = true := by simp
      clear ho4 hf4 RV
      go_wp2_with fail
      refine E1.out.mono ?_
      rintro e v5 ⟨rfl, hf5⟩
      have E2 := Lib.hid (equal_ids OA.out hf5 A3 c3 v5.heap.size hnn (Reads.of_own (own_fr OC.out hf5 (fun _ _ z => z))))
      have F5 := Lib.hid (FT.out.then0 hf5)
      clear hf5 E1
      go_wp2_with fail
      refine E2.out.mono ?_
      rintro e v6 ⟨rfl, hf6⟩
      have F6 := Lib.hid (F5.out.then0 hf6)
      clear hf6 E2
      go_wp2_with fail
      refine (works_any _).mono ?_
      rintro e v7 ⟨rfl, hf7⟩
      go_wp2
      go_ret
      exact ⟨rfl, F6.out.then0 hf7⟩
end Go.Proofs.Ytbndmelkdamgjaa.Sh
