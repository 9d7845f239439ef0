/- CapsMany: the walk. -/
import Derived.Test.YtjgjbjigghfnbaaOrdP
namespace Go.Proofs.Ytjgjbjigghfnbaa
open Go.RowKit Go.Wk

theorem reads_two (w : World) (a b : Int) : Reads (w.alloc (.cells #[.int .i64 a, .int .i64 b] 3)) (w.heap.size + 1) 1 (some ⟨w.heap.size, 0, none⟩) 2 ([a, b].map (Value.int .i64)) := by
  refine ⟨rfl, fun _ => ⟨_, rfl, Nat.lt_succ_self _, fun j u hu => ?_⟩⟩
  rw [add_plain, Nat.zero_add]
  rw [World.cell?_alloc_new]
  simpa using hu

theorem repl_ge (j : Nat) (h : j < 64) : 998 ≤ (List.replicate 64 (1000 : Int)).getD j 0 := by
  rw [List.getD_eq_getElem?_getD, List.getElem?_replicate, if_pos h]
  decide

theorem repl_get (j : Nat) (h : j < 64) : (List.replicate 64 (1000 : Int)).getD j 0 = 1000 := by
  rw [List.getD_eq_getElem?_getD, List.getElem?_replicate, if_pos h]
  rfl
theorem set_ge (q : Nat) (K : Int) (j : Nat) (h : j < 64) (hK : -2 ≤ K) : 998 ≤ ((List.replicate 64 (1000 : Int)).set q (1000 + K)).getD j 0 := by
  rw [List.getD_eq_getElem?_getD, List.getElem?_set]
  split
  · split
    · simp; omega
    · simp_all
  · rw [List.getElem?_replicate, if_pos h]
    decide
theorem set_beyond (q : Nat) (K : Int) (h : q < 64) (hK : 0 < K) : ((List.replicate 64 (1000 : Int)).set q (1000 + K)).any beyondB = true := by
  rw [List.any_eq_true]
  refine ⟨1000 + K, ?_, by unfold beyondB; simp; omega⟩
  rw [List.mem_iff_getElem]
  exact ⟨q, by simpa using h, by simp⟩
theorem set_any (q : Nat) (K : Int) (hK : -2 ≤ K) (hK2 : K ≤ 0) : ((List.replicate 64 (1000 : Int)).set q (1000 + K)).any beyondB = false := by
  rw [List.any_eq_false]
  intro x hx
  rcases List.mem_or_eq_of_mem_set hx with h | rfl
  · rw [List.eq_of_mem_replicate h]; decide
  · unfold beyondB; simp; omega

def Z64 : Array Value := (cells .i64 (List.replicate 64 0)).toArray
theorem make64 (w : World) : (Instr.makeSlice 24 (.int .i64 64) (.int .i64 64)).run Try.prog w = .ok (.slice (some ⟨w.heap.size, 0, none⟩) 64 64) (w.alloc (.cells Z64 3)) := by kernel_rfl

/-- t runs have been taken, job after job. -/
structure ManyI (w wr : World) (g n t : Nat) (all : Int) (s : CS) : Prop where
  cap : CapsAt wr g s
  jobs : s.jobs = n
  hall : s.all = all
  most : ∀ j, j < n → 998 ≤ s.m j
  tot : s.total = t
  run : ∀ j, j < n → ∃ r : Nat, s.r j = r ∧ r * n + j < t + n
  frw : Fr No w wr

theorem ManyI.low {w wr : World} {g n t : Nat} {all : Int} {s : CS} (h : ManyI w wr g n t all s) (hn : 62 ≤ n) (ht : t ≤ 1000) : s.r (t % n) < s.m (t % n) := by
  have hq : t % n < n := Nat.mod_lt _ (by omega)
  obtain ⟨r, hr, hb⟩ := h.run _ hq
  have hm := h.most _ hq
  have : r * 62 ≤ r * n := Nat.mul_le_mul_left _ hn
  have hn64 : n ≤ 64 := by have := h.cap.ok.jobs; have := h.jobs; omega
  omega

theorem ManyI.step {w wr wn : World} {g n t : Nat} {all : Int} {s : CS} (h : ManyI w wr g n t all s) (hn : 62 ≤ n) (hg : w.heap.size ≤ g) (hc : CapsAt wn g (s.add (t % n) 1)) (hf : Fr (· = g) wr wn) : ManyI w wn g n (t + 1) all (s.add (t % n) 1) := by
  have hq : t % n < n := Nat.mod_lt _ (by omega)
  have hn64 : n ≤ 64 := by have := h.cap.ok.jobs; have := h.jobs; omega
  refine ⟨hc, h.jobs, h.hall, h.most, by show s.total + 1 = _; rw [h.tot]; omega, fun j hj => ?_, h.frw.own hf hg⟩
  obtain ⟨r, hr, hb⟩ := h.run j hj
  rw [s.add_r _ _ _ h.cap.ok.lr (by omega)]
  by_cases e : j = t % n
  · subst e
    refine ⟨r + 1, by rw [if_pos rfl, hr]; omega, ?_⟩
    have hd := Nat.div_add_mod t n
    have h1 : r * n < (t / n + 1) * n := by
      rw [Nat.add_mul, Nat.mul_comm (t / n) n]; omega
    have h2 : r < t / n + 1 := Nat.lt_of_mul_lt_mul_right h1
    have h3 : (r + 1) * n ≤ (t / n + 1) * n := Nat.mul_le_mul_right _ (by omega)
    rw [Nat.add_mul (t / n), Nat.mul_comm (t / n) n] at h3
    omega
  · exact ⟨r, by rw [if_neg e, hr], by omega⟩

theorem ManyI.start {w wr : World} {g n : Nat} {all : Int} {xs : List Int} (hn : xs.length = n) (hx : ∀ j, j < n → 998 ≤ xs.getD j 0) (hc : CapsAt wr g (.fresh all xs)) (hf : Fr No w wr) : ManyI w wr g n 0 all (.fresh all xs) :=
  ⟨hc, hn, rfl, fun j hj => by rw [CS.fresh_m]; exact hx j hj, rfl, fun j hj => ⟨0, by rw [CS.fresh_r]; rfl, by omega⟩, hf⟩

/-- The list while it is filled. -/
def fill (k : Nat) : List Int := List.replicate k 1000 ++ List.replicate (64 - k) 0
theorem fill_len (k : Nat) (h : k ≤ 64) : (fill k).length = 64 := by simp [fill]; omega
theorem fill_set (k : Nat) (h : k < 64) : (fill k).set k 1000 = fill (k + 1) := by
  unfold fill
  rw [List.set_append_right _ _ (by simp)]
  simp only [List.length_replicate, Nat.sub_self]
  rw [show 64 - k = (64 - (k + 1)) + 1 by omega, List.replicate_succ, List.set_cons_zero, ← List.replicate_append_replicate (n := k) (m := 1)]
  simp [List.replicate]
theorem fill_all : fill 64 = List.replicate 64 1000 := by simp [fill]

set_option maxRecDepth 100000 in
set_option maxHeartbeats 8000000 in
theorem capsMany_walk (more which : Int) (w : World) (hj : 0 ≤ more ∧ more ≤ 255) (hw : 0 ≤ which ∧ which ≤ 255) :
    Calls Try.prog 4 #[.int .u8 more, .int .u8 which] w fun e w' => e = .returned (.bool true) ∧ Below w.heap.size w w' := by
  obtain ⟨i0, hi, hz0, hz1, hz2⟩ := info_parts info3
  obtain ⟨hj1, hj2⟩ := hj
  obtain ⟨hw1, hw2⟩ := hw
  have hm1 : 0 ≤ more % 4 := by omega
  have hm2 : more % 4 < 4 := by omega
  have hmk := make64
  go_enter Try.func4, Try.ntmps4
  go_wp2
  go_region
  go_wp2
  have hb0 : Blk (w.alloc (.cells Z64 3)) w.heap.size 3 (cells .i64 (fill 0)).toArray := Blk.new w 3 Z64
  go_loopw [23] (fun i wr => ∃ k : Nat, i = .int .i64 k ∧ k ≤ 64 ∧ Blk wr w.heap.size 3 (cells .i64 (fill k)).toArray ∧ Fr No w wr) (fun i _ => 64 - (intOf i).toNat)
  case atStart => exact ⟨0, rfl, Nat.zero_le _, hb0, ((Fr.refl No w).drew).alloc _⟩
  case round =>
    clear hb0
    obtain ⟨k, rfl, hk, hb, hF⟩ := hrel
    by_cases hlt : k < 64
    · have hfz := hb.frozen
      have hcc := hb.num (j := k) (by rw [fill_len k (by omega)]; omega)
      have hset := Lib.hid (fill_set k hlt)
      have HB := Lib.hid hb
      clear hb
      go_wp2
      go_roundw
      case rel =>
        refine ⟨k + 1, by go_num, by omega, ?_, hF.setCell (.inl (Nat.le_refl _)) _⟩
        rw [← hset.out]
        exact HB.out.num_set k 1000
      case measure => simp [intOf]; omega
    · have hk64 : k = 64 := by omega
      rw [hk64, fill_all] at hb
      clear hk64
      have hK1 : -2 ≤ more % 4 - 2 := by omega
      have hK2 : more % 4 - 2 ≤ 1 := by omega
      by_cases w0 : which % 3 = 0
      · have hwb : (which % 3 == 0) = true := by simp; exact w0
        clear w0
        go_wp2_with fail
        generalize more % 4 - 2 = K at *

        by_cases hKp : 0 < K
        · have hrd : Reads wr wr.heap.size 1 (some ⟨w.heap.size, 0, none⟩) 64 (cells .i64 (List.replicate 64 1000)) := by
            have := (hb).reads (n := 64) (by simp [cells])
            rwa [List.take_of_length_le (by simp [cells])] at this
          have HRD := Lib.hid hrd
          clear hrd

          refine (new_bad _ _ _ _ _ (List.replicate 64 1000) _ (by omega) HRD.out (.inl (by unfold beyondB; simp; omega))).mono ?_
          rintro e _ ⟨rfl, rfl⟩

          go_wp2_with fail
          refine (new_bad (-1) _ 0 _ 0 [] _ (by omega) Reads.none_ (.inl (by decide))).mono ?_
          rintro e _ ⟨rfl, rfl⟩
          have hr2 := fun (W : World) => reads_two W 0 (-1)
          go_wp2_with fail
          refine (new_bad 1 _ 2 _ _ [0, -1] _ (by omega) (hr2 _) (.inr (.inr (by decide)))).mono ?_
          rintro e _ ⟨rfl, rfl⟩
          clear hr2

          go_wp2_with fail
          refine (works_any _).mono ?_
          rintro e w8 ⟨rfl, hf8⟩
          go_wp2
          go_ret
          exact ⟨rfl, (((hF).alloc _).then0 hf8).below⟩
        · have hrd : Reads wr wr.heap.size 1 (some ⟨w.heap.size, 0, none⟩) 64 (cells .i64 (List.replicate 64 1000)) := by
            have := (hb).reads (n := 64) (by simp [cells])
            rwa [List.take_of_length_le (by simp [cells])] at this
          have HRD := Lib.hid hrd
          clear hrd
          have HLX := Lib.hid (show (List.replicate 64 (1000 : Int)).length = 64 by simp)
          have HN1 := Lib.hid (show beyondB (1000 + K) = false by unfold beyondB; simp; omega)
          have HA1 := Lib.hid (show (List.replicate 64 (1000 : Int)).any beyondB = false by decide)
          have HM8 : Hid (∀ j, j < 64 → 998 ≤ (List.replicate 64 (1000 : Int)).getD j 0) := fun j hj => repl_ge j hj
          clear hb

          refine (new_good' _ _ _ _ _ (List.replicate 64 1000) _ HLX.out HRD.out (Nat.le_refl _) HN1.out (by omega) HA1.out).mono ?_
          rintro e w2 ⟨rfl, hca, hba⟩
          have f2 := Fr.of_below (S := No) hba
          have hga : w.heap.size ≤ wr.heap.size := (hF).size
          have hI := ManyI.start (n := 64) HLX.out HM8.out hca ((hF).then0 f2)
          clear hca hba f2
          generalize wr.heap.size = g at *

          go_wp2_with fail
          refine (new_bad (-1) _ 0 _ 0 [] _ (by omega) Reads.none_ (.inl (by decide))).mono ?_
          rintro e _ ⟨rfl, rfl⟩
          have hr2 := fun (W : World) => reads_two W 0 (-1)
          go_wp2_with fail
          refine (new_bad 1 _ 2 _ _ [0, -1] _ (by omega) (hr2 _) (.inr (.inr (by decide)))).mono ?_
          rintro e _ ⟨rfl, rfl⟩
          clear hr2

          have hI2 : ∀ o, ManyI w (w2.alloc o) g 64 0 (1000 + K) _ := fun o => ⟨hI.cap.alloc o, hI.jobs, hI.hall, hI.most, hI.tot, hI.run, hI.frw.alloc o⟩
          have HI2 := Lib.hid hI2
          clear hI hI2
          go_wp2_with fail
          go_loopw [15] (fun i wr => ∃ (t : Nat) (s : CS), i = .int .i64 t ∧ (t : Int) ≤ (1000 + K) ∧ ManyI w wr g 64 t (1000 + K) s) (fun i _ => 2000 - (intOf i).toNat)
          case atStart => exact ⟨0, _, rfl, by omega, HI2.out _⟩
          case round =>
            clear HI2
            obtain ⟨t, s, rfl, ht, hI⟩ := hrel
            have hn62 : 62 ≤ 64 := by omega
            have hmod : ((t : Int) % (64 : Int)) = ((t % 64 : Nat) : Int) := by simp
            have hq : t % 64 < 64 := Nat.mod_lt _ (by omega)
            have hh : s.has ((t % 64 : Nat) : Int) = true := CS.has_of (by omega) (by rw [hI.jobs]; omega)
            obtain ⟨_, _, _, f3, f4⟩ := CS.facts hh
            simp only [Int.toNat_natCast] at f3 f4
            have hll : s.left (t % 64) = min (s.m (t % 64) - s.r (t % 64)) ((1000 + K) - t) := by unfold CS.left; rw [hI.hall, hI.tot]
            by_cases hlt : (t : Int) < (1000 + K)
            · have hlow := hI.low hn62 (by omega)
              have hE := Lib.hid (f3 (by rw [hll]; omega))
              have hst := fun (wn : World) (hc : CapsAt wn g (s.add (t % 64) 1)) (hf : Fr (· = g) wr wn) => hI.step hn62 hga hc hf
              have HST := Lib.hid hst
              have HMD := Lib.hid hmod
              clear f3 f4 hll hlow hst hh hmod hq
              go_wp2_with fail
              rw [HMD.out]
              refine (take_any _ _ _ _ hI.cap).mono ?_
              rintro e w4 ⟨rfl, hc4, hf4⟩
              rw [hE.out.2.1]
              rw [hE.out.2.2] at hc4
              have hJ := HST.out _ hc4 hf4
              clear hc4 hf4 hI
              go_wp2
              go_roundw
              case rel => exact ⟨t + 1, _, by go_num, by omega, hJ⟩
              case measure => simp [intOf]; omega
            · have hE := Lib.hid (f4 (by rw [hll]; omega))
              have HT : Hid (s.total = t) := hI.tot
              have hta : (t : Int) = (1000 + K) := by omega
              have HMD := Lib.hid hmod
              clear f3 f4 hll hh hmod hq
              have HTA := Lib.hid hta
              clear hta
              go_wp2_with fail
              rw [HMD.out]
              refine (take_any _ _ _ _ hI.cap).mono ?_
              rintro e w4 ⟨rfl, hc4, hf4⟩
              rw [hE.out.2.1]
              rw [hE.out.2.2] at hc4
              have hF4 := hI.frw.own hf4 hga
              clear hI hf4
              have hbt : ((t : Int) == (t : Int)) = true := by simp
              have hba : ((t : Int) == (1000 + K)) = true := by simp; exact HTA.out
              have hba3 : ((t : Int) == 1000) = true ∨ (1000 + K) < 1000 := by have := HTA.out; simp; omega
              go_wp2_with fail
              refine (total_any _ _ _ hc4).mono ?_
              rintro e _ ⟨rfl, rfl⟩
              rw [HT.out]
              go_wp2_with fail
              refine (works_any _).mono ?_
              rintro e w8 ⟨rfl, hf8⟩
              go_wp2
              go_ret
              exact ⟨rfl, (hF4.then0 hf8).below⟩
      · by_cases w1 : which % 3 = 1
        · have hwb : (which % 3 == 0) = false := by simp; exact w0
          have hwb1 : (which % 3 == 1) = true := by simp; exact w1
          clear w0 w1
          obtain ⟨q, hq⟩ := Int.eq_ofNat_of_zero_le (show 0 ≤ more % 64 by omega)
          have hq64 : q < 64 := by omega
          have hcc := hb.num (j := q) (by simp; exact hq64)
          rw [repl_get q hq64] at hcc
          have hfz := hb.frozen
          have HQ := Lib.hid hq
          have hq0 : 0 ≤ more % 64 := by omega
          have hq1 : more % 64 < 64 := by omega
          have hqn : (more % 64).toNat = q := by omega
          clear hq
          go_wp2_with fail
          clear hqn hq0 hq1 hcc hfz
          generalize more % 4 - 2 = K at *
          have hb' := hb.num_set q (1000 + K)
          have hF' := hF.setCell (p := ⟨w.heap.size, q, none⟩) (.inl (Nat.le_refl _)) (.int .i64 (1000 + K))
          clear hb hF
          generalize wr.setCell ⟨w.heap.size, q, none⟩ (.int .i64 (1000 + K)) = wz at *

          by_cases hKp : 0 < K
          · have hrd : Reads wz wz.heap.size 1 (some ⟨w.heap.size, 0, none⟩) 64 (cells .i64 ((List.replicate 64 1000).set q (1000 + K))) := by
              have := (hb').reads (n := 64) (by simp [cells])
              rwa [List.take_of_length_le (by simp [cells])] at this
            have HRD := Lib.hid hrd
            clear hrd

            refine (new_bad _ _ _ _ _ ((List.replicate 64 1000).set q (1000 + K)) _ (by omega) HRD.out (.inr (.inr (set_beyond q K hq64 hKp)))).mono ?_
            rintro e _ ⟨rfl, rfl⟩

            go_wp2_with fail
            refine (new_bad (-1) _ 0 _ 0 [] _ (by omega) Reads.none_ (.inl (by decide))).mono ?_
            rintro e _ ⟨rfl, rfl⟩
            have hr2 := fun (W : World) => reads_two W 0 (-1)
            go_wp2_with fail
            refine (new_bad 1 _ 2 _ _ [0, -1] _ (by omega) (hr2 _) (.inr (.inr (by decide)))).mono ?_
            rintro e _ ⟨rfl, rfl⟩
            clear hr2

            go_wp2_with fail
            refine (works_any _).mono ?_
            rintro e w8 ⟨rfl, hf8⟩
            go_wp2
            go_ret
            exact ⟨rfl, (((hF').alloc _).then0 hf8).below⟩
          · have hrd : Reads wz wz.heap.size 1 (some ⟨w.heap.size, 0, none⟩) 64 (cells .i64 ((List.replicate 64 1000).set q (1000 + K))) := by
              have := (hb').reads (n := 64) (by simp [cells])
              rwa [List.take_of_length_le (by simp [cells])] at this
            have HRD := Lib.hid hrd
            clear hrd
            have HLX := Lib.hid (show ((List.replicate 64 (1000 : Int)).set q (1000 + K)).length = 64 by simp)
            have HN1 := Lib.hid (show beyondB 1000 = false by decide)
            have HA1 := Lib.hid (set_any q K (by omega) (by omega))
            have HM8 : Hid (∀ j, j < 64 → 998 ≤ ((List.replicate 64 (1000 : Int)).set q (1000 + K)).getD j 0) := fun j hj => set_ge q K j hj (by omega)
            clear hb'

            refine (new_good' _ _ _ _ _ ((List.replicate 64 1000).set q (1000 + K)) _ HLX.out HRD.out (Nat.le_refl _) HN1.out (by omega) HA1.out).mono ?_
            rintro e w2 ⟨rfl, hca, hba⟩
            have f2 := Fr.of_below (S := No) hba
            have hga : w.heap.size ≤ wz.heap.size := (hF').size
            have hI := ManyI.start (n := 64) HLX.out HM8.out hca ((hF').then0 f2)
            clear hca hba f2
            generalize wz.heap.size = g at *

            go_wp2_with fail
            refine (new_bad (-1) _ 0 _ 0 [] _ (by omega) Reads.none_ (.inl (by decide))).mono ?_
            rintro e _ ⟨rfl, rfl⟩
            have hr2 := fun (W : World) => reads_two W 0 (-1)
            go_wp2_with fail
            refine (new_bad 1 _ 2 _ _ [0, -1] _ (by omega) (hr2 _) (.inr (.inr (by decide)))).mono ?_
            rintro e _ ⟨rfl, rfl⟩
            clear hr2

            have hI2 : ∀ o, ManyI w (w2.alloc o) g 64 0 1000 _ := fun o => ⟨hI.cap.alloc o, hI.jobs, hI.hall, hI.most, hI.tot, hI.run, hI.frw.alloc o⟩
            have HI2 := Lib.hid hI2
            clear hI hI2
            go_wp2_with fail
            go_loopw [15] (fun i wr => ∃ (t : Nat) (s : CS), i = .int .i64 t ∧ (t : Int) ≤ 1000 ∧ ManyI w wr g 64 t 1000 s) (fun i _ => 2000 - (intOf i).toNat)
            case atStart => exact ⟨0, _, rfl, by omega, HI2.out _⟩
            case round =>
              clear HI2
              obtain ⟨t, s, rfl, ht, hI⟩ := hrel
              have hn62 : 62 ≤ 64 := by omega
              have hmod : ((t : Int) % (64 : Int)) = ((t % 64 : Nat) : Int) := by simp
              have hq : t % 64 < 64 := Nat.mod_lt _ (by omega)
              have hh : s.has ((t % 64 : Nat) : Int) = true := CS.has_of (by omega) (by rw [hI.jobs]; omega)
              obtain ⟨_, _, _, f3, f4⟩ := CS.facts hh
              simp only [Int.toNat_natCast] at f3 f4
              have hll : s.left (t % 64) = min (s.m (t % 64) - s.r (t % 64)) (1000 - t) := by unfold CS.left; rw [hI.hall, hI.tot]
              by_cases hlt : (t : Int) < 1000
              · have hlow := hI.low hn62 (by omega)
                have hE := Lib.hid (f3 (by rw [hll]; omega))
                have hst := fun (wn : World) (hc : CapsAt wn g (s.add (t % 64) 1)) (hf : Fr (· = g) wr wn) => hI.step hn62 hga hc hf
                have HST := Lib.hid hst
                have HMD := Lib.hid hmod
                clear f3 f4 hll hlow hst hh hmod hq
                go_wp2_with fail
                rw [HMD.out]
                refine (take_any _ _ _ _ hI.cap).mono ?_
                rintro e w4 ⟨rfl, hc4, hf4⟩
                rw [hE.out.2.1]
                rw [hE.out.2.2] at hc4
                have hJ := HST.out _ hc4 hf4
                clear hc4 hf4 hI
                go_wp2
                go_roundw
                case rel => exact ⟨t + 1, _, by go_num, by omega, hJ⟩
                case measure => simp [intOf]; omega
              · have hE := Lib.hid (f4 (by rw [hll]; omega))
                have HT : Hid (s.total = t) := hI.tot
                have hta : (t : Int) = 1000 := by omega
                have HMD := Lib.hid hmod
                clear f3 f4 hll hh hmod hq
                have HTA := Lib.hid hta
                clear hta
                go_wp2_with fail
                rw [HMD.out]
                refine (take_any _ _ _ _ hI.cap).mono ?_
                rintro e w4 ⟨rfl, hc4, hf4⟩
                rw [hE.out.2.1]
                rw [hE.out.2.2] at hc4
                have hF4 := hI.frw.own hf4 hga
                clear hI hf4
                have hbt : ((t : Int) == (t : Int)) = true := by simp
                have hba : ((t : Int) == 1000) = true := by simp; exact HTA.out
                have hba3 : ((t : Int) == 1000) = true ∨ 1000 < 1000 := by have := HTA.out; simp; omega
                go_wp2_with fail
                refine (total_any _ _ _ hc4).mono ?_
                rintro e _ ⟨rfl, rfl⟩
                rw [HT.out]
                go_wp2_with fail
                refine (works_any _).mono ?_
                rintro e w8 ⟨rfl, hf8⟩
                go_wp2
                go_ret
                exact ⟨rfl, (hF4.then0 hf8).below⟩
        · have hwb : (which % 3 == 0) = false := by simp; exact w0
          have hwb1 : (which % 3 == 1) = false := by simp; exact w1
          clear w0 w1
          have hown0 : wr.ownsRow w.heap.size 3 1 (.slice (some ⟨w.heap.size, 0, none⟩) 64 64) 64 (cells .i64 (List.replicate 64 1000)) := by
            have := Blk.own hb (Nat.le_refl _) (by simp [cells, maxLen])
            simpa [cells] using this
          have HO := Lib.hid (hown0.alloc (.cells #[.int .i64 0, .int .i64 0] 3))
          have HR2 := Lib.hid (reads_two wr 0 0)
          have hsz := hF.size
          have hone : Hid (∀ u ∈ [(0 : Int), 0].map (Value.int .i64), u.oneCell' = true) := ints_oneCell _ _
          obtain ⟨nN, hnN⟩ := Int.eq_ofNat_of_zero_le (show 0 ≤ 64 + (more % 4 - 2) by omega)
          have HNN := Lib.hid hnN
          have hmin : (64 : Int) + (more % 4 - 2) ≤ 65 := by omega
          have hmin0 : (0 : Int) ≤ 64 + (more % 4 - 2) := by omega
          clear hb hown0 hnN
          go_wp2_with (at_builtin; go_must (refine wpList_append_any _ rfl (.tmp 32) (.tmp 33) _ rfl w.heap.size 3 i0 _ 1 8 Try.underlying24 hi hz0 hz1 hz2 rfl (by omega) (.slice (some ⟨w.heap.size, 0, none⟩) 64 64) 64 _ rfl HO.out (wr.heap.size + 1) (some ⟨wr.heap.size, 0, none⟩) 2 2 _ rfl HR2.out hone.out (by unfold maxLen; omega) (by omega) (by simp; omega) ?_); intro v1 w1 hown1 hg1 hat1; obtain ⟨A2, c2, rfl, hnc2, hcm2, hrd2⟩ := Reads.of_cells hown1 (Nat.le_refl _); unfold maxLen at hcm2)
          have hF' : Fr No w w1 := (hF.alloc _).own (g := w.heap.size) (Fr.of_grown hg1 (fun k hk => by simpa [Value.ownBlock, eq_comm] using hk)) (Nat.le_refl _)
          have hnN := HNN.out
          rw [hnN]
          simp only [Int.toNat_natCast]
          have hrd : Reads w1 w1.heap.size 1 A2 nN (cells .i64 (if nN ≤ 64 then List.replicate nN 1000 else List.replicate 64 1000 ++ [0])) := by
            have := reads_take hrd2 (m := nN) (by omega)
            have e : (cells .i64 (List.replicate 64 1000) ++ [0, 0].map (Value.int .i64)).take nN = cells .i64 (if nN ≤ 64 then List.replicate nN 1000 else List.replicate 64 1000 ++ [0]) := by
              by_cases h : nN ≤ 64
              · rw [if_pos h, List.take_append_of_le_length (by simp [cells]; omega)]
                unfold cells
                rw [← List.map_take, List.take_replicate, Nat.min_eq_left h]
              · rw [if_neg h, show nN = 65 by omega]
                simp [cells]
            rwa [e] at this
          have HRD := Lib.hid hrd
          have hnK1 : (nN : Int) ≤ 64 + (more % 4 - 2) := by omega
          have hnK2 : 64 + (more % 4 - 2) ≤ (nN : Int) := by omega
          have HF := Lib.hid hF'
          clear hrd hrd2 hown1 hg1 hat1 HO HR2 hF hnN
          generalize more % 4 - 2 = K at *

          by_cases hKp : 0 < K
          · refine (new_bad _ _ _ _ _ _ _ (by omega) HRD.out (.inr (.inl (by omega)))).mono ?_
            rintro e _ ⟨rfl, rfl⟩

            go_wp2_with fail
            refine (new_bad (-1) _ 0 _ 0 [] _ (by omega) Reads.none_ (.inl (by decide))).mono ?_
            rintro e _ ⟨rfl, rfl⟩
            have hr2 := fun (W : World) => reads_two W 0 (-1)
            go_wp2_with fail
            refine (new_bad 1 _ 2 _ _ [0, -1] _ (by omega) (hr2 _) (.inr (.inr (by decide)))).mono ?_
            rintro e _ ⟨rfl, rfl⟩
            clear hr2

            go_wp2_with fail
            refine (works_any _).mono ?_
            rintro e w8 ⟨rfl, hf8⟩
            go_wp2
            go_ret
            exact ⟨rfl, (((hF').alloc _).then0 hf8).below⟩
          · have hn64' : nN ≤ 64 := by omega
            rw [if_pos hn64'] at HRD
            have HLX := Lib.hid (show (List.replicate nN (1000 : Int)).length = nN by simp)
            have HN1 := Lib.hid (show beyondB 1000 = false by decide)
            have HA1 : Hid ((List.replicate nN (1000 : Int)).any beyondB = false) := by simp [Hid, beyondB]
            have HM8 : Hid (∀ j, j < nN → 998 ≤ (List.replicate nN (1000 : Int)).getD j 0) := by intro j hj; rw [List.getD_eq_getElem?_getD, List.getElem?_replicate, if_pos hj]; decide

            refine (new_good' _ _ _ _ _ (List.replicate nN 1000) _ HLX.out HRD.out (Nat.le_refl _) HN1.out (by omega) HA1.out).mono ?_
            rintro e w2 ⟨rfl, hca, hba⟩
            have f2 := Fr.of_below (S := No) hba
            have hga : w.heap.size ≤ w1.heap.size := (hF').size
            have hI := ManyI.start (n := nN) HLX.out HM8.out hca ((hF').then0 f2)
            clear hca hba f2
            generalize w1.heap.size = g at *

            go_wp2_with fail
            refine (new_bad (-1) _ 0 _ 0 [] _ (by omega) Reads.none_ (.inl (by decide))).mono ?_
            rintro e _ ⟨rfl, rfl⟩
            have hr2 := fun (W : World) => reads_two W 0 (-1)
            go_wp2_with fail
            refine (new_bad 1 _ 2 _ _ [0, -1] _ (by omega) (hr2 _) (.inr (.inr (by decide)))).mono ?_
            rintro e _ ⟨rfl, rfl⟩
            clear hr2

            have hI2 : ∀ o, ManyI w (w2.alloc o) g nN 0 1000 _ := fun o => ⟨hI.cap.alloc o, hI.jobs, hI.hall, hI.most, hI.tot, hI.run, hI.frw.alloc o⟩
            have HI2 := Lib.hid hI2
            clear hI hI2
            go_wp2_with fail
            go_loopw [15] (fun i wr => ∃ (t : Nat) (s : CS), i = .int .i64 t ∧ (t : Int) ≤ 1000 ∧ ManyI w wr g nN t 1000 s) (fun i _ => 2000 - (intOf i).toNat)
            case atStart => exact ⟨0, _, rfl, by omega, HI2.out _⟩
            case round =>
              clear HI2
              obtain ⟨t, s, rfl, ht, hI⟩ := hrel
              have hn62 : 62 ≤ nN := by omega
              have hmod : ((t : Int) % (nN : Int)) = ((t % nN : Nat) : Int) := by simp
              have hq : t % nN < nN := Nat.mod_lt _ (by omega)
              have hh : s.has ((t % nN : Nat) : Int) = true := CS.has_of (by omega) (by rw [hI.jobs]; omega)
              obtain ⟨_, _, _, f3, f4⟩ := CS.facts hh
              simp only [Int.toNat_natCast] at f3 f4
              have hll : s.left (t % nN) = min (s.m (t % nN) - s.r (t % nN)) (1000 - t) := by unfold CS.left; rw [hI.hall, hI.tot]
              by_cases hlt : (t : Int) < 1000
              · have hlow := hI.low hn62 (by omega)
                have hE := Lib.hid (f3 (by rw [hll]; omega))
                have hst := fun (wn : World) (hc : CapsAt wn g (s.add (t % nN) 1)) (hf : Fr (· = g) wr wn) => hI.step hn62 hga hc hf
                have HST := Lib.hid hst
                have HMD := Lib.hid hmod
                clear f3 f4 hll hlow hst hh hmod hq
                go_wp2_with fail
                rw [HMD.out]
                refine (take_any _ _ _ _ hI.cap).mono ?_
                rintro e w4 ⟨rfl, hc4, hf4⟩
                rw [hE.out.2.1]
                rw [hE.out.2.2] at hc4
                have hJ := HST.out _ hc4 hf4
                clear hc4 hf4 hI
                go_wp2
                go_roundw
                case rel => exact ⟨t + 1, _, by go_num, by omega, hJ⟩
                case measure => simp [intOf]; omega
              · have hE := Lib.hid (f4 (by rw [hll]; omega))
                have HT : Hid (s.total = t) := hI.tot
                have hta : (t : Int) = 1000 := by omega
                have HMD := Lib.hid hmod
                clear f3 f4 hll hh hmod hq
                have HTA := Lib.hid hta
                clear hta
                go_wp2_with fail
                rw [HMD.out]
                refine (take_any _ _ _ _ hI.cap).mono ?_
                rintro e w4 ⟨rfl, hc4, hf4⟩
                rw [hE.out.2.1]
                rw [hE.out.2.2] at hc4
                have hF4 := hI.frw.own hf4 hga
                clear hI hf4
                have hbt : ((t : Int) == (t : Int)) = true := by simp
                have hba : ((t : Int) == 1000) = true := by simp; exact HTA.out
                have hba3 : ((t : Int) == 1000) = true ∨ 1000 < 1000 := by have := HTA.out; simp; omega
                go_wp2_with fail
                refine (total_any _ _ _ hc4).mono ?_
                rintro e _ ⟨rfl, rfl⟩
                rw [HT.out]
                go_wp2_with fail
                refine (works_any _).mono ?_
                rintro e w8 ⟨rfl, hf8⟩
                go_wp2
                go_ret
                exact ⟨rfl, (hF4.then0 hf8).below⟩
end Go.Proofs.Ytjgjbjigghfnbaa
