/- CapsOrder: the walk. -/
import Derived.Test.YtjgjbjigghfnbaaOrdP
namespace Go.Proofs.Ytjgjbjigghfnbaa
open Go.RowKit Go.Wk

set_option maxRecDepth 100000 in
set_option maxHeartbeats 8000000 in
theorem capsOrder_walk (count : Int) (B : Option Addr) (n2 c2 : Nat) (bs : List Int) (w : World) (h2 : Reads w w.heap.size 1 B n2 (bs.map (Value.int .u8))) (hn2 : n2 ≤ c2) (hc2 : c2 ≤ 9223372036854775807)
    (hb : ∀ x ∈ bs, 0 ≤ x ∧ x ≤ 255) (hj : 0 ≤ count ∧ count ≤ 255) :
    Calls Try.prog 6 #[.int .u8 count, .slice B n2 c2] w fun e w' => e = .returned (.bool true) ∧ Below w.heap.size w w' := by
  obtain ⟨i0, hi, hz0, hz1, hz2⟩ := info_parts info3
  obtain ⟨hj1, hj2⟩ := hj
  have hl2 := h2.length_ints
  have e200 : max (200 : Int) 0 = 200 := by decide
  have hcm1 : 0 ≤ count % 64 := by omega
  have hcm2 : count % 64 < 64 := by omega
  obtain ⟨n, hn⟩ := Int.eq_ofNat_of_zero_le (show 0 ≤ 1 + count % 64 by omega)
  have hn1 : 1 ≤ n := by omega
  have hn64 : n ≤ 64 := by omega
  have NEQ := Lib.hid hn
  clear hn
  rcases Nat.lt_or_ge 200 n2 with h200 | h200
  · obtain ⟨ls, hls⟩ : ∃ ls, ls = bs.take 200 := ⟨_, rfl⟩
    have hrl : Reads w w.heap.size 1 B 200 (ls.map (Value.int .u8)) := by
      rw [hls, List.map_take]; exact reads_take h2 (by omega)
    have hln : ls.length = 200 := by rw [hls, List.length_take]; omega
    have HBS : ∀ x ∈ ls, 0 ≤ x ∧ x ≤ 255 := fun x hx => hb x (by rw [hls] at hx; exact List.mem_of_mem_take hx)
    clear h2 hb hl2 hls
    have hbs : ∀ x ∈ ls, 0 ≤ x ∧ x ≤ 255 := HBS
    have HBS2 := Lib.hid hbs
    have HRL := Lib.hid hrl
    have HLN := Lib.hid hln
    clear hbs hrl hln
    go_enter Try.func6, Try.ntmps6
    go_wp2_with (at_make; go_must (refine wpList_make_full _ rfl _ _ 24 rfl w.heap.size 3 i0 (.int .i64 0) 1 Try.underlying24 hi hz0 hz1 .i64 .i64 _ _ n rfl rfl NEQ.out NEQ.out (by rw [hz2]; omega) (by unfold maxLen; omega) (Nat.le_refl _) ?_); intro w1 hown1 hg1)
    rw [madeCells_int, ← cl_nil n] at hown1
    have hblk : Blk w1 w.heap.size 3 (cells .i64 (cl n (ls.take 0))).toArray := Blk.of_full hown1
    have hF1 : Fr No w w1 := Fr.of_grown hg1 (fun k hk => by cases hk)
    obtain ⟨gr, hgr⟩ : ∃ gr, gr = w.heap.size := ⟨_, rfl⟩
    rw [← hgr] at hblk
    have HGR := Lib.hid hgr
    clear hown1 hg1
    simp only [← hgr]
    clear hgr

    rw [NEQ.out]
    have hcm : ((n : Int)) ≤ 64 := by omega
    go_wp2
    go_loopw [39] (fun i wr => ∃ k : Nat, i = .int .i64 k ∧ k ≤ 200 ∧ Blk wr gr 3 (cells .i64 (cl n (ls.take k))).toArray ∧ Fr No w wr) (fun i _ => 200 - (intOf i).toNat)
    case atStart => exact ⟨0, rfl, Nat.zero_le _, hblk, hF1⟩
    case round =>
      clear hblk hF1
      obtain ⟨k, rfl, hk, hblk, hF⟩ := hrel
      by_cases hlt : k < 200
      · obtain ⟨b, off, rfl, hbb, hcell⟩ := HRL.out.int_at hlt
        have hx := HBS2.out (ls.getD k 0) (by have := HLN.out; simp [show k < ls.length by omega])
        have hq1 : 0 ≤ (ls.getD k 0) % (n : Int) := Int.emod_nonneg _ (by omega)
        have hq2 : (ls.getD k 0) % (n : Int) < n := Int.emod_lt_of_pos _ (by omega)
        obtain ⟨q, hq⟩ := Int.eq_ofNat_of_zero_le hq1
        have hqn : q < n := by omega
        have hst := Lib.hid (cl_step n ls k q (by rw [HLN.out]; exact hlt) hq)
        have hcc := hblk.num (j := q) (by rw [cl_len]; exact hqn)
        rw [cl_get n _ q hqn] at hcc
        have hC := cnt_le n q ls k
        have hC2 := cnt_len n q ls
        rw [HLN.out] at hC2
        obtain ⟨hx1, hx2⟩ := hx
        generalize ls.getD k 0 = x at *
        generalize cnt n q (ls.take k) = C at *
        have hC3 : (C : Int) ≤ 1000000 := by omega
        have hcw : wr.cell? ⟨b, off + k, none⟩ = some (.int .u8 x) := (hF.cell (p := ⟨b, off + k, none⟩) hbb (fun x => x)).trans hcell
        have hfz := hblk.frozen
        have HB := Lib.hid hblk
        clear hcell hblk hC hC2 hq1 hq2
        go_wp2
        go_roundw
        case rel =>
          refine ⟨k + 1, by go_num, by omega, ?_, hF.setCell (.inl (by rw [HGR.out]; exact Nat.le_refl _)) _⟩
          rw [← hst.out]
          exact HB.out.num_set q _
        case measure => simp [intOf]; omega
      · have hkN : k = 200 := by omega
        rw [hkN, List.take_of_length_le (by rw [HLN.out]; exact Nat.le_refl _)] at hblk
        clear hkN
        have hrd : Reads wr wr.heap.size 1 (some ⟨gr, 0, none⟩) n (cells .i64 (cl n ls)) := by
          have := hblk.reads (n := n) (by simp [cells, cl_len])
          rwa [List.take_of_length_le (by simp [cells, cl_len])] at this
        have hbN : beyondB 200 = false := by unfold beyondB; first | (simp; done) | (simp; omega)
        have hany := cl_any n ls (by have := HLN.out; omega)
        have HCL := Lib.hid (cl_len n ls)
        have HN1 := Lib.hid hbN
        have HA1 := Lib.hid hany
        have HRD := Lib.hid hrd
        clear hrd hbN hany
        go_wp2_with fail
        refine (new_good' 200 _ n _ _ (cl n ls) _ HCL.out HRD.out (Nat.le_refl _) HN1.out hn64 HA1.out).mono ?_
        rintro e w2 ⟨rfl, hca, hba⟩
        have f2 : Fr No wr w2 := Fr.of_below hba
        have hsa : OrdS w2 wr.heap.size n 200 ls [] (.fresh 200 (cl n ls)) := OrdS.new (N := 200) hca
        have hga : w.heap.size ≤ wr.heap.size := hF.size
        have hlt1 := hca.blk.lt
        replace hblk := hblk.fr f2 (fun x => x)
        have hrd2 : Reads w2 w2.heap.size 1 (some ⟨gr, 0, none⟩) n (cells .i64 (cl n ls)) := by
          have := hblk.reads (n := n) (by simp [cells, cl_len])
          rwa [List.take_of_length_le (by simp [cells, cl_len])] at this
        replace HRD := Lib.hid hrd2
        replace hF := hF.then0 f2
        clear hca hba f2 hrd2
        generalize wr.heap.size = ga at *
        go_wp2_with fail
        refine (new_good' 200 _ n _ _ (cl n ls) _ HCL.out HRD.out (Nat.le_refl _) HN1.out hn64 HA1.out).mono ?_
        rintro e w3 ⟨rfl, hcb, hbb⟩
        have f3 : Fr No w2 w3 := Fr.of_below hbb
        have hsb : OrdS w3 w2.heap.size n 200 ls [] (.fresh 200 (cl n ls)) := OrdS.new (N := 200) hcb
        have hgb : w.heap.size ≤ w2.heap.size := hF.size
        have hab : w2.heap.size ≠ ga := by omega
        have hgra : gr ≠ ga := hblk.ne_ hsa.cap.blk (by decide)
        replace hblk := hblk.fr f3 (fun x => x)
        replace hsa := hsa.fr f3 (fun x => x)
        have hgrb : gr ≠ w2.heap.size := hblk.ne_ hsb.cap.blk (by decide)
        replace hF := hF.then0 f3
        clear hcb hbb f3 hlt1
        generalize w2.heap.size = gb at *
        go_wp2
        go_loopw [75] (fun i wr => ∃ (k : Nat) (sa sb : CS), i = .int .i64 k ∧ k ≤ 200 ∧ OrdS wr ga n 200 ls (ls.take k) sa ∧ OrdS wr gb n 200 ls (ls.reverse.take k) sb ∧ Blk wr gr 3 (cells .i64 (cl n ls)).toArray ∧ Fr No w wr) (fun i _ => 200 - (intOf i).toNat)
        case atStart => exact ⟨0, _, _, rfl, Nat.zero_le _, hsa, hsb, hblk, hF⟩
        case round =>
          clear hsa hsb hblk hF
          obtain ⟨k, sa, sb, rfl, hk, hsa, hsb, hblk, hF⟩ := hrel
          by_cases hlt : k < 200
          · obtain ⟨b, off, rfl, hbb, hcell⟩ := HRL.out.int_at hlt
            obtain ⟨b', off', hB', _, hcell2⟩ := HRL.out.int_at (show 200 - 1 - k < 200 by omega)
            cases hB'
            have hx := HBS2.out (ls.getD k 0) (by have := HLN.out; simp [show k < ls.length by omega])
            have hy := HBS2.out (ls.getD (200 - 1 - k) 0) (by have := HLN.out; simp [show 200 - 1 - k < ls.length by omega])
            have hq1 : 0 ≤ (ls.getD k 0) % (n : Int) := Int.emod_nonneg _ (by omega)
            have hq2 : (ls.getD k 0) % (n : Int) < n := Int.emod_lt_of_pos _ (by omega)
            have hp1 : 0 ≤ (ls.getD (200 - 1 - k) 0) % (n : Int) := Int.emod_nonneg _ (by omega)
            have hp2 : (ls.getD (200 - 1 - k) 0) % (n : Int) < n := Int.emod_lt_of_pos _ (by omega)
            have hxt := Lib.hid (take_snoc ls k (by rw [HLN.out]; exact hlt))
            have hyr : ls.reverse.getD k 0 = ls.getD (200 - 1 - k) 0 := by rw [rev_getD _ _ (by rw [HLN.out]; exact hlt), HLN.out]
            have hyt : Hid (ls.reverse.take (k + 1) = ls.reverse.take k ++ [ls.getD (200 - 1 - k) 0]) := by
              rw [← hyr]; exact take_snoc ls.reverse k (by rw [List.length_reverse, HLN.out]; exact hlt)
            have hyy : Hid (ls.reverse.getD k 0 = ls.getD (200 - 1 - k) 0) := hyr
            clear hyr
            obtain ⟨q, hq⟩ := Int.eq_ofNat_of_zero_le hq1
            obtain ⟨p, hp⟩ := Int.eq_ofNat_of_zero_le hp1
            have hqn : q < n := by omega
            have hpn : p < n := by omega
            have HTA := Lib.hid (hsa.take hq hqn (cnt_lt n q ls k (by rw [HLN.out]; exact hlt) hq) (by rw [List.length_take, HLN.out]; omega))
            have HTB := Lib.hid (hsb.take hp hpn (by
              have := cnt_lt n p ls.reverse k (by rw [List.length_reverse, HLN.out]; exact hlt) (by rw [hyy.out]; exact hp)
              rwa [cnt_rev] at this) (by rw [List.length_take, List.length_reverse, HLN.out]; omega))
            obtain ⟨hx1, hx2⟩ := hx
            obtain ⟨hy1, hy2⟩ := hy
            have HQ := Lib.hid hq
            have HP := Lib.hid hp
            clear hq hp hq1 hq2 hp1 hp2 hyy
            generalize ls.getD k 0 = x at *
            generalize ls.getD (200 - 1 - k) 0 = y at *
            have hcw : wr.cell? ⟨b, off + k, none⟩ = some (.int .u8 x) := (hF.cell (p := ⟨b, off + k, none⟩) hbb (fun x => x)).trans hcell
            have hcw2 : wr.cell? ⟨b, off + (200 - 1 - k), none⟩ = some (.int .u8 y) := (hF.cell (p := ⟨b, off + (200 - 1 - k), none⟩) hbb (fun x => x)).trans hcell2
            have HC2 := Lib.hid hcw2
            clear hcell hcell2 hcw2
            go_wp2_with fail
            rw [HQ.out]
            refine (take_any _ _ _ _ hsa.cap).mono ?_
            rintro e w4 ⟨rfl, hc4, hf4⟩
            rw [HTA.out.1]
            rw [HTA.out.2.1] at hc4
            have hsa4 := HTA.out.2.2 _ hc4
            rw [← hxt.out] at hsa4
            replace hsb := hsb.fr hf4 hab
            replace hblk := hblk.fr hf4 hgra
            replace hF := hF.own hf4 hga
            have hcy : w4.cell? ⟨b, off + (200 - 1 - k), none⟩ = some (.int .u8 y) := (hf4.cell (p := ⟨b, off + (200 - 1 - k), none⟩) (World.block_lt_of_cell? _ _ HC2.out) (fun (e : b = ga) => by omega)).trans HC2.out
            have hidx : ((200 : Int) - 1 - (k : Int)).toNat = 200 - 1 - k := by omega
            have hidx2 : 0 ≤ (200 : Int) - 1 - (k : Int) := by omega
            have hidx3 : (200 : Int) - 1 - (k : Int) < 200 := by omega
            clear hf4 hc4 hsa hcw
            go_wp2_with fail
            rw [HP.out]
            refine (take_any _ _ _ _ hsb.cap).mono ?_
            rintro e w5 ⟨rfl, hc5, hf5⟩
            rw [HTB.out.1]
            rw [HTB.out.2.1] at hc5
            have hsb5 := HTB.out.2.2 _ hc5
            rw [← hyt.out] at hsb5
            replace hsa4 := hsa4.fr hf5 (fun e => hab e.symm)
            replace hblk := hblk.fr hf5 hgrb
            replace hF := hF.own hf5 hgb
            clear hf5 hc5 hsb hcy hidx
            go_wp2
            go_roundw
            case rel => exact ⟨k + 1, _, _, by go_num, by omega, hsa4, hsb5, hblk, hF⟩
            case measure => simp [intOf]; omega
          · have hkN : k = 200 := by omega
            rw [hkN, List.take_of_length_le (by rw [HLN.out]; exact Nat.le_refl _)] at hsa
            rw [hkN, List.take_of_length_le (by rw [List.length_reverse, HLN.out]; exact Nat.le_refl _)] at hsb
            clear hkN
            have hta : Hid (sa.total = 200) := by have := hsa.tot_; rw [HLN.out] at this; exact this
            have htb : Hid (sb.total = 200) := by have := hsb.tot_; rw [List.length_reverse, HLN.out] at this; exact this
            go_wp2
            go_loopw [106] (fun i wr => ∃ k : Nat, i = .int .i64 k ∧ k ≤ n ∧ OrdS wr ga n 200 ls ls sa ∧ OrdS wr gb n 200 ls ls.reverse sb ∧ Blk wr gr 3 (cells .i64 (cl n ls)).toArray ∧ Fr No w wr) (fun i _ => n - (intOf i).toNat)
            case atStart => exact ⟨0, rfl, Nat.zero_le _, hsa, hsb, hblk, hF⟩
            case round =>
              clear hsa hsb hblk hF
              obtain ⟨k, rfl, hk, hsa, hsb, hblk, hF⟩ := hrel
              by_cases hlt : k < n
              · have ha : sa.has (k : Int) = true := CS.has_of (by omega) (by rw [hsa.jobs]; omega)
                have hb : sb.has (k : Int) = true := CS.has_of (by omega) (by rw [hsb.jobs]; omega)
                have hleft : sa.left k = 0 := by
                  have := hsa.tot_
                  rw [HLN.out] at this
                  unfold CS.left; rw [hsa.most k hlt, hsa.runs k hlt, hsa.hall, this]; simp
                have FA : Hid (sa.err k = 0 ∧ sa.leftV k = 0 ∧ sa.usedV k = (cnt n k ls : Int) ∧ sa.freeV k = false) := by
                  obtain ⟨e1, e2, e3, _, e5⟩ := CS.facts ha
                  simp only [Int.toNat_natCast] at e2 e3 e5
                  exact ⟨e1, by rw [e2, hleft], by rw [e3, hsa.runs k hlt], (e5 (by rw [hleft]; omega)).1⟩
                have FB : Hid (sb.err k = 0 ∧ sb.usedV k = (cnt n k ls : Int)) := by
                  obtain ⟨e1, e2, e3, _, e5⟩ := CS.facts hb
                  simp only [Int.toNat_natCast] at e3
                  exact ⟨e1, by rw [e3, hsb.runs k hlt, cnt_rev]⟩
                have FC := Lib.hid (show (cl n ls).getD k 0 = (cnt n k ls : Int) from cl_get n ls k hlt)
                clear ha hb hleft
                generalize cnt n k ls = C at *
                go_wp2_with fail
                refine (used_any _ _ _ _ hsa.cap).mono ?_
                rintro e w4 ⟨rfl, hf⟩
                rw [FA.out.1, FA.out.2.2.1]
                replace hsa := hsa.fr hf (fun x => x)
                replace hsb := hsb.fr hf (fun x => x)
                replace hblk := hblk.fr hf (fun x => x)
                replace hF := hF.then0 hf
                clear hf
                go_wp2_with fail
                refine (used_any _ _ _ _ hsb.cap).mono ?_
                rintro e w5 ⟨rfl, hf⟩
                rw [FB.out.1, FB.out.2]
                replace hsa := hsa.fr hf (fun x => x)
                replace hsb := hsb.fr hf (fun x => x)
                replace hblk := hblk.fr hf (fun x => x)
                replace hF := hF.then0 hf
                clear hf
                go_wp2_with fail
                refine (left_any _ _ _ _ hsa.cap).mono ?_
                rintro e w6 ⟨rfl, hf⟩
                rw [FA.out.1, FA.out.2.1]
                replace hsa := hsa.fr hf (fun x => x)
                replace hsb := hsb.fr hf (fun x => x)
                replace hblk := hblk.fr hf (fun x => x)
                replace hF := hF.then0 hf
                have hcc := hblk.num (j := k) (by rw [cl_len]; exact hlt)
                rw [FC.out] at hcc
                clear hf
                go_wp2_with fail
                refine (free_any _ _ _ _ hsa.cap).mono ?_
                rintro e w7 ⟨rfl, hf⟩
                rw [FA.out.2.2.2]
                replace hsa := hsa.fr hf (fun x => x)
                replace hsb := hsb.fr hf (fun x => x)
                replace hblk := hblk.fr hf (fun x => x)
                replace hF := hF.then0 hf
                clear hf hcc
                go_wp2
                go_roundw
                case rel => exact ⟨k + 1, by go_num, by omega, hsa, hsb, hblk, hF⟩
                case measure => simp [intOf]; omega
              · go_wp2_with fail
                refine (total_any _ _ _ hsa.cap).mono ?_
                rintro e _ ⟨rfl, rfl⟩
                rw [hta.out]
                go_wp2_with fail
                refine (total_any _ _ _ hsb.cap).mono ?_
                rintro e _ ⟨rfl, rfl⟩
                rw [htb.out]
                go_wp2
                go_loopw [174] (fun i wr => ∃ (k : Nat) (sa : CS), i = .int .i64 k ∧ k ≤ 200 ∧ OrdS wr ga n 200 ls (ls.drop k) sa ∧ OrdS wr gb n 200 ls ls.reverse sb ∧ Blk wr gr 3 (cells .i64 (cl n ls)).toArray ∧ Fr No w wr) (fun i _ => 200 - (intOf i).toNat)
                case atStart => exact ⟨0, _, rfl, Nat.zero_le _, hsa, hsb, hblk, hF⟩
                case round =>
                  clear hsa hsb hblk hF hta
                  obtain ⟨k, sc, rfl, hk, hsa, hsb, hblk, hF⟩ := hrel
                  by_cases hlt : k < 200
                  · obtain ⟨b, off, rfl, hbb, hcell⟩ := HRL.out.int_at hlt
                    have hx := HBS2.out (ls.getD k 0) (by have := HLN.out; simp [show k < ls.length by omega])
                    have hq1 : 0 ≤ (ls.getD k 0) % (n : Int) := Int.emod_nonneg _ (by omega)
                    have hq2 : (ls.getD k 0) % (n : Int) < n := Int.emod_lt_of_pos _ (by omega)
                    obtain ⟨q, hq⟩ := Int.eq_ofNat_of_zero_le hq1
                    have hqn : q < n := by omega
                    rw [show ls.drop k = ls.getD k 0 :: ls.drop (k + 1) by rw [List.drop_eq_getElem_cons (by rw [HLN.out]; exact hlt)]; simp [show k < ls.length by rw [HLN.out]; exact hlt]] at hsa
                    have HTA := Lib.hid (hsa.give hq hqn)
                    obtain ⟨hx1, hx2⟩ := hx
                    have HQ := Lib.hid hq
                    clear hq hq1 hq2
                    generalize ls.getD k 0 = x at *
                    have hcw : wr.cell? ⟨b, off + k, none⟩ = some (.int .u8 x) := (hF.cell (p := ⟨b, off + k, none⟩) hbb (fun x => x)).trans hcell
                    clear hcell
                    go_wp2_with fail
                    rw [HQ.out]
                    refine (give_any _ _ _ _ hsa.cap).mono ?_
                    rintro e w4 ⟨rfl, hc4, hf4⟩
                    rw [HTA.out.1]
                    rw [HTA.out.2.1] at hc4
                    have hsa4 := HTA.out.2.2 _ hc4
                    replace hsb := hsb.fr hf4 hab
                    replace hblk := hblk.fr hf4 hgra
                    replace hF := hF.own hf4 hga
                    clear hf4 hc4 hsa hcw
                    go_wp2
                    go_roundw
                    case rel => exact ⟨k + 1, _, by go_num, by omega, hsa4, hsb, hblk, hF⟩
                    case measure => simp [intOf]; omega
                  · have hkN : k = 200 := by omega
                    rw [hkN, List.drop_of_length_le (by rw [HLN.out]; exact Nat.le_refl _)] at hsa
                    clear hkN
                    have hta : Hid (sc.total = 0) := hsa.tot_
                    go_wp2
                    go_loopw [187] (fun i wr => ∃ k : Nat, i = .int .i64 k ∧ k ≤ n ∧ OrdS wr ga n 200 ls [] sc ∧ OrdS wr gb n 200 ls ls.reverse sb ∧ Blk wr gr 3 (cells .i64 (cl n ls)).toArray ∧ Fr No w wr) (fun i _ => n - (intOf i).toNat)
                    case atStart => exact ⟨0, rfl, Nat.zero_le _, hsa, hsb, hblk, hF⟩
                    case round =>
                      clear hsa hsb hblk hF
                      obtain ⟨k, rfl, hk, hsa, hsb, hblk, hF⟩ := hrel
                      by_cases hlt : k < n
                      · have ha : sc.has (k : Int) = true := CS.has_of (by omega) (by rw [hsa.jobs]; omega)
                        have hr0 : sc.r k = 0 := hsa.runs k hlt
                        have hleft : sc.left k = (cnt n k ls : Int) := by
                          have h1 := hta.out
                          have h2 := cnt_len n k ls
                          rw [HLN.out] at h2
                          unfold CS.left; rw [hsa.most k hlt, hr0, hsa.hall, h1]; omega
                        have FA : Hid (sc.err k = 0 ∧ sc.leftV k = (cnt n k ls : Int) ∧ sc.giveE k = 5 ∧ sc.giveS k = sc) := by
                          obtain ⟨e1, e2, e3, _, e5⟩ := CS.facts ha
                          simp only [Int.toNat_natCast] at e2
                          exact ⟨e1, by rw [e2, hleft], by simp [CS.giveE, ha, hr0], by simp [CS.giveS, hr0]⟩
                        have FC := Lib.hid (show (cl n ls).getD k 0 = (cnt n k ls : Int) from cl_get n ls k hlt)
                        clear ha hr0 hleft
                        generalize cnt n k ls = C at *
                        go_wp2_with fail
                        refine (left_any _ _ _ _ hsa.cap).mono ?_
                        rintro e w4 ⟨rfl, hf⟩
                        rw [FA.out.1, FA.out.2.1]
                        replace hsa := hsa.fr hf (fun x => x)
                        replace hsb := hsb.fr hf (fun x => x)
                        replace hblk := hblk.fr hf (fun x => x)
                        replace hF := hF.then0 hf
                        clear hf
                        go_wp2_with fail
                        refine (give_any _ _ _ _ hsa.cap).mono ?_
                        rintro e w5 ⟨rfl, hc, hf⟩
                        rw [FA.out.2.2.1]
                        rw [FA.out.2.2.2] at hc
                        replace hsa : OrdS w5 ga n 200 ls [] sc := ⟨hc, hsa.jobs, hsa.hall, hsa.most, hsa.runs, hsa.tot_⟩
                        replace hsb := hsb.fr hf hab
                        replace hblk := hblk.fr hf hgra
                        replace hF := hF.own hf hga
                        have hcc := hblk.num (j := k) (by rw [cl_len]; exact hlt)
                        rw [FC.out] at hcc
                        clear hf hc
                        go_wp2
                        go_roundw
                        case rel => exact ⟨k + 1, by go_num, by omega, hsa, hsb, hblk, hF⟩
                        case measure => simp [intOf]; omega
                      · go_wp2_with fail
                        refine (total_any _ _ _ hsa.cap).mono ?_
                        rintro e _ ⟨rfl, rfl⟩
                        rw [hta.out]
                        go_wp2_with fail
                        refine (total_any _ _ _ hsb.cap).mono ?_
                        rintro e _ ⟨rfl, rfl⟩
                        rw [htb.out]
                        go_wp2_with fail
                        refine (works_any _).mono ?_
                        rintro e w8 ⟨rfl, hf8⟩
                        go_wp2
                        go_ret
                        exact ⟨rfl, (hF.then0 hf8).below⟩
  · obtain ⟨ls, hls⟩ : ∃ ls, ls = bs := ⟨_, rfl⟩
    have hrl : Reads w w.heap.size 1 B n2 (ls.map (Value.int .u8)) := by rw [hls]; exact h2
    have hln : ls.length = n2 := by rw [hls]; exact hl2
    have HBS : ∀ x ∈ ls, 0 ≤ x ∧ x ≤ 255 := fun x hx => hb x (by rw [hls] at hx; exact hx)
    clear h2 hb hl2 hls
    have hbs : ∀ x ∈ ls, 0 ≤ x ∧ x ≤ 255 := HBS
    have HBS2 := Lib.hid hbs
    have HRL := Lib.hid hrl
    have HLN := Lib.hid hln
    clear hbs hrl hln
    go_enter Try.func6, Try.ntmps6
    go_wp2_with (at_make; go_must (refine wpList_make_full _ rfl _ _ 24 rfl w.heap.size 3 i0 (.int .i64 0) 1 Try.underlying24 hi hz0 hz1 .i64 .i64 _ _ n rfl rfl NEQ.out NEQ.out (by rw [hz2]; omega) (by unfold maxLen; omega) (Nat.le_refl _) ?_); intro w1 hown1 hg1)
    rw [madeCells_int, ← cl_nil n] at hown1
    have hblk : Blk w1 w.heap.size 3 (cells .i64 (cl n (ls.take 0))).toArray := Blk.of_full hown1
    have hF1 : Fr No w w1 := Fr.of_grown hg1 (fun k hk => by cases hk)
    obtain ⟨gr, hgr⟩ : ∃ gr, gr = w.heap.size := ⟨_, rfl⟩
    rw [← hgr] at hblk
    have HGR := Lib.hid hgr
    clear hown1 hg1
    simp only [← hgr]
    clear hgr

    rw [NEQ.out]
    have hcm : ((n : Int)) ≤ 64 := by omega
    go_wp2
    go_loopw [39] (fun i wr => ∃ k : Nat, i = .int .i64 k ∧ k ≤ n2 ∧ Blk wr gr 3 (cells .i64 (cl n (ls.take k))).toArray ∧ Fr No w wr) (fun i _ => n2 - (intOf i).toNat)
    case atStart => exact ⟨0, rfl, Nat.zero_le _, hblk, hF1⟩
    case round =>
      clear hblk hF1
      obtain ⟨k, rfl, hk, hblk, hF⟩ := hrel
      by_cases hlt : k < n2
      · obtain ⟨b, off, rfl, hbb, hcell⟩ := HRL.out.int_at hlt
        have hx := HBS2.out (ls.getD k 0) (by have := HLN.out; simp [show k < ls.length by omega])
        have hq1 : 0 ≤ (ls.getD k 0) % (n : Int) := Int.emod_nonneg _ (by omega)
        have hq2 : (ls.getD k 0) % (n : Int) < n := Int.emod_lt_of_pos _ (by omega)
        obtain ⟨q, hq⟩ := Int.eq_ofNat_of_zero_le hq1
        have hqn : q < n := by omega
        have hst := Lib.hid (cl_step n ls k q (by rw [HLN.out]; exact hlt) hq)
        have hcc := hblk.num (j := q) (by rw [cl_len]; exact hqn)
        rw [cl_get n _ q hqn] at hcc
        have hC := cnt_le n q ls k
        have hC2 := cnt_len n q ls
        rw [HLN.out] at hC2
        obtain ⟨hx1, hx2⟩ := hx
        generalize ls.getD k 0 = x at *
        generalize cnt n q (ls.take k) = C at *
        have hC3 : (C : Int) ≤ 1000000 := by omega
        have hcw : wr.cell? ⟨b, off + k, none⟩ = some (.int .u8 x) := (hF.cell (p := ⟨b, off + k, none⟩) hbb (fun x => x)).trans hcell
        have hfz := hblk.frozen
        have HB := Lib.hid hblk
        clear hcell hblk hC hC2 hq1 hq2
        go_wp2
        go_roundw
        case rel =>
          refine ⟨k + 1, by go_num, by omega, ?_, hF.setCell (.inl (by rw [HGR.out]; exact Nat.le_refl _)) _⟩
          rw [← hst.out]
          exact HB.out.num_set q _
        case measure => simp [intOf]; omega
      · have hkN : k = n2 := by omega
        rw [hkN, List.take_of_length_le (by rw [HLN.out]; exact Nat.le_refl _)] at hblk
        clear hkN
        have hrd : Reads wr wr.heap.size 1 (some ⟨gr, 0, none⟩) n (cells .i64 (cl n ls)) := by
          have := hblk.reads (n := n) (by simp [cells, cl_len])
          rwa [List.take_of_length_le (by simp [cells, cl_len])] at this
        have hbN : beyondB n2 = false := by unfold beyondB; first | (simp; done) | (simp; omega)
        have hany := cl_any n ls (by have := HLN.out; omega)
        have HCL := Lib.hid (cl_len n ls)
        have HN1 := Lib.hid hbN
        have HA1 := Lib.hid hany
        have HRD := Lib.hid hrd
        clear hrd hbN hany
        go_wp2_with fail
        refine (new_good' n2 _ n _ _ (cl n ls) _ HCL.out HRD.out (Nat.le_refl _) HN1.out hn64 HA1.out).mono ?_
        rintro e w2 ⟨rfl, hca, hba⟩
        have f2 : Fr No wr w2 := Fr.of_below hba
        have hsa : OrdS w2 wr.heap.size n n2 ls [] (.fresh n2 (cl n ls)) := OrdS.new (N := n2) hca
        have hga : w.heap.size ≤ wr.heap.size := hF.size
        have hlt1 := hca.blk.lt
        replace hblk := hblk.fr f2 (fun x => x)
        have hrd2 : Reads w2 w2.heap.size 1 (some ⟨gr, 0, none⟩) n (cells .i64 (cl n ls)) := by
          have := hblk.reads (n := n) (by simp [cells, cl_len])
          rwa [List.take_of_length_le (by simp [cells, cl_len])] at this
        replace HRD := Lib.hid hrd2
        replace hF := hF.then0 f2
        clear hca hba f2 hrd2
        generalize wr.heap.size = ga at *
        go_wp2_with fail
        refine (new_good' n2 _ n _ _ (cl n ls) _ HCL.out HRD.out (Nat.le_refl _) HN1.out hn64 HA1.out).mono ?_
        rintro e w3 ⟨rfl, hcb, hbb⟩
        have f3 : Fr No w2 w3 := Fr.of_below hbb
        have hsb : OrdS w3 w2.heap.size n n2 ls [] (.fresh n2 (cl n ls)) := OrdS.new (N := n2) hcb
        have hgb : w.heap.size ≤ w2.heap.size := hF.size
        have hab : w2.heap.size ≠ ga := by omega
        have hgra : gr ≠ ga := hblk.ne_ hsa.cap.blk (by decide)
        replace hblk := hblk.fr f3 (fun x => x)
        replace hsa := hsa.fr f3 (fun x => x)
        have hgrb : gr ≠ w2.heap.size := hblk.ne_ hsb.cap.blk (by decide)
        replace hF := hF.then0 f3
        clear hcb hbb f3 hlt1
        generalize w2.heap.size = gb at *
        go_wp2
        go_loopw [75] (fun i wr => ∃ (k : Nat) (sa sb : CS), i = .int .i64 k ∧ k ≤ n2 ∧ OrdS wr ga n n2 ls (ls.take k) sa ∧ OrdS wr gb n n2 ls (ls.reverse.take k) sb ∧ Blk wr gr 3 (cells .i64 (cl n ls)).toArray ∧ Fr No w wr) (fun i _ => n2 - (intOf i).toNat)
        case atStart => exact ⟨0, _, _, rfl, Nat.zero_le _, hsa, hsb, hblk, hF⟩
        case round =>
          clear hsa hsb hblk hF
          obtain ⟨k, sa, sb, rfl, hk, hsa, hsb, hblk, hF⟩ := hrel
          by_cases hlt : k < n2
          · obtain ⟨b, off, rfl, hbb, hcell⟩ := HRL.out.int_at hlt
            obtain ⟨b', off', hB', _, hcell2⟩ := HRL.out.int_at (show n2 - 1 - k < n2 by omega)
            cases hB'
            have hx := HBS2.out (ls.getD k 0) (by have := HLN.out; simp [show k < ls.length by omega])
            have hy := HBS2.out (ls.getD (n2 - 1 - k) 0) (by have := HLN.out; simp [show n2 - 1 - k < ls.length by omega])
            have hq1 : 0 ≤ (ls.getD k 0) % (n : Int) := Int.emod_nonneg _ (by omega)
            have hq2 : (ls.getD k 0) % (n : Int) < n := Int.emod_lt_of_pos _ (by omega)
            have hp1 : 0 ≤ (ls.getD (n2 - 1 - k) 0) % (n : Int) := Int.emod_nonneg _ (by omega)
            have hp2 : (ls.getD (n2 - 1 - k) 0) % (n : Int) < n := Int.emod_lt_of_pos _ (by omega)
            have hxt := Lib.hid (take_snoc ls k (by rw [HLN.out]; exact hlt))
            have hyr : ls.reverse.getD k 0 = ls.getD (n2 - 1 - k) 0 := by rw [rev_getD _ _ (by rw [HLN.out]; exact hlt), HLN.out]
            have hyt : Hid (ls.reverse.take (k + 1) = ls.reverse.take k ++ [ls.getD (n2 - 1 - k) 0]) := by
              rw [← hyr]; exact take_snoc ls.reverse k (by rw [List.length_reverse, HLN.out]; exact hlt)
            have hyy : Hid (ls.reverse.getD k 0 = ls.getD (n2 - 1 - k) 0) := hyr
            clear hyr
            obtain ⟨q, hq⟩ := Int.eq_ofNat_of_zero_le hq1
            obtain ⟨p, hp⟩ := Int.eq_ofNat_of_zero_le hp1
            have hqn : q < n := by omega
            have hpn : p < n := by omega
            have HTA := Lib.hid (hsa.take hq hqn (cnt_lt n q ls k (by rw [HLN.out]; exact hlt) hq) (by rw [List.length_take, HLN.out]; omega))
            have HTB := Lib.hid (hsb.take hp hpn (by
              have := cnt_lt n p ls.reverse k (by rw [List.length_reverse, HLN.out]; exact hlt) (by rw [hyy.out]; exact hp)
              rwa [cnt_rev] at this) (by rw [List.length_take, List.length_reverse, HLN.out]; omega))
            obtain ⟨hx1, hx2⟩ := hx
            obtain ⟨hy1, hy2⟩ := hy
            have HQ := Lib.hid hq
            have HP := Lib.hid hp
            clear hq hp hq1 hq2 hp1 hp2 hyy
            generalize ls.getD k 0 = x at *
            generalize ls.getD (n2 - 1 - k) 0 = y at *
            have hcw : wr.cell? ⟨b, off + k, none⟩ = some (.int .u8 x) := (hF.cell (p := ⟨b, off + k, none⟩) hbb (fun x => x)).trans hcell
            have hcw2 : wr.cell? ⟨b, off + (n2 - 1 - k), none⟩ = some (.int .u8 y) := (hF.cell (p := ⟨b, off + (n2 - 1 - k), none⟩) hbb (fun x => x)).trans hcell2
            have HC2 := Lib.hid hcw2
            clear hcell hcell2 hcw2
            go_wp2_with fail
            rw [HQ.out]
            refine (take_any _ _ _ _ hsa.cap).mono ?_
            rintro e w4 ⟨rfl, hc4, hf4⟩
            rw [HTA.out.1]
            rw [HTA.out.2.1] at hc4
            have hsa4 := HTA.out.2.2 _ hc4
            rw [← hxt.out] at hsa4
            replace hsb := hsb.fr hf4 hab
            replace hblk := hblk.fr hf4 hgra
            replace hF := hF.own hf4 hga
            have hcy : w4.cell? ⟨b, off + (n2 - 1 - k), none⟩ = some (.int .u8 y) := (hf4.cell (p := ⟨b, off + (n2 - 1 - k), none⟩) (World.block_lt_of_cell? _ _ HC2.out) (fun (e : b = ga) => by omega)).trans HC2.out
            have hidx : ((n2 : Int) - 1 - (k : Int)).toNat = n2 - 1 - k := by omega
            have hidx2 : 0 ≤ (n2 : Int) - 1 - (k : Int) := by omega
            have hidx3 : (n2 : Int) - 1 - (k : Int) < n2 := by omega
            clear hf4 hc4 hsa hcw
            go_wp2_with fail
            rw [HP.out]
            refine (take_any _ _ _ _ hsb.cap).mono ?_
            rintro e w5 ⟨rfl, hc5, hf5⟩
            rw [HTB.out.1]
            rw [HTB.out.2.1] at hc5
            have hsb5 := HTB.out.2.2 _ hc5
            rw [← hyt.out] at hsb5
            replace hsa4 := hsa4.fr hf5 (fun e => hab e.symm)
            replace hblk := hblk.fr hf5 hgrb
            replace hF := hF.own hf5 hgb
            clear hf5 hc5 hsb hcy hidx
            go_wp2
            go_roundw
            case rel => exact ⟨k + 1, _, _, by go_num, by omega, hsa4, hsb5, hblk, hF⟩
            case measure => simp [intOf]; omega
          · have hkN : k = n2 := by omega
            rw [hkN, List.take_of_length_le (by rw [HLN.out]; exact Nat.le_refl _)] at hsa
            rw [hkN, List.take_of_length_le (by rw [List.length_reverse, HLN.out]; exact Nat.le_refl _)] at hsb
            clear hkN
            have hta : Hid (sa.total = n2) := by have := hsa.tot_; rw [HLN.out] at this; exact this
            have htb : Hid (sb.total = n2) := by have := hsb.tot_; rw [List.length_reverse, HLN.out] at this; exact this
            go_wp2
            go_loopw [106] (fun i wr => ∃ k : Nat, i = .int .i64 k ∧ k ≤ n ∧ OrdS wr ga n n2 ls ls sa ∧ OrdS wr gb n n2 ls ls.reverse sb ∧ Blk wr gr 3 (cells .i64 (cl n ls)).toArray ∧ Fr No w wr) (fun i _ => n - (intOf i).toNat)
            case atStart => exact ⟨0, rfl, Nat.zero_le _, hsa, hsb, hblk, hF⟩
            case round =>
              clear hsa hsb hblk hF
              obtain ⟨k, rfl, hk, hsa, hsb, hblk, hF⟩ := hrel
              by_cases hlt : k < n
              · have ha : sa.has (k : Int) = true := CS.has_of (by omega) (by rw [hsa.jobs]; omega)
                have hb : sb.has (k : Int) = true := CS.has_of (by omega) (by rw [hsb.jobs]; omega)
                have hleft : sa.left k = 0 := by
                  have := hsa.tot_
                  rw [HLN.out] at this
                  unfold CS.left; rw [hsa.most k hlt, hsa.runs k hlt, hsa.hall, this]; simp
                have FA : Hid (sa.err k = 0 ∧ sa.leftV k = 0 ∧ sa.usedV k = (cnt n k ls : Int) ∧ sa.freeV k = false) := by
                  obtain ⟨e1, e2, e3, _, e5⟩ := CS.facts ha
                  simp only [Int.toNat_natCast] at e2 e3 e5
                  exact ⟨e1, by rw [e2, hleft], by rw [e3, hsa.runs k hlt], (e5 (by rw [hleft]; omega)).1⟩
                have FB : Hid (sb.err k = 0 ∧ sb.usedV k = (cnt n k ls : Int)) := by
                  obtain ⟨e1, e2, e3, _, e5⟩ := CS.facts hb
                  simp only [Int.toNat_natCast] at e3
                  exact ⟨e1, by rw [e3, hsb.runs k hlt, cnt_rev]⟩
                have FC := Lib.hid (show (cl n ls).getD k 0 = (cnt n k ls : Int) from cl_get n ls k hlt)
                clear ha hb hleft
                generalize cnt n k ls = C at *
                go_wp2_with fail
                refine (used_any _ _ _ _ hsa.cap).mono ?_
                rintro e w4 ⟨rfl, hf⟩
                rw [FA.out.1, FA.out.2.2.1]
                replace hsa := hsa.fr hf (fun x => x)
                replace hsb := hsb.fr hf (fun x => x)
                replace hblk := hblk.fr hf (fun x => x)
                replace hF := hF.then0 hf
                clear hf
                go_wp2_with fail
                refine (used_any _ _ _ _ hsb.cap).mono ?_
                rintro e w5 ⟨rfl, hf⟩
                rw [FB.out.1, FB.out.2]
                replace hsa := hsa.fr hf (fun x => x)
                replace hsb := hsb.fr hf (fun x => x)
                replace hblk := hblk.fr hf (fun x => x)
                replace hF := hF.then0 hf
                clear hf
                go_wp2_with fail
                refine (left_any _ _ _ _ hsa.cap).mono ?_
                rintro e w6 ⟨rfl, hf⟩
                rw [FA.out.1, FA.out.2.1]
                replace hsa := hsa.fr hf (fun x => x)
                replace hsb := hsb.fr hf (fun x => x)
                replace hblk := hblk.fr hf (fun x => x)
                replace hF := hF.then0 hf
                have hcc := hblk.num (j := k) (by rw [cl_len]; exact hlt)
                rw [FC.out] at hcc
                clear hf
                go_wp2_with fail
                refine (free_any _ _ _ _ hsa.cap).mono ?_
                rintro e w7 ⟨rfl, hf⟩
                rw [FA.out.2.2.2]
                replace hsa := hsa.fr hf (fun x => x)
                replace hsb := hsb.fr hf (fun x => x)
                replace hblk := hblk.fr hf (fun x => x)
                replace hF := hF.then0 hf
                clear hf hcc
                go_wp2
                go_roundw
                case rel => exact ⟨k + 1, by go_num, by omega, hsa, hsb, hblk, hF⟩
                case measure => simp [intOf]; omega
              · go_wp2_with fail
                refine (total_any _ _ _ hsa.cap).mono ?_
                rintro e _ ⟨rfl, rfl⟩
                rw [hta.out]
                go_wp2_with fail
                refine (total_any _ _ _ hsb.cap).mono ?_
                rintro e _ ⟨rfl, rfl⟩
                rw [htb.out]
                go_wp2
                go_loopw [174] (fun i wr => ∃ (k : Nat) (sa : CS), i = .int .i64 k ∧ k ≤ n2 ∧ OrdS wr ga n n2 ls (ls.drop k) sa ∧ OrdS wr gb n n2 ls ls.reverse sb ∧ Blk wr gr 3 (cells .i64 (cl n ls)).toArray ∧ Fr No w wr) (fun i _ => n2 - (intOf i).toNat)
                case atStart => exact ⟨0, _, rfl, Nat.zero_le _, hsa, hsb, hblk, hF⟩
                case round =>
                  clear hsa hsb hblk hF hta
                  obtain ⟨k, sc, rfl, hk, hsa, hsb, hblk, hF⟩ := hrel
                  by_cases hlt : k < n2
                  · obtain ⟨b, off, rfl, hbb, hcell⟩ := HRL.out.int_at hlt
                    have hx := HBS2.out (ls.getD k 0) (by have := HLN.out; simp [show k < ls.length by omega])
                    have hq1 : 0 ≤ (ls.getD k 0) % (n : Int) := Int.emod_nonneg _ (by omega)
                    have hq2 : (ls.getD k 0) % (n : Int) < n := Int.emod_lt_of_pos _ (by omega)
                    obtain ⟨q, hq⟩ := Int.eq_ofNat_of_zero_le hq1
                    have hqn : q < n := by omega
                    rw [show ls.drop k = ls.getD k 0 :: ls.drop (k + 1) by rw [List.drop_eq_getElem_cons (by rw [HLN.out]; exact hlt)]; simp [show k < ls.length by rw [HLN.out]; exact hlt]] at hsa
                    have HTA := Lib.hid (hsa.give hq hqn)
                    obtain ⟨hx1, hx2⟩ := hx
                    have HQ := Lib.hid hq
                    clear hq hq1 hq2
                    generalize ls.getD k 0 = x at *
                    have hcw : wr.cell? ⟨b, off + k, none⟩ = some (.int .u8 x) := (hF.cell (p := ⟨b, off + k, none⟩) hbb (fun x => x)).trans hcell
                    clear hcell
                    go_wp2_with fail
                    rw [HQ.out]
                    refine (give_any _ _ _ _ hsa.cap).mono ?_
                    rintro e w4 ⟨rfl, hc4, hf4⟩
                    rw [HTA.out.1]
                    rw [HTA.out.2.1] at hc4
                    have hsa4 := HTA.out.2.2 _ hc4
                    replace hsb := hsb.fr hf4 hab
                    replace hblk := hblk.fr hf4 hgra
                    replace hF := hF.own hf4 hga
                    clear hf4 hc4 hsa hcw
                    go_wp2
                    go_roundw
                    case rel => exact ⟨k + 1, _, by go_num, by omega, hsa4, hsb, hblk, hF⟩
                    case measure => simp [intOf]; omega
                  · have hkN : k = n2 := by omega
                    rw [hkN, List.drop_of_length_le (by rw [HLN.out]; exact Nat.le_refl _)] at hsa
                    clear hkN
                    have hta : Hid (sc.total = 0) := hsa.tot_
                    go_wp2
                    go_loopw [187] (fun i wr => ∃ k : Nat, i = .int .i64 k ∧ k ≤ n ∧ OrdS wr ga n n2 ls [] sc ∧ OrdS wr gb n n2 ls ls.reverse sb ∧ Blk wr gr 3 (cells .i64 (cl n ls)).toArray ∧ Fr No w wr) (fun i _ => n - (intOf i).toNat)
                    case atStart => exact ⟨0, rfl, Nat.zero_le _, hsa, hsb, hblk, hF⟩
                    case round =>
                      clear hsa hsb hblk hF
                      obtain ⟨k, rfl, hk, hsa, hsb, hblk, hF⟩ := hrel
                      by_cases hlt : k < n
                      · have ha : sc.has (k : Int) = true := CS.has_of (by omega) (by rw [hsa.jobs]; omega)
                        have hr0 : sc.r k = 0 := hsa.runs k hlt
                        have hleft : sc.left k = (cnt n k ls : Int) := by
                          have h1 := hta.out
                          have h2 := cnt_len n k ls
                          rw [HLN.out] at h2
                          unfold CS.left; rw [hsa.most k hlt, hr0, hsa.hall, h1]; omega
                        have FA : Hid (sc.err k = 0 ∧ sc.leftV k = (cnt n k ls : Int) ∧ sc.giveE k = 5 ∧ sc.giveS k = sc) := by
                          obtain ⟨e1, e2, e3, _, e5⟩ := CS.facts ha
                          simp only [Int.toNat_natCast] at e2
                          exact ⟨e1, by rw [e2, hleft], by simp [CS.giveE, ha, hr0], by simp [CS.giveS, hr0]⟩
                        have FC := Lib.hid (show (cl n ls).getD k 0 = (cnt n k ls : Int) from cl_get n ls k hlt)
                        clear ha hr0 hleft
                        generalize cnt n k ls = C at *
                        go_wp2_with fail
                        refine (left_any _ _ _ _ hsa.cap).mono ?_
                        rintro e w4 ⟨rfl, hf⟩
                        rw [FA.out.1, FA.out.2.1]
                        replace hsa := hsa.fr hf (fun x => x)
                        replace hsb := hsb.fr hf (fun x => x)
                        replace hblk := hblk.fr hf (fun x => x)
                        replace hF := hF.then0 hf
                        clear hf
                        go_wp2_with fail
                        refine (give_any _ _ _ _ hsa.cap).mono ?_
                        rintro e w5 ⟨rfl, hc, hf⟩
                        rw [FA.out.2.2.1]
                        rw [FA.out.2.2.2] at hc
                        replace hsa : OrdS w5 ga n n2 ls [] sc := ⟨hc, hsa.jobs, hsa.hall, hsa.most, hsa.runs, hsa.tot_⟩
                        replace hsb := hsb.fr hf hab
                        replace hblk := hblk.fr hf hgra
                        replace hF := hF.own hf hga
                        have hcc := hblk.num (j := k) (by rw [cl_len]; exact hlt)
                        rw [FC.out] at hcc
                        clear hf hc
                        go_wp2
                        go_roundw
                        case rel => exact ⟨k + 1, by go_num, by omega, hsa, hsb, hblk, hF⟩
                        case measure => simp [intOf]; omega
                      · go_wp2_with fail
                        refine (total_any _ _ _ hsa.cap).mono ?_
                        rintro e _ ⟨rfl, rfl⟩
                        rw [hta.out]
                        go_wp2_with fail
                        refine (total_any _ _ _ hsb.cap).mono ?_
                        rintro e _ ⟨rfl, rfl⟩
                        rw [htb.out]
                        go_wp2_with fail
                        refine (works_any _).mono ?_
                        rintro e w8 ⟨rfl, hf8⟩
                        go_wp2
                        go_ret
                        exact ⟨rfl, (hF.then0 hf8).below⟩
end Go.Proofs.Ytjgjbjigghfnbaa
