/- The walk of CapsNews. -/
import Derived.Test.YtjgjbjigghfnbaaPlayI
import Derived.Test.YtjgjbjigghfnbaaNone
import Derived.Test.YtjgjbjigghfnbaaSlc
namespace Go.Proofs.Ytjgjbjigghfnbaa
open Go.RowKit Go.Wk

/-- Caps and the document's caps, both in state s. -/
structure NewsI (w0 w : World) (c b e r : Nat) (s : CS) : Prop where
  cap : CapsAt w c s
  ref : RefAt w b e r s
  fr : Fr No w0 w
theorem NewsI.keep {w0 w w' : World} {c b e r : Nat} {s : CS} (h : NewsI w0 w c b e r s) (hf : Fr No w w') : NewsI w0 w' c b e r s :=
  ⟨h.cap.fr hf (fun x => x), h.ref.fr hf (fun x => x) (fun x => x) (fun x => x), h.fr.then0 hf⟩

/-- The two that no New has made. -/
structure NoneI (w0 w : World) (L z : Nat) : Prop where
  row : Blk w L 23 #[.pointer none, .pointer (some ⟨z, 0, none⟩)]
  zero : Blk w z 57 ZC
  fr : Fr No w0 w
theorem NoneI.keep {w0 w w' : World} {L z : Nat} (h : NoneI w0 w L z) (hf : Fr No w w') : NoneI w0 w' L z := ⟨h.row.fr hf (fun x => x), h.zero.fr hf (fun x => x), h.fr.then0 hf⟩
theorem NoneI.at_ {w0 w : World} {L z k : Nat} (h : NoneI w0 w L z) (hk : k < 2) : ∃ p, w.cell? ⟨L, k, none⟩ = some p ∧ NoneP w p := by
  match k, hk with
  | 0, _ => exact ⟨_, h.row.cell 0, .inl rfl⟩
  | 1, _ => exact ⟨_, h.row.cell 1, .inr ⟨z, rfl, h.zero⟩⟩

set_option maxRecDepth 100000 in
set_option maxHeartbeats 4000000 in
theorem capsNews_walk (all : Int) (A : Option Addr) (n c0 : Nat) (xs : List Int) (job : Int) (w : World)
    (h1 : Reads w w.heap.size 1 A n (xs.map (Value.int .i64))) (hn : n ≤ 9223372036854775807) :
    Calls Try.prog 9 #[.int .i64 all, .slice A n c0, .int .i64 job] w fun e w' => e = .returned (.bool true) ∧ Fr No w w' := by
  have HR := Lib.hid h1
  have HL := Lib.hid h1.length_ints
  have z0 := zero57
  have z1 := ZC_size
  have z2 := ZC_ne
  clear h1
  by_cases b1 : 100 < n
  · go_enter Try.func9, Try.ntmps9
    go_wp2_with fail
    refine (works_any _).mono ?_
    rintro x w1 ⟨rfl, hf⟩
    go_wp2
    go_ret
    exact ⟨rfl, hf⟩
  by_cases hbad : beyondB all = true ∨ 64 < n ∨ xs.any beyondB = true
  · have HBAD := Lib.hid hbad
    clear hbad
    go_enter Try.func9, Try.ntmps9
    go_wp2_with fail
    refine (clone_any A n c0 xs w HR.out (by omega)).mono ?_
    rintro x w1 ⟨A2, q2, rfl, hown, F1⟩
    have HRA := Lib.hid (Reads.of_own hown)
    have HOW := Lib.hid hown
    clear hown
    go_wp2_with fail
    refine (new_bad all A2 n q2 _ xs _ hn HRA.out HBAD.out).mono ?_
    rintro x w2 ⟨rfl, rfl⟩
    have HRB := Lib.hid (HR.out.fr F1 (Nat.le_refl _) (fun _ _ x => x))
    go_wp2_with fail
    refine (rnew_bad all A n c0 _ xs _ hn HRB.out HBAD.out).mono ?_
    rintro x w2 ⟨rfl, rfl⟩
    go_wp2_with fail
    refine (equal_any A2 A n q2 c0 _ _ xs _ hn HRA.out HRB.out).mono ?_
    rintro x w4 ⟨rfl, F4⟩
    have hown4 := own_fr HOW.out F4 (fun _ _ x => x)
    obtain ⟨w5, hcl, F5⟩ := clear_own hown4
    have F := (F1.then0 F4).ownS F5 (fun k hk => (hown4.lt k hk).1)
    clear F1 F4 F5 hown4 HRA HRB HOW
    go_wp2_with fail
    clear hcl
    go_loopw [57] (fun i wr => ∃ k : Nat, i = .int .i64 k ∧ k ≤ n ∧ wr = w5) (fun i _ => n - (intOf i).toNat)
    case atStart => exact ⟨0, rfl, Nat.zero_le _, by first | rfl | trivial⟩
    case round =>
      obtain ⟨k, rfl, hk, rfl⟩ := hrel
      by_cases hlt : k < n
      · go_wp2
        go_roundw
        case rel => exact ⟨k + 1, by go_num, by omega, by first | rfl | trivial⟩
        case measure => simp [intOf]; omega
      · go_wp2_with fail
        have NI : NoneI w ((wr.alloc (.cells ZC 57)).alloc (.cells #[.pointer none, .pointer (some ⟨wr.heap.size, 0, none⟩)] 23)) (wr.heap.size + 1) wr.heap.size :=
          ⟨by have := Blk.new (wr.alloc (.cells ZC 57)) 23 #[.pointer none, .pointer (some ⟨wr.heap.size, 0, none⟩)]; rw [World.size_alloc] at this; exact this, (Blk.new wr 57 ZC).alloc _, ((F).alloc _).alloc _⟩
        go_loopw [84] (fun i w' => ∃ k : Nat, i = .int .i64 k ∧ k ≤ 2 ∧ NoneI w w' (wr.heap.size + 1) wr.heap.size) (fun i _ => 2 - (intOf i).toNat)
        case atStart => exact ⟨0, rfl, Nat.zero_le _, NI⟩
        case round =>
          clear NI
          obtain ⟨k, rfl, hk, NI⟩ := hrel
          by_cases hlt : k < 2
          · obtain ⟨p, hp, hnp⟩ := NI.at_ hlt
            replace NI := Lib.hid NI
            replace hnp := Lib.hid hnp
            go_wp2_with fail
            refine (used_none hnp.out job).mono ?_
            rintro x w' ⟨rfl, hf⟩
            replace hnp := Lib.hid (hnp.out.fr hf)
            replace NI := Lib.hid (NI.out.keep hf)
            clear hf
            clear hp
            go_wp2_with fail
            refine (left_none hnp.out job).mono ?_
            rintro x w' ⟨rfl, hf⟩
            replace hnp := Lib.hid (hnp.out.fr hf)
            replace NI := Lib.hid (NI.out.keep hf)
            clear hf
            go_wp2_with fail
            refine (free_none hnp.out job).mono ?_
            rintro x w' ⟨rfl, hf⟩
            replace hnp := Lib.hid (hnp.out.fr hf)
            replace NI := Lib.hid (NI.out.keep hf)
            clear hf
            go_wp2_with fail
            refine (take_none hnp.out job).mono ?_
            rintro x w' ⟨rfl, hf⟩
            replace hnp := Lib.hid (hnp.out.fr hf)
            replace NI := Lib.hid (NI.out.keep hf)
            clear hf
            go_wp2_with fail
            refine (gives_none hnp.out job).mono ?_
            rintro x w' ⟨rfl, hf⟩
            replace hnp := Lib.hid (hnp.out.fr hf)
            replace NI := Lib.hid (NI.out.keep hf)
            clear hf
            go_wp2_with fail
            refine (total_none hnp.out).mono ?_
            rintro x w' ⟨rfl, rfl⟩
            go_wp2_with fail
            refine (copy_none hnp.out).mono ?_
            rintro x w' ⟨rfl, rfl⟩
            go_wp2
            go_roundw
            case rel => exact ⟨k + 1, by go_num, by omega, NI.out⟩
            case measure => simp [intOf]; omega
          · replace NI := Lib.hid NI
            go_wp2_with fail
            refine (works_any _).mono ?_
            rintro x w' ⟨rfl, hf⟩
            go_wp2
            go_ret
            exact ⟨rfl, NI.out.fr.then0 hf⟩
  have hg1 := Lib.hid (show beyondB all = false by cases h : beyondB all <;> simp_all)
  have hg3 := Lib.hid (show xs.any beyondB = false by cases h : xs.any beyondB <;> simp_all)
  have hle1 : n ≤ 64 := by omega
  clear hbad
  go_enter Try.func9, Try.ntmps9
  go_wp2_with fail
  refine (clone_any A n c0 xs w HR.out (by omega)).mono ?_
  rintro x w1 ⟨A2, q2, rfl, hown, F1⟩
  have HRA := Lib.hid (Reads.of_own hown)
  have HOW := Lib.hid hown
  clear hown
  go_wp2_with fail
  refine (new_good' all A2 n q2 _ xs _ HL.out HRA.out (Nat.le_refl _) hg1.out hle1 hg3.out).mono ?_
  rintro x w2 ⟨rfl, hca, hbl⟩
  have F2 : Fr No w1 w2 := Fr.of_below hbl
  have HF2 := Lib.hid F2.size
  have HRB := Lib.hid (HR.out.fr (F1.then0 F2) (Nat.le_refl _) (fun _ _ x => x))
  have HF3 := Lib.hid (F1.then0 F2).size
  generalize hcw : w1.heap.size = c at *
  have HCW := Lib.hid hcw
  clear hcw
  go_wp2_with fail
  refine (rnew_good' all A n c0 _ xs _ HL.out HRB.out HF3.out hg1.out hle1 hg3.out).mono ?_
  rintro x w3 ⟨b, e, r, rfl, q1, q2', q3, q4, q5, hre, F3⟩
  have hown3 := own_fr HOW.out (F2.then0 F3) (fun _ _ x => x)
  have HRA3 := Lib.hid (Reads.of_own hown3)
  have HRB3 := Lib.hid (HRB.out.fr F3 HF3.out (fun _ _ x => x))
  have HOW3 := Lib.hid hown3
  clear hown3
  go_wp2_with fail
  refine (equal_any A2 A n q2 c0 _ _ xs _ hn HRA3.out HRB3.out).mono ?_
  rintro x w4 ⟨rfl, F4⟩
  have hown4 := own_fr HOW3.out F4 (fun _ _ x => x)
  obtain ⟨w5, hcl, F5⟩ := clear_own hown4
  have hc4 : CapsAt w4 c _ := (hca.fr F3 (fun x => x)).fr F4 (fun x => x)
  have hr4 : RefAt w4 b e r _ := hre.fr F4 (fun x => x) (fun x => x) (fun x => x)
  have NW := Lib.hid (show NewsI w w5 c b e r (.fresh all xs) from by
    have hg : ∀ k, (Value.slice A2 n q2).ownBlock = some k → k < c := fun k hk => by have h1 := (HOW.out.lt k hk).2; have h2 := HCW.out; omega
    have hcb : c ≤ w2.heap.size := Nat.le_of_lt hca.blk.lt
    have hb3 := hc4.blk
    refine ⟨hc4.fr F5 (fun h => own_blk_ne hown4 hc4.blk (by decide) _ h rfl), hr4.fr F5 (fun h => by have := hg _ h; omega) (fun h => by have := hg _ h; omega) (fun h => by have := hg _ h; omega), ?_⟩
    exact (((F1.then0 F2).then0 F3).then0 F4).ownS F5 (fun k hk => (hown4.lt k hk).1))
  clear F1 F2 F3 F4 F5 hown4 HRA HRB HOW HRA3 HRB3 HOW3 HF2 HF3 hca hbl hre hc4 hr4 q1 q2' q3 q4 q5
  go_wp2_with fail
  clear hcl
  generalize CS.fresh all xs = s at *
  go_loopw [57] (fun i wq => ∃ k : Nat, i = .int .i64 k ∧ k ≤ n ∧ NewsI w wq c b e r s) (fun i _ => n - (intOf i).toNat)
  case atStart => exact ⟨0, rfl, Nat.zero_le _, NW.out⟩
  case round =>
    clear NW
    obtain ⟨k, rfl, hk, NW⟩ := hrel
    by_cases hlt : k < n
    · replace NW := Lib.hid NW
      go_wp2_with fail
      refine (shows_any c b e r s _ k NW.out.cap NW.out.ref).mono ?_
      rintro x w' ⟨rfl, hf⟩
      replace NW := Lib.hid (NW.out.keep hf)
      clear hf
      go_wp2
      go_roundw
      case rel => exact ⟨k + 1, by go_num, by omega, NW.out⟩
      case measure => simp [intOf]; omega
    · replace NW := Lib.hid NW
      go_wp2_with fail
      refine (shows_any c b e r s _ job NW.out.cap NW.out.ref).mono ?_
      rintro x wr ⟨rfl, hf⟩
      have FW := NW.out.fr.then0 hf
      clear hf NW
      go_wp2_with fail
      have NI : NoneI w ((wr.alloc (.cells ZC 57)).alloc (.cells #[.pointer none, .pointer (some ⟨wr.heap.size, 0, none⟩)] 23)) (wr.heap.size + 1) wr.heap.size :=
        ⟨by have := Blk.new (wr.alloc (.cells ZC 57)) 23 #[.pointer none, .pointer (some ⟨wr.heap.size, 0, none⟩)]; rw [World.size_alloc] at this; exact this, (Blk.new wr 57 ZC).alloc _, ((FW).alloc _).alloc _⟩
      go_loopw [84] (fun i w' => ∃ k : Nat, i = .int .i64 k ∧ k ≤ 2 ∧ NoneI w w' (wr.heap.size + 1) wr.heap.size) (fun i _ => 2 - (intOf i).toNat)
      case atStart => exact ⟨0, rfl, Nat.zero_le _, NI⟩
      case round =>
        clear NI
        obtain ⟨k, rfl, hk, NI⟩ := hrel
        by_cases hlt : k < 2
        · obtain ⟨p, hp, hnp⟩ := NI.at_ hlt
          replace NI := Lib.hid NI
          replace hnp := Lib.hid hnp
          go_wp2_with fail
          refine (used_none hnp.out job).mono ?_
          rintro x w' ⟨rfl, hf⟩
          replace hnp := Lib.hid (hnp.out.fr hf)
          replace NI := Lib.hid (NI.out.keep hf)
          clear hf
          clear hp
          go_wp2_with fail
          refine (left_none hnp.out job).mono ?_
          rintro x w' ⟨rfl, hf⟩
          replace hnp := Lib.hid (hnp.out.fr hf)
          replace NI := Lib.hid (NI.out.keep hf)
          clear hf
          go_wp2_with fail
          refine (free_none hnp.out job).mono ?_
          rintro x w' ⟨rfl, hf⟩
          replace hnp := Lib.hid (hnp.out.fr hf)
          replace NI := Lib.hid (NI.out.keep hf)
          clear hf
          go_wp2_with fail
          refine (take_none hnp.out job).mono ?_
          rintro x w' ⟨rfl, hf⟩
          replace hnp := Lib.hid (hnp.out.fr hf)
          replace NI := Lib.hid (NI.out.keep hf)
          clear hf
          go_wp2_with fail
          refine (gives_none hnp.out job).mono ?_
          rintro x w' ⟨rfl, hf⟩
          replace hnp := Lib.hid (hnp.out.fr hf)
          replace NI := Lib.hid (NI.out.keep hf)
          clear hf
          go_wp2_with fail
          refine (total_none hnp.out).mono ?_
          rintro x w' ⟨rfl, rfl⟩
          go_wp2_with fail
          refine (copy_none hnp.out).mono ?_
          rintro x w' ⟨rfl, rfl⟩
          go_wp2
          go_roundw
          case rel => exact ⟨k + 1, by go_num, by omega, NI.out⟩
          case measure => simp [intOf]; omega
        · replace NI := Lib.hid NI
          go_wp2_with fail
          refine (works_any _).mono ?_
          rintro x w' ⟨rfl, hf⟩
          go_wp2
          go_ret
          exact ⟨rfl, NI.out.fr.then0 hf⟩
end Go.Proofs.Ytjgjbjigghfnbaa
