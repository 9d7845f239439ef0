/- made: caps from small numbers. -/
import Derived.Test.YtjgjbjigghfnbaaF
import Derived.Test.YtjgjbjigghfnbaaMem
namespace Go.Proofs.Ytjgjbjigghfnbaa
open Go.RowKit Go.Wk

theorem info3 : (Try.prog.info? 3).map (fun i => (i.zero, i.size, i.bytes)) = some (some (.int .i64 0), 1, 8) := by kernel_rfl

theorem beyond_small {x : Int} (h : 0 ≤ x ∧ x ≤ 255) : beyondB x = false := by unfold beyondB; simp; omega

theorem new_good' (all : Int) (A : Option Addr) (n c B : Nat) (xs : List Int) (w : World) (hn : xs.length = n) (h : Reads w B 1 A n (cells .i64 xs)) (hB : B ≤ w.heap.size)
    (h1 : beyondB all = false) (h2 : n ≤ 64) (h3 : xs.any beyondB = false) :
    Calls Try.prog 16 #[.int .i64 all, .slice A n c] w fun e w' => e = .returned (.tuple #[.pointer (some ⟨w.heap.size, 0, none⟩), .int .i64 0]) ∧ CapsAt w' w.heap.size (.fresh all xs) ∧ Below w.heap.size w w' := by
  subst hn
  exact new_good all A c B xs w h hB h1 h2 h3

theorem made_any (all : Int) (A : Option Addr) (n c : Nat) (es : List Int) (w : World) (h : Reads w w.heap.size 1 A n (es.map (Value.int .u8))) (hn : n ≤ c) (hc : c ≤ 9223372036854775807)
    (ha : 0 ≤ all ∧ all ≤ 255) (he : ∀ x ∈ es, 0 ≤ x ∧ x ≤ 255) :
    Calls Try.prog 10 #[.int .u8 all, .slice A n c] w fun e w' => ∃ g v, e = .returned (.tuple #[.pointer (some ⟨g, 0, none⟩), v]) ∧ w.heap.size ≤ g ∧ CapsAt w' g (.fresh all (es.take 64)) ∧
      w'.ownsRow w.heap.size 3 1 v (es.take 64).length (cells .i64 (es.take 64)) ∧ Fr No w w' := by
  obtain ⟨i0, hi, hz0, hz1, hz2⟩ := info_parts info3
  have HR := Lib.hid h
  have HL := Lib.hid h.length_ints
  have HE := Lib.hid he
  have HA := Lib.hid (beyond_small ha)
  have HX := Lib.hid (show (es.take 64).any beyondB = false by
    rw [List.any_eq_false]; intro x hx; rw [beyond_small (he x (List.mem_of_mem_take hx))]; simp)
  clear h he
  obtain ⟨ha1, ha2⟩ := ha
  have e64 : max (64 : Int) 0 = 64 := by decide
  rcases Nat.lt_or_ge 64 n with h64 | h64
  all_goals
    go_enter Try.func10, Try.ntmps10
    go_wp2
    go_loopw [6, 17] (fun v i wr => ∃ k : Nat, k ≤ n ∧ k ≤ 64 ∧ i = .int .i64 k ∧ wr.ownsRow w.heap.size 3 1 v k (cells .i64 (es.take k)) ∧ Fr No w wr) (fun _ i _ => 64 - (intOf i).toNat)
    case atStart => exact ⟨0, Nat.zero_le _, Nat.zero_le _, rfl, World.ownsRow_nil _ _ _ _, Fr.refl _ _⟩
    case round =>
      obtain ⟨k, hk, hk64, rfl, hown, hF⟩ := hrel
      by_cases hlt : k < n ∧ k < 64
      · obtain ⟨hlt1, hlt2⟩ := hlt
        obtain ⟨b, off, rfl, hb, hcell⟩ := HR.out.int_at hlt1
        have hx := HE.out (es.getD k 0) (by have := HL.out; simp [show k < es.length by omega])
        have htk := Lib.hid (cells_take_succ .i64 es k (by have := HL.out; omega))
        obtain ⟨hx1, hx2⟩ := hx
        generalize es.getD k 0 = x at *
        have hcw : wr.cell? ⟨b, off + k, none⟩ = some (.int .u8 x) := (hF.cell (p := ⟨b, off + k, none⟩) hb (fun x => x)).trans hcell
        clear hcell
        have hsz := hF.size
        go_wp2_with (at_builtin; go_must (refine wpList_push rfl _ _ 24 rfl w.heap.size 3 i0 (.int .i64 0) 8 Try.underlying24 hi hz0 hz1 hz2 rfl (by omega) (.int .i64 x) 3 rfl _ _ _ rfl rfl (by exact hown) (by omega) hsz ?_); intro v1 w1 hown1 hf1 hne1)
        go_roundw
        case rel => exact ⟨k + 1, by omega, by omega, by go_num, by rw [htk.out]; exact hown1, hF.ownS hf1 (fun _ hb => hb)⟩
        case measure => simp [intOf]; omega
      · have hm : (es.take 64).length = k := by have := HL.out; rw [List.length_take]; omega
        have htk : es.take k = es.take 64 := by
          have := HL.out
          rcases Nat.lt_or_ge 64 n with h | h
          · rw [show k = 64 by omega]
          · rw [List.take_of_length_le (by omega), List.take_of_length_le (by omega)]
        have hge : ¬ (k : Int) < 64 ∨ ¬ (k : Int) < n := by omega
        rw [htk] at hown
        obtain ⟨A', c', rfl, hnc, hcm, hrd⟩ := Reads.of_cells hown (Nat.le_refl _)
        have HO := Lib.hid hown
        have HD := Lib.hid hrd
        have HM := Lib.hid hm
        clear hm htk hown hrd
        go_wp2_with (go_at_call 16; go_must (refine (new_good' all _ k _ _ (es.take 64) _ HM.out HD.out (Nat.le_refl _) HA.out hk64 HX.out).mono ?_); rintro e w1 ⟨rfl, hc1, hb1⟩)
        go_ret2
        have hsz := hF.size
        have f1 : Fr No wr w1 := Fr.of_below hb1
        refine ⟨_, _, rfl, hsz, hc1, ?_, hF.then0 f1⟩
        rw [HM.out]
        exact own_fr HO.out f1 (fun _ _ x => x)
end Go.Proofs.Ytjgjbjigghfnbaa
