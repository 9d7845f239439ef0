/- ReadyNews: the walk. -/
import Derived.Test.YtcjcoigjedcieaaBad
namespace Go.Proofs.Ytcjcoigjedcieaa
open Go.RowKit Go.Wk

set_option maxRecDepth 100000 in
set_option maxHeartbeats 8000000 in
theorem readyNews_walk (size ag id pr since : Int) (w : World) (hid : fits id) (hsz : fits size) :
    Calls Try.prog 9 #[.int .i64 size, .int .i64 ag, .int .i64 id, .int .i64 pr, .int .i64 since] w fun e w' => e = .returned (.bool true) ∧ Fr No w w' := by
  by_cases hg : (0 ≤ size ∧ size ≤ 1024) ∧ (1 ≤ ag ∧ ag ≤ 68719476736)
  · have N0 := Lib.hid (New_any size ag hg.1 hg.2 w)
    have R0 := Lib.hid (fun X => rNew_any size ag hg.1 hg.2 X)
    have hn : hasB (QS.new size ag) id = false := rfl
    have A1 := Lib.hid (fun b D X h => Remove_at b D (QS.new size ag) X h id hid)
    have A2 := Lib.hid (fun b D X h => Has_at b D (QS.new size ag) X h id hid)
    have A3 := Lib.hid (fun b D X h => Room_at b D (QS.new size ag) X h)
    have A4 := Lib.hid (fun b D X h => Len_at b D (QS.new size ag) X h)
    have A5 := Lib.hid (fun b D X h => Items_at b D (QS.new size ag) X h)
    rw [hn] at A2
    rw [show remE (QS.new size ag) id = 5 from rfl, show remS (QS.new size ag) id = QS.new size ag from rfl] at A1
    rw [show roomV (QS.new size ag) = size by unfold roomV; show size - ((0 : Nat) : Int) = size; omega] at A3
    rw [show (QS.new size ag).l.length = 0 from rfl] at A4 A5
    have hss : (size != size) = false := by simp
    clear hn hg
    go_enter Try.func9, Try.ntmps9
    go_wp2_with fail
    refine N0.out.mono ?_
    rintro e w1 ⟨b, D, rfl, hn⟩
    have M := Lib.hid (Mine.of hn (Fr.refl No w))
    clear hn
    go_wp2_with fail
    refine (R0.out _).mono ?_
    rintro e w2 ⟨rfl, _, _, hf⟩
    replace M := Lib.hid (M.out.fr0 hf)
    clear hf
    go_wp2_with fail
    refine (A4.out b _ _ M.out.at_).mono ?_
    rintro e w3 ⟨rfl, rfl⟩
    go_wp2_with fail
    refine (A3.out b _ _ M.out.at_).mono ?_
    rintro e w4 ⟨rfl, q, rfl⟩
    replace M := Lib.hid (M.out.fr0 ((Fr.refl No _).drewN q))
    generalize w2.drewN q = w4 at *
    go_wp2_with fail
    refine (A5.out b _ _ M.out.at_).mono ?_
    rintro e w5 ⟨G, gc, rfl, ho, hgc, hf⟩
    replace M := Lib.hid (M.out.fr0 hf)
    clear hf ho
    go_wp2_with fail
    refine (A2.out b _ _ M.out.at_).mono ?_
    rintro e w6 ⟨rfl, hf⟩
    replace M := Lib.hid (M.out.fr0 hf)
    clear hf
    go_wp2_with fail
    refine (A1.out b _ _ M.out.at_).mono ?_
    rintro e w7 ⟨rfl, ht⟩
    obtain ⟨D2, M2, _, _⟩ := M.out.next ht
    have FW := Lib.hid M2.fr
    clear ht M2
    obtain ⟨X0, hX0⟩ : ∃ X0, X0 = (w7.alloc (.cells #[.slice none 0 0, .map none, .int .i64 0, .int .i64 0, .int .i64 0] 65)).alloc (.cells #[.pointer none, .pointer (some ⟨w7.heap.size, 0, none⟩)] 24) := ⟨_, rfl⟩
    have HX0 := Lib.hid hX0
    have hX0s : X0.heap.size = w7.heap.size + 2 := by rw [hX0]; simp
    have BZ := Lib.hid (show Blk X0 w7.heap.size 65 #[.slice none 0 0, .map none, .int .i64 0, .int .i64 0, .int .i64 0] by rw [hX0]; exact (Blk.new _ _ _).alloc _)
    have BS := Lib.hid (show Blk X0 (w7.heap.size + 1) 24 #[.pointer none, .pointer (some ⟨w7.heap.size, 0, none⟩)] by
      rw [hX0]
      have := Blk.new (w7.alloc (.cells #[.slice none 0 0, .map none, .int .i64 0, .int .i64 0, .int .i64 0] 65)) 24 #[.pointer none, .pointer (some ⟨w7.heap.size, 0, none⟩)]
      rwa [World.size_alloc] at this)
    have FX0 := Lib.hid (show Fr No w X0 by rw [hX0]; exact (FW.out.alloc _).alloc _)
    clear hX0
    go_wp2
    rw [← HX0.out]
    go_loopw [79] (fun i wr => ∃ k : Nat, i = .int .i64 k ∧ k ≤ 2 ∧ Hid (Fr No X0 wr)) (fun i _ => 2 - (intOf i).toNat)
    case atStart => exact ⟨0, rfl, Nat.zero_le _, Lib.hid (Fr.refl _ _)⟩
    case round =>
      obtain ⟨k, rfl, hk, HF⟩ := hrel
      by_cases hlt : k < 2
      · have hlt2 : (k : Int) < 2 := by omega
        have hc0 := (BS.out.fr HF.out (fun z => z)).cell k
        have hb : ∃ v, Bad wr v ∧ #[Value.pointer none, .pointer (some ⟨w7.heap.size, 0, none⟩)][k]? = some v := by
          rcases (show k = 0 ∨ k = 1 by omega) with rfl | rfl
          · exact ⟨.pointer none, .inl rfl, rfl⟩
          · exact ⟨.pointer (some ⟨w7.heap.size, 0, none⟩), .inr ⟨_, rfl, (BZ.out.fr HF.out (fun z => z)).lt, (BZ.out.fr HF.out (fun z => z)).cell 1⟩, rfl⟩
        obtain ⟨v, hv, he⟩ := hb
        rw [he] at hc0
        have C1 := Lib.hid (Head_bad v wr hv)
        have C2 := Lib.hid (fun f => Pick_bad v f wr hv)
        have C3 := Lib.hid (Push_bad v id pr since wr hv)
        have C4 := Lib.hid (Remove_bad v id wr hv)
        have C5 := Lib.hid (Has_bad v id wr hv)
        have C6 := Lib.hid (Len_bad v wr hv)
        have C7 := Lib.hid (Room_bad v wr hv)
        have C8 := Lib.hid (Items_bad v wr hv)
        have C9 := Lib.hid (Copy_bad v wr hv)
        clear hv he
        go_wp2_with (first
          | (go_at_call 20; ((with_reducible refine C1.out.mono ?_); rintro e wx ⟨rfl, rfl⟩))
          | (go_at_call 23; ((with_reducible refine (C2.out _).mono ?_); rintro e wx ⟨rfl, rfl⟩))
          | (go_at_call 19; ((with_reducible refine C3.out.mono ?_); rintro e wx ⟨rfl, rfl⟩))
          | (go_at_call 21; ((with_reducible refine C4.out.mono ?_); rintro e wx ⟨rfl, rfl⟩))
          | (go_at_call 15; ((with_reducible refine C5.out.mono ?_); rintro e wx ⟨rfl, rfl⟩))
          | (go_at_call 13; ((with_reducible refine C6.out.mono ?_); rintro e wx ⟨rfl, rfl⟩))
          | (go_at_call 14; ((with_reducible refine C7.out.mono ?_); rintro e wx ⟨rfl, rfl⟩))
          | (go_at_call 12; ((with_reducible refine C8.out.mono ?_); rintro e wx ⟨rfl, rfl⟩))
          | (go_at_call 33; ((with_reducible refine C9.out.mono ?_); rintro e wx ⟨rfl, rfl⟩)))
        go_roundw
        case rel => exact ⟨k + 1, by go_num, by omega, HF⟩
        case measure => simp [intOf]; omega
      · obtain rfl : k = 2 := by omega
        go_wp2_with fail
        refine (works_any _).mono ?_
        rintro e w9 ⟨rfl, hf⟩
        have F9 := Lib.hid ((FX0.out.then0 HF.out).then0 hf)
        clear hf
        go_wp2
        go_ret
        exact ⟨rfl, F9.out⟩
  · have hb : size < 0 ∨ 1024 < size ∨ ag < 1 ∨ 68719476736 < ag := by omega
    have N0 := Lib.hid (New_bad size ag hb w)
    have R0 := Lib.hid (rNew_bad size ag hb w)
    clear hb hg
    go_enter Try.func9, Try.ntmps9
    go_wp2_with fail
    refine N0.out.mono ?_
    rintro e w1 ⟨rfl, rfl⟩
    go_wp2_with fail
    refine R0.out.mono ?_
    rintro e w1 ⟨rfl, rfl⟩
    have FW := Lib.hid (Fr.refl No w)
    obtain ⟨X0, hX0⟩ : ∃ X0, X0 = (w.alloc (.cells #[.slice none 0 0, .map none, .int .i64 0, .int .i64 0, .int .i64 0] 65)).alloc (.cells #[.pointer none, .pointer (some ⟨w.heap.size, 0, none⟩)] 24) := ⟨_, rfl⟩
    have HX0 := Lib.hid hX0
    have hX0s : X0.heap.size = w.heap.size + 2 := by rw [hX0]; simp
    have BZ := Lib.hid (show Blk X0 w.heap.size 65 #[.slice none 0 0, .map none, .int .i64 0, .int .i64 0, .int .i64 0] by rw [hX0]; exact (Blk.new _ _ _).alloc _)
    have BS := Lib.hid (show Blk X0 (w.heap.size + 1) 24 #[.pointer none, .pointer (some ⟨w.heap.size, 0, none⟩)] by
      rw [hX0]
      have := Blk.new (w.alloc (.cells #[.slice none 0 0, .map none, .int .i64 0, .int .i64 0, .int .i64 0] 65)) 24 #[.pointer none, .pointer (some ⟨w.heap.size, 0, none⟩)]
      rwa [World.size_alloc] at this)
    have FX0 := Lib.hid (show Fr No w X0 by rw [hX0]; exact (FW.out.alloc _).alloc _)
    clear hX0
    go_wp2
    rw [← HX0.out]
    go_loopw [79] (fun i wr => ∃ k : Nat, i = .int .i64 k ∧ k ≤ 2 ∧ Hid (Fr No X0 wr)) (fun i _ => 2 - (intOf i).toNat)
    case atStart => exact ⟨0, rfl, Nat.zero_le _, Lib.hid (Fr.refl _ _)⟩
    case round =>
      obtain ⟨k, rfl, hk, HF⟩ := hrel
      by_cases hlt : k < 2
      · have hlt2 : (k : Int) < 2 := by omega
        have hc0 := (BS.out.fr HF.out (fun z => z)).cell k
        have hb : ∃ v, Bad wr v ∧ #[Value.pointer none, .pointer (some ⟨w.heap.size, 0, none⟩)][k]? = some v := by
          rcases (show k = 0 ∨ k = 1 by omega) with rfl | rfl
          · exact ⟨.pointer none, .inl rfl, rfl⟩
          · exact ⟨.pointer (some ⟨w.heap.size, 0, none⟩), .inr ⟨_, rfl, (BZ.out.fr HF.out (fun z => z)).lt, (BZ.out.fr HF.out (fun z => z)).cell 1⟩, rfl⟩
        obtain ⟨v, hv, he⟩ := hb
        rw [he] at hc0
        have C1 := Lib.hid (Head_bad v wr hv)
        have C2 := Lib.hid (fun f => Pick_bad v f wr hv)
        have C3 := Lib.hid (Push_bad v id pr since wr hv)
        have C4 := Lib.hid (Remove_bad v id wr hv)
        have C5 := Lib.hid (Has_bad v id wr hv)
        have C6 := Lib.hid (Len_bad v wr hv)
        have C7 := Lib.hid (Room_bad v wr hv)
        have C8 := Lib.hid (Items_bad v wr hv)
        have C9 := Lib.hid (Copy_bad v wr hv)
        clear hv he
        go_wp2_with (first
          | (go_at_call 20; ((with_reducible refine C1.out.mono ?_); rintro e wx ⟨rfl, rfl⟩))
          | (go_at_call 23; ((with_reducible refine (C2.out _).mono ?_); rintro e wx ⟨rfl, rfl⟩))
          | (go_at_call 19; ((with_reducible refine C3.out.mono ?_); rintro e wx ⟨rfl, rfl⟩))
          | (go_at_call 21; ((with_reducible refine C4.out.mono ?_); rintro e wx ⟨rfl, rfl⟩))
          | (go_at_call 15; ((with_reducible refine C5.out.mono ?_); rintro e wx ⟨rfl, rfl⟩))
          | (go_at_call 13; ((with_reducible refine C6.out.mono ?_); rintro e wx ⟨rfl, rfl⟩))
          | (go_at_call 14; ((with_reducible refine C7.out.mono ?_); rintro e wx ⟨rfl, rfl⟩))
          | (go_at_call 12; ((with_reducible refine C8.out.mono ?_); rintro e wx ⟨rfl, rfl⟩))
          | (go_at_call 33; ((with_reducible refine C9.out.mono ?_); rintro e wx ⟨rfl, rfl⟩)))
        go_roundw
        case rel => exact ⟨k + 1, by go_num, by omega, HF⟩
        case measure => simp [intOf]; omega
      · obtain rfl : k = 2 := by omega
        go_wp2_with fail
        refine (works_any _).mono ?_
        rintro e w9 ⟨rfl, hf⟩
        have F9 := Lib.hid ((FX0.out.then0 HF.out).then0 hf)
        clear hf
        go_wp2
        go_ret
        exact ⟨rfl, F9.out⟩
end Go.Proofs.Ytcjcoigjedcieaa
