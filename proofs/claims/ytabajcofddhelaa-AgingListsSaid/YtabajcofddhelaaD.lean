/- The contract of order's comparison. -/
import Derived.Test.YtabajcofddhelaaC
namespace Go.Proofs.Ytabajcofddhelaa
open Go.RowKit Go.Wk

set_option maxRecDepth 100000 in
set_option maxHeartbeats 16000000 in
theorem ord_any (g : Nat) (a b : IV) (y : Int) (w : World) (hg : Blk w g 2 #[.int .i64 y]) (ha : Ok a) (hb : Ok b) (y0 : 1 ≤ y) (y1 : y ≤ 68719476736) :
    Calls Try.prog 45 #[.agg #[.int .i64 a.id, .int .i64 a.pr, .int .i64 a.since, .int .i64 a.seq], .agg #[.int .i64 b.id, .int .i64 b.pr, .int .i64 b.since, .int .i64 b.seq], .pointer (some ⟨g, 0, none⟩)] w fun e w' => e = .returned (.int .i64 (ordI y a b)) ∧ Fr No w w' := by
  have HO := Lib.hid (show ordI y a b = or3 (cmpI (keyV y a) (keyV y b)) (cmpI a.seq b.seq) (cmpI a.id b.id) from rfl)
  have KA := Lib.hid (fun X => key_any a y X ha y0 y1)
  have KB := Lib.hid (fun X => key_any b y X hb y0 y1)
  clear ha hb
  generalize ordI y a b = r at *
  generalize keyV y a = ka at *
  generalize keyV y b = kb at *
  obtain ⟨aid, apr, asi, asq⟩ := a
  obtain ⟨bid, bpr, bsi, bsq⟩ := b
  dsimp only at *
  have HOR := Lib.hid (fun X => or3_any (cmpI ka kb) (cmpI asq bsq) (cmpI aid bid) X)
  rw [← HO.out] at HOR
  generalize hc1 : cmpI ka kb = c1 at *
  generalize hc2 : cmpI asq bsq = c2 at *
  generalize hc3 : cmpI aid bid = c3 at *
  have C1 := Lib.hid (fun X => cmp47 ka kb X)
  have C2 := Lib.hid (fun X => cmp47 asq bsq X)
  have C3 := Lib.hid (fun X => cmp48 aid bid X)
  rw [hc1] at C1
  rw [hc2] at C2
  rw [hc3] at C3
  clear hc1 hc2 hc3 HO
  have b3 := Blk.new w 23 #[.int .i64 aid, .int .i64 apr, .int .i64 asi, .int .i64 asq]
  obtain ⟨w1, hw1⟩ : ∃ w1, w1 = w.alloc (.cells #[.int .i64 aid, .int .i64 apr, .int .i64 asi, .int .i64 asq] 23) := ⟨_, rfl⟩
  have b4 := Blk.new w1 23 #[.int .i64 bid, .int .i64 bpr, .int .i64 bsi, .int .i64 bsq]
  have hs1 : w1.heap.size = w.heap.size + 1 := by rw [hw1]; simp
  obtain ⟨w0, hw0⟩ : ∃ w0, w0 = w1.alloc (.cells #[.int .i64 bid, .int .i64 bpr, .int .i64 bsi, .int .i64 bsq] 23) := ⟨_, rfl⟩
  have F0 : Fr No w w0 := by rw [hw0, hw1]; exact ((Fr.refl No w).alloc _).alloc _
  have B3 : Blk w0 w.heap.size 23 #[.int .i64 aid, .int .i64 apr, .int .i64 asi, .int .i64 asq] := by rw [hw0]; rw [← hw1] at b3; exact b3.alloc _
  have B4 : Blk w0 (w.heap.size + 1) 23 #[.int .i64 bid, .int .i64 bpr, .int .i64 bsi, .int .i64 bsq] := by rw [← hs1, hw0]; exact b4
  have BG := hg.fr F0 (fun x => x)
  have SK := Lib.hid (fun (X : World) (hX : Fr No w0 X) =>
    (show (X.cell? ⟨w.heap.size, 0, none⟩ = some (.int .i64 aid) ∧ X.cell? ⟨w.heap.size, 1, none⟩ = some (.int .i64 apr) ∧ X.cell? ⟨w.heap.size, 2, none⟩ = some (.int .i64 asi) ∧ X.cell? ⟨w.heap.size, 3, none⟩ = some (.int .i64 asq)
      ∧ X.cell? ⟨w.heap.size + 1, 0, none⟩ = some (.int .i64 bid) ∧ X.cell? ⟨w.heap.size + 1, 1, none⟩ = some (.int .i64 bpr) ∧ X.cell? ⟨w.heap.size + 1, 2, none⟩ = some (.int .i64 bsi) ∧ X.cell? ⟨w.heap.size + 1, 3, none⟩ = some (.int .i64 bsq)
      ∧ X.cell? ⟨g, 0, none⟩ = some (.int .i64 y)) from
    ⟨(B3.fr hX (fun x => x)).cell 0, (B3.fr hX (fun x => x)).cell 1, (B3.fr hX (fun x => x)).cell 2, (B3.fr hX (fun x => x)).cell 3, (B4.fr hX (fun x => x)).cell 0, (B4.fr hX (fun x => x)).cell 1, (B4.fr hX (fun x => x)).cell 2, (B4.fr hX (fun x => x)).cell 3, (BG.fr hX (fun x => x)).cell 0⟩))
  obtain ⟨s1, s2, s3, s4, s5, s6, s7, s8, s9⟩ := SK.out w0 (Fr.refl No w0)
  have HW0 := Lib.hid (show w0 = (w.alloc (.cells #[.int .i64 aid, .int .i64 apr, .int .i64 asi, .int .i64 asq] 23)).alloc (.cells #[.int .i64 bid, .int .i64 bpr, .int .i64 bsi, .int .i64 bsq] 23) by rw [hw0, hw1])
  have FD := Lib.hid (Fr.refl No w0).drew
  have HF0 := Lib.hid F0
  clear hg b3 b4 B3 B4 BG hw0 hw1 hs1 F0
  go_enter Try.func45, Try.ntmps45
  go_wp2_with fail
  rw [← HW0.out]
  go_region_held3 (fun w' => w'.cell? ⟨w.heap.size, 0, none⟩ = some (.int .i64 aid) ∧ w'.cell? ⟨w.heap.size, 1, none⟩ = some (.int .i64 apr) ∧ w'.cell? ⟨w.heap.size, 2, none⟩ = some (.int .i64 asi) ∧ w'.cell? ⟨w.heap.size, 3, none⟩ = some (.int .i64 asq)
      ∧ w'.cell? ⟨w.heap.size + 1, 0, none⟩ = some (.int .i64 bid) ∧ w'.cell? ⟨w.heap.size + 1, 1, none⟩ = some (.int .i64 bpr) ∧ w'.cell? ⟨w.heap.size + 1, 2, none⟩ = some (.int .i64 bsi) ∧ w'.cell? ⟨w.heap.size + 1, 3, none⟩ = some (.int .i64 bsq)
      ∧ w'.cell? ⟨g, 0, none⟩ = some (.int .i64 y))
    (first | exact SK.out _ FB.out | exact SK.out _ FA.out | exact SK.out _ FD.out | go_keep)
    (first
      | (go_at_call 33; ((with_reducible refine (KA.out _).mono ?_); rintro e wA ⟨rfl, hf⟩); first | (have FB := Lib.hid (FA.out.then0 hf); clear hf) | (have FA := Lib.hid (FD.out.then0 hf); clear hf))
      | (go_at_call 33; ((with_reducible refine (KB.out _).mono ?_); rintro e wA ⟨rfl, hf⟩); first | (have FB := Lib.hid (FA.out.then0 hf); clear hf) | (have FA := Lib.hid (FD.out.then0 hf); clear hf))
      | (go_at_call 47; ((with_reducible refine (C1.out _).mono ?_); rintro e wA ⟨rfl, rfl⟩))
      | (go_at_call 47; ((with_reducible refine (C2.out _).mono ?_); rintro e wA ⟨rfl, rfl⟩))
      | (go_at_call 48; ((with_reducible refine (C3.out _).mono ?_); rintro e wA ⟨rfl, rfl⟩))
      | (go_at_call 46; ((refine (HOR.out _).mono ?_); rintro e wA ⟨rfl, rfl⟩)))
  all_goals
    go_wp2
    go_ret
    exact ⟨rfl, (HF0.out.then0 FB.out).alloc _⟩
end Go.Proofs.Ytabajcofddhelaa
