/- The contract of Copy. -/
import Derived.Test.YtgkpmckbdagkcaaH
namespace Go.Proofs.Ytgkpmckbdagkcaa
open Go.RowKit Go.Wk

/-- A list of deadlines that is new. -/
def NewLate (w : World) (s : LS) (e : Ending) (w' : World) : Prop := ∃ b D, e = .returned (.pointer (some ⟨b, 0, none⟩)) ∧ LateAt w' b D s ∧ (∀ k, D k → w.heap.size ≤ k) ∧ Fr No w w'

theorem late_built {w W : World} {bm n c : Nat} {A : Option Addr} {s : LS} (hok : s.ok) (hn : n = s.l.length) (hm : MapF W Try.prog 3 bm s.seq.toNat (mkOf s.l)) (ho : W.ownsRow w.heap.size 3 1 (.slice A n c) n (cells .i64 (ids s.l))) (hb : w.heap.size ≤ bm) (hf : Fr No w W) :
    NewLate w s (.returned (.pointer (some ⟨W.heap.size, 0, none⟩))) (W.alloc (.cells #[.map (some bm), .slice A n c, .int .i64 s.seq] 50)) := by
  subst hn
  refine ⟨W.heap.size, _, rfl, ⟨bm, .slice A s.l.length c, ⟨Blk.new _ _ _, own_base (ho.alloc _) (Nat.zero_le _), hm.fr ((Fr.refl No _).alloc _) (fun x => x), hok⟩, rfl⟩, fun k hk => ?_, hf.alloc _⟩
  rcases hk with rfl | rfl | hk
  · exact hf.size
  · exact hb
  · exact (ho.lt k hk).1

set_option maxRecDepth 100000 in
set_option maxHeartbeats 4000000 in
theorem Copy_any (b bm : Nat) (v : Value) (s : LS) (w : World) (h : LateV w b bm v s) : Calls Try.prog 25 #[.pointer (some ⟨b, 0, none⟩)] w fun e w' => NewLate w s e w' := by
  obtain ⟨A, c, rfl, _⟩ := h.form
  have HH := Lib.hid h
  have HV := Lib.hid (valid_any b bm _ s w h)
  have HC := Lib.hid (fun X (hX : Fr No w X) => clone_any A s.l.length c (ids s.l) X ((Reads.of_own h.own).fr0 hX) (by have := h.len; omega))
  have HM := Lib.hid (fun X (hX : Fr No w X) => mclone_any bm s.seq.toNat (mkOf s.l) X (h.mp.fr hX (fun x => x)))
  have SK := Lib.hid (fun (X : World) (hX : Fr No w X) => (h.fr hX (fun _ _ x => x)).cells)
  obtain ⟨c0, c1, c2⟩ := h.cells
  obtain ⟨n, hn⟩ : ∃ n, n = s.l.length := ⟨_, rfl⟩
  rw [← hn] at HC SK c1
  have HN := Lib.hid hn
  have FD := Lib.hid (Fr.refl No w).drew
  clear h hn
  go_enter Try.func25, Try.ntmps25
  go_wp2_with fail
  refine HV.out.mono ?_
  rintro x w1 ⟨rfl, rfl⟩
  go_wp2
  go_region_held3 (fun w' => w'.cell? ⟨b, 0, none⟩ = some (.map (some bm)) ∧ w'.cell? ⟨b, 1, none⟩ = some (.slice A n c) ∧ w'.cell? ⟨b, 2, none⟩ = some (.int .i64 s.seq))
    (first | exact SK.out _ FB.out | exact SK.out _ FA.out | exact SK.out _ FD.out | go_keep)
    (first
      | (go_at_call 42; first
          | ((with_reducible refine (HM.out _ FA.out).mono ?_); rintro e wM ⟨rfl, hmp, hf⟩; have FB := Lib.hid (FA.out.then0 hf); have KM := Lib.hid hmp; have KO := Lib.hid (own_fr KO.out hf (fun _ _ x => x)); clear hf hmp)
          | ((with_reducible refine (HM.out _ FD.out).mono ?_); rintro e wM ⟨rfl, hmp, hf⟩; have FA := Lib.hid (FD.out.then0 hf); have KM := Lib.hid hmp; clear hf hmp))
      | (go_at_call 38; first
          | ((with_reducible refine (HC.out _ FA.out).mono ?_); rintro e wC ⟨A', c', rfl, hown, hcc, hf⟩; have FB := Lib.hid (FA.out.then0 hf); have KO := Lib.hid (own_base hown FA.out.size); have KM := Lib.hid (KM.out.fr hf (fun x => x)); clear hf hown hcc)
          | ((with_reducible refine (HC.out _ FD.out).mono ?_); rintro e wC ⟨A', c', rfl, hown, hcc, hf⟩; have FA := Lib.hid (FD.out.then0 hf); have KO := Lib.hid hown; clear hf hown hcc)))
  all_goals
    have HB := Lib.hid (late_built HH.out.ok HN.out KM.out KO.out (by first | exact Nat.le_refl _ | exact FA.out.size) FB.out)
    go_wp2
    go_ret
    exact HB.out
end Go.Proofs.Ytgkpmckbdagkcaa
