/- shows: caps and the document's caps of one state show the same. -/
import Derived.Test.YtjgjbjigghfnbaaRefD
namespace Go.Proofs.Ytjgjbjigghfnbaa
open Go.RowKit Go.Wk

set_option maxHeartbeats 1000000 in
theorem shows_any (c b e r : Nat) (s : CS) (w : World) (job : Int) (hc : CapsAt w c s) (hr : RefAt w b e r s) :
    Calls Try.prog 24 #[.pointer (some ⟨c, 0, none⟩), .pointer (some ⟨b, 0, none⟩), .int .i64 job] w fun x w' => x = .returned (.bool true) ∧ Fr No w w' := by
  have no : ∀ k, ¬ No k := fun _ x => x
  have hr1 := Lib.hid hr
  have hc1 := Lib.hid hc
  clear hr hc
  go_enter Try.func24, Try.ntmps24
  go_wp2_with fail
  refine (used_any c s w job hc1.out).mono ?_
  rintro x w1 ⟨rfl, hf⟩
  have F := hf
  have hc2 := Lib.hid (hc1.out.fr hf (no _)); have hr2 := Lib.hid (hr1.out.fr hf (no _) (no _) (no _))
  clear hf
  go_wp2_with fail
  refine (rused_any b e r s w1 job hr2.out).mono ?_
  rintro x w2 ⟨rfl, rfl⟩
  go_wp2_with fail
  refine (left_any c s w1 job hc2.out).mono ?_
  rintro x w3 ⟨rfl, hf⟩
  replace F := F.then0 hf
  have hc3 := Lib.hid (hc2.out.fr hf (no _)); have hr3 := Lib.hid (hr2.out.fr hf (no _) (no _) (no _))
  clear hf
  go_wp2_with fail
  refine (rleft_any b e r s w3 job hr3.out).mono ?_
  rintro x w4 ⟨rfl, hf⟩
  replace F := F.then0 hf
  have hc4 := Lib.hid (hc3.out.fr hf (no _)); have hr4 := Lib.hid (hr3.out.fr hf (no _) (no _) (no _))
  clear hf
  go_wp2_with fail
  refine (free_any c s w4 job hc4.out).mono ?_
  rintro x w5 ⟨rfl, hf⟩
  replace F := F.then0 hf
  have hc5 := Lib.hid (hc4.out.fr hf (no _)); have hr5 := Lib.hid (hr4.out.fr hf (no _) (no _) (no _))
  clear hf
  go_wp2_with fail
  refine (rfree_any b e r s w5 job hr5.out).mono ?_
  rintro x w6 ⟨rfl, n6, rfl⟩
  replace F := F.drewN n6
  have hc6 := Lib.hid (show CapsAt (w5.drewN n6) c s from hc5.out.drewN n6); have hr6 := Lib.hid (hr5.out.drewN n6)
  generalize w5.drewN n6 = w6 at *
  go_wp2_with fail
  refine (total_any c s w6 hc6.out).mono ?_
  rintro x w7 ⟨rfl, rfl⟩
  go_wp2_with fail
  refine (rtotal_any b e r s w6 hr6.out).mono ?_
  rintro x w8 ⟨rfl, rfl⟩
  go_wp2
  go_ret
  exact ⟨ret1b (by simp), F⟩
end Go.Proofs.Ytjgjbjigghfnbaa
