/- The heap of pairs of strings: made, Len, Has, Top, Pop, Remove, New. -/
import Derived.Test.YtbndmelkdamgjaaShN
namespace Go.Proofs.Ytbndmelkdamgjaa.Sh
open Go.RowKit Go.Wk
abbrev HI (f : Nat) (bf : SV → SV → Bool) := HIn (V := SV) 98 100 CI (.func (.func f) #[] #[]) bf
/-- A heap of integers. -/
abbrev IH (f : Nat) (bf : SV → SV → Bool) := HAt (V := SV) 98 100 CI (.func (.func f) #[] #[]) bf
section
variable {f : Nat} {bf : SV → SV → Bool}
theorem made_cell (b : Nat) (w : World) (h : w.cell? ⟨b, 0, none⟩ = some (.func (.func f) #[] #[])) : Calls Try.prog 71 #[.pointer (some ⟨b, 0, none⟩)] w fun e w' => e = .returned (.bool true) ∧ w = w' := by
  have heq := fun (w : World) => run_neq_func_nil (P := Try.prog) w 60 (.func f) #[] #[] Try.underlying60
  go_enter Try.func71, Try.ntmps71
  go_wp2
  go_ret
  exact ⟨rfl, rfl⟩
theorem Len_in (b bm : Nat) (v : Value) (l s : List (En SV)) (g : Int) (w : World) (h : HI f bf w b bm v l s g) : Calls Try.prog 75 #[.pointer (some ⟨b, 0, none⟩)] w fun e w' => e = .returned (.int .i64 s.length) ∧ w = w' := by
  obtain ⟨c0, c1, c2, c3⟩ := h.at_.cells
  obtain ⟨A, c, rfl⟩ := h.at_.form
  have HV := Lib.hid (made_cell b w c0)
  rw [h.ln]
  clear h
  go_enter Try.func75, Try.ntmps75
  go_wp2_with fail
  refine HV.out.mono ?_
  rintro x w1 ⟨rfl, rfl⟩
  go_wp2
  go_ret
  exact ⟨rfl, rfl⟩
theorem Has_in (b bm : Nat) (v : Value) (l s : List (En SV)) (g : Int) (x : Int) (hx : fits x) (w : World) (h : HI f bf w b bm v l s g) : Calls Try.prog 72 #[.pointer (some ⟨b, 0, none⟩), .int .i64 x] w fun e w' => e = .returned (.bool (decide (x ∈ ids s))) ∧ w = w' := by
  obtain ⟨c0, c1, c2, c3⟩ := h.at_.cells
  have HV := Lib.hid (made_cell b w c0)
  obtain ⟨fm, hm, hp⟩ := h.at_.mp
  have hl := hm.look_ok Try.underlying3 Try.underlying43 (zeroI w) hx
  rw [h.has hp] at hl
  generalize (fm x).getD 0 = p at *
  generalize decide (x ∈ ids s) = ok at *
  clear h hp hm
  go_enter Try.func72, Try.ntmps72
  go_wp2_with fail
  refine HV.out.mono ?_
  rintro x w1 ⟨rfl, rfl⟩
  go_wp2
  go_ret
  exact ⟨rfl, rfl⟩
theorem Top_in (hw : Weak bf) (b bm : Nat) (v : Value) (l s : List (En SV)) (g : Int) (w : World) (h : HI f bf w b bm v l s g) : Calls Try.prog 92 #[.pointer (some ⟨b, 0, none⟩)] w fun e w' => e = .returned (.tuple #[.int .i64 (topV s), .bool (topB s)]) ∧ w = w' := by
  obtain ⟨c0, c1, c2, c3⟩ := h.at_.cells
  have HV := Lib.hid (Len_in b bm v l s g w h)
  rcases s with _ | ⟨a, s⟩
  · clear h
    go_enter Try.func92, Try.ntmps92
    go_wp2_with fail
    refine HV.out.mono ?_
    rintro x w1 ⟨rfl, rfl⟩
    go_wp2
    go_ret2
    exact ⟨rfl, rfl⟩
  · obtain ⟨h0, h1⟩ := h.head hw
    obtain ⟨G, c, rfl, hG, k0, _, _⟩ := AI.item h.at_ h0
    rw [h1] at k0
    have hn := h.at_.ok.n
    have hg := h.at_.ok.g
    obtain ⟨m, hm⟩ : ∃ m, m = l.length := ⟨_, rfl⟩
    have hls := h.ln
    rw [hls] at HV
    rw [← hm] at c1 h0 HV hn
    have h00 : (0 : Int) < (m : Int) := by omega
    rw [Nat.zero_mul] at k0
    have HE := Lib.hid (show topV (a :: s) = a.id ∧ topB (a :: s) = true from ⟨rfl, rfl⟩)
    rw [HE.out.1, HE.out.2]
    clear h h1 hm hls
    go_enter Try.func92, Try.ntmps92
    go_wp2_with fail
    refine HV.out.mono ?_
    rintro x w1 ⟨rfl, rfl⟩
    go_wp2
    go_ret2
    exact ⟨rfl, rfl⟩
/-- What a call that turns a heap leaves. -/
def TurnI (f : Nat) (bf : SV → SV → Bool) (w : World) (b : Nat) (D : Nat → Prop) (s : List (En SV)) (g : Int) (w' : World) : Prop := ∃ D', IH f bf w' b D' s g ∧ Fr D w w' ∧ ∀ k, D' k → D k ∨ w.heap.size ≤ k
theorem take_in (B : Bef valSV bf f) (b bm : Nat) (v : Value) (l s : List (En SV)) (g : Int) (w : World) (h : HI f bf w b bm v l s g) (i : Nat) (hi : i < l.length) :
    Calls Try.prog 93 #[.pointer (some ⟨b, 0, none⟩), .int .i64 i] w fun e w' => e = .returned (.tuple #[]) ∧ TurnI f bf w b (dom b bm v) (del (l.getD i default).id s) g w' := by
  refine (take_any f bf B b bm v l g w h.at_ h.hp i hi).mono ?_
  rintro e w' ⟨rfl, v', l', hv, ha, hh, hm, hl, hf⟩
  exact ⟨rfl, _, ⟨bm, v', l', rfl, h.took B.weak hi ha hh hm hl⟩, hf, fun k hk => .inl (by rw [dom_same hv] at hk; exact hk)⟩
theorem Pop_in (B : Bef valSV bf f) (b bm : Nat) (v : Value) (l s : List (En SV)) (g : Int) (w : World) (h : HI f bf w b bm v l s g) :
    Calls Try.prog 76 #[.pointer (some ⟨b, 0, none⟩)] w fun e w' => e = .returned (.tuple #[.int .i64 (topV s), .bool (topB s)]) ∧ TurnI f bf w b (dom b bm v) s.tail g w' := by
  have HT := Lib.hid (Top_in B.weak b bm v l s g w h)
  rcases s with _ | ⟨a, s⟩
  · have HE := Lib.hid (show topV ([] : List (En SV)) = 0 ∧ topB ([] : List (En SV)) = false from ⟨rfl, rfl⟩)
    rw [HE.out.1, HE.out.2] at HT
    rw [HE.out.1, HE.out.2]
    have HF := Lib.hid (show TurnI f bf w b (dom b bm v) ([] : List (En SV)) g w from ⟨_, ⟨bm, v, l, rfl, h⟩, Fr.refl _ _, fun k hk => .inl hk⟩)
    clear h
    go_enter Try.func76, Try.ntmps76
    go_wp2_with fail
    refine HT.out.mono ?_
    rintro x w1 ⟨rfl, rfl⟩
    go_wp2
    go_ret2
    exact ⟨rfl, HF.out⟩
  · have HE := Lib.hid (show topV (a :: s) = a.id ∧ topB (a :: s) = true from ⟨rfl, rfl⟩)
    rw [HE.out.1, HE.out.2] at HT
    rw [HE.out.1, HE.out.2]
    obtain ⟨h0, h1⟩ := h.head B.weak
    have HK := Lib.hid (take_in B b bm v l (a :: s) g w h 0 h0)
    rw [h1, del_head (h.nodup B.weak)] at HK
    clear h h0 h1
    go_enter Try.func76, Try.ntmps76
    go_wp2_with fail
    refine HT.out.mono ?_
    rintro x w1 ⟨rfl, rfl⟩
    go_wp2_with fail
    refine HK.out.mono ?_
    rintro x w1 ⟨rfl, ht⟩
    have HTT := Lib.hid ht
    clear ht
    go_wp2
    go_ret2
    exact ⟨rfl, HTT.out⟩
end
end Go.Proofs.Ytbndmelkdamgjaa.Sh
