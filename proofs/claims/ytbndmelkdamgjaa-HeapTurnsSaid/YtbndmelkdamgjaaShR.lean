/- The heap of pairs of strings: Push refused, Remove, Change, New. -/
import Derived.Test.YtbndmelkdamgjaaShQ
namespace Go.Proofs.Ytbndmelkdamgjaa.Sh
open Go.RowKit Go.Wk

theorem Push_old {f : Nat} {bf : SV → SV → Bool} (b bm : Nat) (v : Value) (l s : List (En SV)) (g : Int) (x : Int) (y : SV) (hx : fits x) (hxs : x ∈ ids s) (w : World) (h : HI f bf w b bm v l s g) :
    Calls Try.prog 43 #[.pointer (some ⟨b, 0, none⟩), .int .i64 x, .agg #[.string y.a, .string y.b]] w fun e w' => e = .returned (.int .i64 6) ∧ Fr No w w' := by
  obtain ⟨wv, hwv⟩ : ∃ wv, wv = w.alloc (.cells #[.string y.a, .string y.b] 59) := ⟨_, rfl⟩
  have FV := Lib.hid (show Fr No w wv by rw [hwv]; exact (Fr.refl No w).alloc _)
  replace h := h.fr0 FV.out
  have HWV := Lib.hid hwv
  clear hwv
  obtain ⟨c0, c1, c2, c3⟩ := h.at_.cells
  have HV := Lib.hid (made_cell b wv c0)
  have HHAS := Lib.hid (Has_in b bm _ l s g x hx wv h)
  have hdx : decide (x ∈ ids s) = true := by simpa using hxs
  rw [hdx] at HHAS
  clear h hdx
  go_enter Try.func43, Try.ntmps43
  go_wp2_with fail
  rw [← HWV.out]
  refine HV.out.mono ?_
  rintro e w0 ⟨rfl, rfl⟩
  go_wp2_with fail
  refine HHAS.out.mono ?_
  rintro e w0 ⟨rfl, rfl⟩
  go_wp2
  go_ret
  exact ⟨rfl, FV.out⟩
theorem TurnI.trans {f : Nat} {bf : SV → SV → Bool} {w w1 w2 : World} {b : Nat} {D D1 : Nat → Prop} {s2 : List (En SV)} {g2 : Int} (hf : Fr D w w1) (hd : ∀ k, D1 k → D k ∨ w.heap.size ≤ k) (h2 : TurnI f bf w1 b D1 s2 g2 w2) : TurnI f bf w b D s2 g2 w2 := by
  obtain ⟨D2, h2, hf2, hd2⟩ := h2
  refine ⟨D2, h2, hf.trans hf2 (fun k hk h1 => ?_), fun k hk => ?_⟩
  · rcases hd k h1 with h1 | h1
    · exact h1
    · omega
  · rcases hd2 k hk with h1 | h1
    · exact hd k h1
    · have := hf.size; right; omega
/-! ### The calls, by the entries in order -/
section
variable {f : Nat} {bf : SV → SV → Bool} {b : Nat} {D : Nat → Prop} {s : List (En SV)} {g : Int} {w : World}
theorem iLen (h : IH f bf w b D s g) : Calls Try.prog 75 #[.pointer (some ⟨b, 0, none⟩)] w fun e w' => e = .returned (.int .i64 s.length) ∧ w = w' := by
  obtain ⟨bm, v, l, rfl, h⟩ := h
  exact Len_in b bm v l s g w h
theorem iHas (h : IH f bf w b D s g) (x : Int) (hx : fits x) : Calls Try.prog 72 #[.pointer (some ⟨b, 0, none⟩), .int .i64 x] w fun e w' => e = .returned (.bool (decide (x ∈ ids s))) ∧ w = w' := by
  obtain ⟨bm, v, l, rfl, h⟩ := h
  exact Has_in b bm v l s g x hx w h
theorem iTop (hw : Weak bf) (h : IH f bf w b D s g) : Calls Try.prog 92 #[.pointer (some ⟨b, 0, none⟩)] w fun e w' => e = .returned (.tuple #[.int .i64 (topV s), .bool (topB s)]) ∧ w = w' := by
  obtain ⟨bm, v, l, rfl, h⟩ := h
  exact Top_in hw b bm v l s g w h
theorem iPop (B : Bef valSV bf f) (h : IH f bf w b D s g) : Calls Try.prog 76 #[.pointer (some ⟨b, 0, none⟩)] w fun e w' => e = .returned (.tuple #[.int .i64 (topV s), .bool (topB s)]) ∧ TurnI f bf w b D s.tail g w' := by
  obtain ⟨bm, v, l, rfl, h⟩ := h
  exact Pop_in B b bm v l s g w h
theorem iPush (B : Bef valSV bf f) (h : IH f bf w b D s g) (x : Int) (y : SV) (hx : fits x) (hxs : x ∉ ids s) (hg : g < 1000000000) : Calls Try.prog 43 #[.pointer (some ⟨b, 0, none⟩), .int .i64 x, .agg #[.string y.a, .string y.b]] w fun e w' => e = .returned (.int .i64 0) ∧ TurnI f bf w b D (ins bf ⟨x, y, g⟩ s) (g + 1) w' := by
  obtain ⟨bm, v, l, rfl, h⟩ := h
  exact Push_new B b bm v l s g x y hx hxs hg w h
theorem iPushOld (h : IH f bf w b D s g) (x : Int) (y : SV) (hx : fits x) (hxs : x ∈ ids s) : Calls Try.prog 43 #[.pointer (some ⟨b, 0, none⟩), .int .i64 x, .agg #[.string y.a, .string y.b]] w fun e w' => e = .returned (.int .i64 6) ∧ Fr No w w' := by
  obtain ⟨bm, v, l, rfl, h⟩ := h
  exact Push_old b bm v l s g x y hx hxs w h
theorem ids_del_not (x : Int) (s : List (En SV)) : x ∉ ids (del x s) := by
  rw [ids_del]; simp
end
/-- A heap that is new. -/
def NewI (f : Nat) (bf : SV → SV → Bool) (w : World) (s : List (En SV)) (g : Int) (e : Ending) (w' : World) : Prop := ∃ b D, e = .returned (.pointer (some ⟨b, 0, none⟩)) ∧ IH f bf w' b D s g ∧ (∀ k, D k → w.heap.size ≤ k) ∧ Fr No w w'
theorem New_raw (f : Nat) (w : World) : Calls Try.prog 41 #[.func (.func f) #[] #[]] w fun e w' => e = .returned (.pointer (some ⟨w.heap.size + 1, 0, none⟩)) ∧ w' = (w.alloc (.map #[] 0)).alloc (.cells #[.func (.func f) #[] #[], .slice none 0 0, .map (some w.heap.size), .int .i64 0] 98) := by
  have heq := fun (w : World) => run_eql_func_nil (P := Try.prog) w 60 (.func f) #[] #[] Try.underlying60
  have hmm := @run_makeMap Try.prog
  go_enter Try.func41, Try.ntmps41
  go_wp2
  go_ret
  exact ⟨rfl, rfl⟩
theorem New_av (f : Nat) (w : World) : AI f ((w.alloc (.map #[] 0)).alloc (.cells #[.func (.func f) #[] #[], .slice none 0 0, .map (some w.heap.size), .int .i64 0] 98)) (w.heap.size + 1) w.heap.size (.slice none 0 0) [] 0 := by
  refine ⟨?_, own_nil _ _ _ _, ⟨fun _ => none, ?_, PlaceOf.nil⟩, ⟨fun e he => (by cases he), fun e he => (by cases he), fun e he => (by cases he), Int.le_refl _, by decide⟩, by decide⟩
  · have := Blk.new (w.alloc (.map #[] 0)) 98 #[.func (.func f) #[] #[], .slice none 0 0, .map (some w.heap.size), .int .i64 0]
    rwa [World.size_alloc] at this
  · exact (MapF.made w Try.prog 3).fr ((Fr.refl No _).alloc _) (fun x => x)
theorem New_any {f : Nat} {bf : SV → SV → Bool} (w : World) : Calls Try.prog 41 #[.func (.func f) #[] #[]] w fun e w' => NewI f bf w [] 0 e w' := by
  refine (New_raw f w).mono ?_
  rintro e w' ⟨rfl, rfl⟩
  refine ⟨_, _, rfl, ⟨w.heap.size, .slice none 0 0, [], rfl, New_av f w, fun j _ h => by simp at h, List.Pairwise.nil, fun _ => Iff.rfl, rfl⟩, fun k hk => ?_, ((Fr.refl No w).alloc _).alloc _⟩
  rcases hk with rfl | rfl | hk
  · omega
  · exact Nat.le_refl _
  · simp [Value.ownBlock] at hk
end Go.Proofs.Ytbndmelkdamgjaa.Sh
