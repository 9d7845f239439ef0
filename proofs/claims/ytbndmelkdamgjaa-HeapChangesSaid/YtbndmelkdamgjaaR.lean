/- The heap of integers: Push refused, Remove, Change, New. -/
import Derived.Test.YtbndmelkdamgjaaQ
namespace Go.Proofs.Ytbndmelkdamgjaa
open Go.RowKit Go.Wk

theorem Push_old {f : Nat} {bf : Int → Int → Bool} (b bm : Nat) (v : Value) (l s : List (En Int)) (g : Int) (x y : Int) (hx : fits x) (hxs : x ∈ ids s) (w : World) (h : HI f bf w b bm v l s g) :
    Calls Try.prog 32 #[.pointer (some ⟨b, 0, none⟩), .int .i64 x, .int .i64 y] w fun e w' => e = .returned (.int .i64 6) ∧ w = w' := by
  obtain ⟨c0, c1, c2, c3⟩ := h.at_.cells
  have HV := Lib.hid (made_cell b w c0)
  have HHAS := Lib.hid (Has_in b bm _ l s g x hx w h)
  have hdx : decide (x ∈ ids s) = true := by simpa using hxs
  rw [hdx] at HHAS
  clear h hdx
  go_enter Try.func32, Try.ntmps32
  go_wp2_with fail
  refine HV.out.mono ?_
  rintro e w0 ⟨rfl, rfl⟩
  go_wp2_with fail
  refine HHAS.out.mono ?_
  rintro e w0 ⟨rfl, rfl⟩
  go_wp2
  go_ret
  exact ⟨rfl, rfl⟩
theorem Remove_no {f : Nat} {bf : Int → Int → Bool} (b bm : Nat) (v : Value) (l s : List (En Int)) (g : Int) (x : Int) (hx : fits x) (hxs : x ∉ ids s) (w : World) (h : HI f bf w b bm v l s g) :
    Calls Try.prog 35 #[.pointer (some ⟨b, 0, none⟩), .int .i64 x] w fun e w' => e = .returned (.int .i64 5) ∧ w = w' := by
  obtain ⟨c0, c1, c2, c3⟩ := h.at_.cells
  have HV := Lib.hid (made_cell b w c0)
  obtain ⟨fm, hm, hp⟩ := h.at_.mp
  have hl := hm.look_ok Try.underlying3 Try.underlying43 (zeroI w) hx
  rw [h.has hp] at hl
  have hdx : decide (x ∈ ids s) = false := by simpa using hxs
  rw [hdx] at hl
  generalize (fm x).getD 0 = p at *
  clear h hp hm hdx
  go_enter Try.func35, Try.ntmps35
  go_wp2_with fail
  refine HV.out.mono ?_
  rintro x w1 ⟨rfl, rfl⟩
  go_wp2
  go_ret
  exact ⟨rfl, rfl⟩
theorem Remove_yes {f : Nat} {bf : Int → Int → Bool} (B : Bef (Value.int .i64) bf f) (b bm : Nat) (v : Value) (l s : List (En Int)) (g : Int) (x : Int) (hx : fits x) (hxs : x ∈ ids s) (w : World) (h : HI f bf w b bm v l s g) :
    Calls Try.prog 35 #[.pointer (some ⟨b, 0, none⟩), .int .i64 x] w fun e w' => e = .returned (.int .i64 0) ∧ TurnI f bf w b (dom b bm v) (del x s) g w' := by
  obtain ⟨c0, c1, c2, c3⟩ := h.at_.cells
  have HV := Lib.hid (made_cell b w c0)
  obtain ⟨fm, hm, hp⟩ := h.at_.mp
  have hl := hm.look_ok Try.underlying3 Try.underlying43 (zeroI w) hx
  have hsm := h.has hp x
  have hdx : decide (x ∈ ids s) = true := by simpa using hxs
  rw [hdx] at hsm
  cases hfx : fm x with
  | none => rw [hfx] at hsm; cases hsm
  | some q =>
    obtain ⟨i, hi, hid, rfl⟩ := (hp x q).1 hfx
    have HK := Lib.hid (take_in B b bm v l s g w h i hi)
    rw [hid] at HK
    rw [hfx] at hl
    simp only [Option.getD_some, Option.isSome_some] at hl
    clear h hp hm hdx hsm hfx
    go_enter Try.func35, Try.ntmps35
    go_wp2_with fail
    refine HV.out.mono ?_
    rintro x w1 ⟨rfl, rfl⟩
    go_wp2_with fail
    refine HK.out.mono ?_
    rintro x w1 ⟨rfl, ht⟩
    have HT := Lib.hid ht
    clear ht
    go_wp2
    go_ret
    exact ⟨rfl, HT.out⟩
theorem TurnI.trans {f : Nat} {bf : Int → Int → Bool} {w w1 w2 : World} {b : Nat} {D D1 : Nat → Prop} {s2 : List (En Int)} {g2 : Int} (hf : Fr D w w1) (hd : ∀ k, D1 k → D k ∨ w.heap.size ≤ k) (h2 : TurnI f bf w1 b D1 s2 g2 w2) : TurnI f bf w b D s2 g2 w2 := by
  obtain ⟨D2, h2, hf2, hd2⟩ := h2
  refine ⟨D2, h2, hf.trans hf2 (fun k hk h1 => ?_), fun k hk => ?_⟩
  · rcases hd k h1 with h1 | h1
    · exact h1
    · omega
  · rcases hd2 k hk with h1 | h1
    · exact hd k h1
    · have := hf.size; right; omega
/-! ### The calls, by the entries in order -/
section
variable {f : Nat} {bf : Int → Int → Bool} {b : Nat} {D : Nat → Prop} {s : List (En Int)} {g : Int} {w : World}
theorem iLen (h : IH f bf w b D s g) : Calls Try.prog 38 #[.pointer (some ⟨b, 0, none⟩)] w fun e w' => e = .returned (.int .i64 s.length) ∧ w = w' := by
  obtain ⟨bm, v, l, rfl, h⟩ := h
  exact Len_in b bm v l s g w h
theorem iHas (h : IH f bf w b D s g) (x : Int) (hx : fits x) : Calls Try.prog 48 #[.pointer (some ⟨b, 0, none⟩), .int .i64 x] w fun e w' => e = .returned (.bool (decide (x ∈ ids s))) ∧ w = w' := by
  obtain ⟨bm, v, l, rfl, h⟩ := h
  exact Has_in b bm v l s g x hx w h
theorem iTop (hw : Weak bf) (h : IH f bf w b D s g) : Calls Try.prog 37 #[.pointer (some ⟨b, 0, none⟩)] w fun e w' => e = .returned (.tuple #[.int .i64 (topV s), .bool (topB s)]) ∧ w = w' := by
  obtain ⟨bm, v, l, rfl, h⟩ := h
  exact Top_in hw b bm v l s g w h
theorem iPop (B : Bef (Value.int .i64) bf f) (h : IH f bf w b D s g) : Calls Try.prog 36 #[.pointer (some ⟨b, 0, none⟩)] w fun e w' => e = .returned (.tuple #[.int .i64 (topV s), .bool (topB s)]) ∧ TurnI f bf w b D s.tail g w' := by
  obtain ⟨bm, v, l, rfl, h⟩ := h
  exact Pop_in B b bm v l s g w h
theorem iPush (B : Bef (Value.int .i64) bf f) (h : IH f bf w b D s g) (x y : Int) (hx : fits x) (hxs : x ∉ ids s) (hg : g < 1000000000) : Calls Try.prog 32 #[.pointer (some ⟨b, 0, none⟩), .int .i64 x, .int .i64 y] w fun e w' => e = .returned (.int .i64 0) ∧ TurnI f bf w b D (ins bf ⟨x, y, g⟩ s) (g + 1) w' := by
  obtain ⟨bm, v, l, rfl, h⟩ := h
  exact Push_new B b bm v l s g x y hx hxs hg w h
theorem iPushOld (h : IH f bf w b D s g) (x y : Int) (hx : fits x) (hxs : x ∈ ids s) : Calls Try.prog 32 #[.pointer (some ⟨b, 0, none⟩), .int .i64 x, .int .i64 y] w fun e w' => e = .returned (.int .i64 6) ∧ w = w' := by
  obtain ⟨bm, v, l, rfl, h⟩ := h
  exact Push_old b bm v l s g x y hx hxs w h
theorem iRemoveNo (h : IH f bf w b D s g) (x : Int) (hx : fits x) (hxs : x ∉ ids s) : Calls Try.prog 35 #[.pointer (some ⟨b, 0, none⟩), .int .i64 x] w fun e w' => e = .returned (.int .i64 5) ∧ w = w' := by
  obtain ⟨bm, v, l, rfl, h⟩ := h
  exact Remove_no b bm v l s g x hx hxs w h
theorem iRemove (B : Bef (Value.int .i64) bf f) (h : IH f bf w b D s g) (x : Int) (hx : fits x) (hxs : x ∈ ids s) : Calls Try.prog 35 #[.pointer (some ⟨b, 0, none⟩), .int .i64 x] w fun e w' => e = .returned (.int .i64 0) ∧ TurnI f bf w b D (del x s) g w' := by
  obtain ⟨bm, v, l, rfl, h⟩ := h
  exact Remove_yes B b bm v l s g x hx hxs w h
theorem ids_del_not (x : Int) (s : List (En Int)) : x ∉ ids (del x s) := by
  rw [ids_del]; simp
theorem iChange (B : Bef (Value.int .i64) bf f) (h : IH f bf w b D s g) (x y : Int) (hx : fits x) (hxs : x ∈ ids s) (hg : g < 1000000000) : Calls Try.prog 34 #[.pointer (some ⟨b, 0, none⟩), .int .i64 x, .int .i64 y] w fun e w' => e = .returned (.int .i64 0) ∧ TurnI f bf w b D (ins bf ⟨x, y, g⟩ (del x s)) (g + 1) w' := by
  have HR := Lib.hid (iRemove B h x hx hxs)
  have HB := Lib.hid B
  have HX := Lib.hid hx
  have HG := Lib.hid hg
  clear h hxs B hx hg
  go_enter Try.func34, Try.ntmps34
  go_wp2_with fail
  refine HR.out.mono ?_
  rintro e w1 ⟨rfl, D1, h1, hf1, hd1⟩
  have HF1 := Lib.hid hf1
  have HD1 := Lib.hid hd1
  have HP := Lib.hid (iPush HB.out h1 x y HX.out (ids_del_not x s) HG.out)
  clear h1 hf1 hd1
  go_wp2_with fail
  refine HP.out.mono ?_
  rintro e w2 ⟨rfl, ht⟩
  have HT := Lib.hid (TurnI.trans HF1.out HD1.out ht)
  clear ht
  go_wp2
  go_ret
  exact ⟨rfl, HT.out⟩
theorem iChangeNo (h : IH f bf w b D s g) (x y : Int) (hx : fits x) (hxs : x ∉ ids s) : Calls Try.prog 34 #[.pointer (some ⟨b, 0, none⟩), .int .i64 x, .int .i64 y] w fun e w' => e = .returned (.int .i64 5) ∧ w = w' := by
  have HR := Lib.hid (iRemoveNo h x hx hxs)
  clear h hxs hx
  go_enter Try.func34, Try.ntmps34
  go_wp2_with fail
  refine HR.out.mono ?_
  rintro e w1 ⟨rfl, rfl⟩
  go_wp2
  go_ret
  exact ⟨rfl, rfl⟩
end
/-- A heap that is new. -/
def NewI (f : Nat) (bf : Int → Int → Bool) (w : World) (s : List (En Int)) (g : Int) (e : Ending) (w' : World) : Prop := ∃ b D, e = .returned (.pointer (some ⟨b, 0, none⟩)) ∧ IH f bf w' b D s g ∧ (∀ k, D k → w.heap.size ≤ k) ∧ Fr No w w'
theorem New_raw (f : Nat) (w : World) : Calls Try.prog 30 #[.func (.func f) #[] #[]] w fun e w' => e = .returned (.pointer (some ⟨w.heap.size + 1, 0, none⟩)) ∧ w' = (w.alloc (.map #[] 0)).alloc (.cells #[.func (.func f) #[] #[], .slice none 0 0, .map (some w.heap.size), .int .i64 0] 93) := by
  have heq := fun (w : World) => run_eql_func_nil (P := Try.prog) w 54 (.func f) #[] #[] Try.underlying54
  have hmm := @run_makeMap Try.prog
  go_enter Try.func30, Try.ntmps30
  go_wp2
  go_ret
  exact ⟨rfl, rfl⟩
theorem New_av (f : Nat) (w : World) : AI f ((w.alloc (.map #[] 0)).alloc (.cells #[.func (.func f) #[] #[], .slice none 0 0, .map (some w.heap.size), .int .i64 0] 93)) (w.heap.size + 1) w.heap.size (.slice none 0 0) [] 0 := by
  refine ⟨?_, own_nil _ _ _ _, ⟨fun _ => none, ?_, PlaceOf.nil⟩, ⟨fun e he => (by cases he), fun e he => (by cases he), fun e he => (by cases he), Int.le_refl _, by decide⟩, by decide⟩
  · have := Blk.new (w.alloc (.map #[] 0)) 93 #[.func (.func f) #[] #[], .slice none 0 0, .map (some w.heap.size), .int .i64 0]
    rwa [World.size_alloc] at this
  · exact (MapF.made w Try.prog 3).fr ((Fr.refl No _).alloc _) (fun x => x)
theorem New_any {f : Nat} {bf : Int → Int → Bool} (w : World) : Calls Try.prog 30 #[.func (.func f) #[] #[]] w fun e w' => NewI f bf w [] 0 e w' := by
  refine (New_raw f w).mono ?_
  rintro e w' ⟨rfl, rfl⟩
  refine ⟨_, _, rfl, ⟨w.heap.size, .slice none 0 0, [], rfl, New_av f w, fun j _ h => by simp at h, List.Pairwise.nil, fun _ => Iff.rfl, rfl⟩, fun k hk => ?_, ((Fr.refl No w).alloc _).alloc _⟩
  rcases hk with rfl | rfl | hk
  · omega
  · exact Nat.le_refl _
  · simp [Value.ownBlock] at hk
end Go.Proofs.Ytbndmelkdamgjaa
