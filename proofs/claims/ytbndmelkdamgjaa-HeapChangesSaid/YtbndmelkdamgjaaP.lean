/- The heap of integers: made, Len, Has, Top, Pop, Remove, New. -/
import Derived.Test.YtbndmelkdamgjaaN
import Derived.Test.YtbndmelkdamgjaaO
namespace Go.Wk
open Go.RowKit
section
variable {P : Program}
theorem eqIn_func_nil (w : World) (d : Nat) (t : TypeId) {ps rs : Array TypeId} {va : Bool} (fn : Fn) (first cs : Array Value) (h : P.underlying t = some (.func ps rs va)) : (Op.equalIn (d + 1) t (.func fn first cs) .nilFunc).run P w = .ok false w := by
  simp [Op.equalIn, run_underlying h]
theorem eqIn_nilfunc_nil (w : World) (d : Nat) (t : TypeId) {ps rs : Array TypeId} {va : Bool} (h : P.underlying t = some (.func ps rs va)) : (Op.equalIn (d + 1) t .nilFunc .nilFunc).run P w = .ok true w := by
  simp [Op.equalIn, run_underlying h]
theorem run_eql_func_nil (w : World) (t : TypeId) {ps rs : Array TypeId} {va : Bool} (fn : Fn) (first cs : Array Value) (h : P.underlying t = some (.func ps rs va)) : (binOp .eql t (.func fn first cs) .nilFunc).run P w = .ok (.bool false) w := by
  simp only [binOp]
  simp [Op.equal, Op.maxDepth, eqIn_func_nil w 9999 t fn first cs h]
theorem run_eql_nilfunc_nil (w : World) (t : TypeId) {ps rs : Array TypeId} {va : Bool} (h : P.underlying t = some (.func ps rs va)) : (binOp .eql t .nilFunc .nilFunc).run P w = .ok (.bool true) w := by
  simp only [binOp]
  simp [Op.equal, Op.maxDepth, eqIn_nilfunc_nil w 9999 t h]
theorem run_neq_func_nil (w : World) (t : TypeId) {ps rs : Array TypeId} {va : Bool} (fn : Fn) (first cs : Array Value) (h : P.underlying t = some (.func ps rs va)) : (binOp .neq t (.func fn first cs) .nilFunc).run P w = .ok (.bool true) w := by
  simp only [binOp]
  simp [Op.equal, Op.maxDepth, eqIn_func_nil w 9999 t fn first cs h]
theorem run_neq_nilfunc_nil (w : World) (t : TypeId) {ps rs : Array TypeId} {va : Bool} (h : P.underlying t = some (.func ps rs va)) : (binOp .neq t .nilFunc .nilFunc).run P w = .ok (.bool false) w := by
  simp only [binOp]
  simp [Op.equal, Op.maxDepth, eqIn_nilfunc_nil w 9999 t h]
end
end Go.Wk
namespace Go.Proofs.Ytbndmelkdamgjaa
open Go.RowKit Go.Wk
abbrev HI (f : Nat) (bf : Int → Int → Bool) := HIn (V := Int) 93 95 CI (.func (.func f) #[] #[]) bf
/-- A heap of integers. -/
abbrev IH (f : Nat) (bf : Int → Int → Bool) := HAt (V := Int) 93 95 CI (.func (.func f) #[] #[]) bf
section
variable {f : Nat} {bf : Int → Int → Bool}
theorem made_cell (b : Nat) (w : World) (h : w.cell? ⟨b, 0, none⟩ = some (.func (.func f) #[] #[])) : Calls Try.prog 68 #[.pointer (some ⟨b, 0, none⟩)] w fun e w' => e = .returned (.bool true) ∧ w = w' := by
  have heq := fun (w : World) => run_neq_func_nil (P := Try.prog) w 54 (.func f) #[] #[] Try.underlying54
  go_enter Try.func68, Try.ntmps68
  go_wp2
  go_ret
  exact ⟨rfl, rfl⟩
theorem Len_in (b bm : Nat) (v : Value) (l s : List (En Int)) (g : Int) (w : World) (h : HI f bf w b bm v l s g) : Calls Try.prog 38 #[.pointer (some ⟨b, 0, none⟩)] w fun e w' => e = .returned (.int .i64 s.length) ∧ w = w' := by
  obtain ⟨c0, c1, c2, c3⟩ := h.at_.cells
  obtain ⟨A, c, rfl⟩ := h.at_.form
  have HV := Lib.hid (made_cell b w c0)
  rw [h.ln]
  clear h
  go_enter Try.func38, Try.ntmps38
  go_wp2_with fail
  refine HV.out.mono ?_
  rintro x w1 ⟨rfl, rfl⟩
  go_wp2
  go_ret
  exact ⟨rfl, rfl⟩
theorem Has_in (b bm : Nat) (v : Value) (l s : List (En Int)) (g : Int) (x : Int) (hx : fits x) (w : World) (h : HI f bf w b bm v l s g) : Calls Try.prog 48 #[.pointer (some ⟨b, 0, none⟩), .int .i64 x] w fun e w' => e = .returned (.bool (decide (x ∈ ids s))) ∧ w = w' := by
  obtain ⟨c0, c1, c2, c3⟩ := h.at_.cells
  have HV := Lib.hid (made_cell b w c0)
  obtain ⟨fm, hm, hp⟩ := h.at_.mp
  have hl := hm.look_ok Try.underlying3 Try.underlying43 (zeroI w) hx
  rw [h.has hp] at hl
  generalize (fm x).getD 0 = p at *
  generalize decide (x ∈ ids s) = ok at *
  clear h hp hm
  go_enter Try.func48, Try.ntmps48
  go_wp2_with fail
  refine HV.out.mono ?_
  rintro x w1 ⟨rfl, rfl⟩
  go_wp2
  go_ret
  exact ⟨rfl, rfl⟩
def topV {V : Type} (s : List (En V)) : Int := match s with | [] => 0 | a :: _ => a.id
def topB {V : Type} (s : List (En V)) : Bool := !s.isEmpty
theorem Top_in (hw : Weak bf) (b bm : Nat) (v : Value) (l s : List (En Int)) (g : Int) (w : World) (h : HI f bf w b bm v l s g) : Calls Try.prog 37 #[.pointer (some ⟨b, 0, none⟩)] w fun e w' => e = .returned (.tuple #[.int .i64 (topV s), .bool (topB s)]) ∧ w = w' := by
  obtain ⟨c0, c1, c2, c3⟩ := h.at_.cells
  have HV := Lib.hid (Len_in b bm v l s g w h)
  rcases s with _ | ⟨a, s⟩
  · clear h
    go_enter Try.func37, Try.ntmps37
    go_wp2_with fail
    refine HV.out.mono ?_
    rintro x w1 ⟨rfl, rfl⟩
    go_wp2
    go_ret2
    exact ⟨rfl, rfl⟩
  · obtain ⟨h0, h1⟩ := h.head hw
    obtain ⟨G, c, rfl, hG, k0, _, _⟩ := AI.item h.at_ h0
    rw [h1] at k0
    have hn := h.at_.ok.n
    have hg := h.at_.ok.g
    obtain ⟨m, hm⟩ : ∃ m, m = l.length := ⟨_, rfl⟩
    have hls := h.ln
    rw [hls] at HV
    rw [← hm] at c1 h0 HV hn
    have h00 : (0 : Int) < (m : Int) := by omega
    rw [Nat.zero_mul] at k0
    have HE := Lib.hid (show topV (a :: s) = a.id ∧ topB (a :: s) = true from ⟨rfl, rfl⟩)
    rw [HE.out.1, HE.out.2]
    clear h h1 hm hls
    go_enter Try.func37, Try.ntmps37
    go_wp2_with fail
    refine HV.out.mono ?_
    rintro x w1 ⟨rfl, rfl⟩
    go_wp2
    go_ret2
    exact ⟨rfl, rfl⟩
/-- What a call that turns a heap leaves. -/
def TurnI (f : Nat) (bf : Int → Int → Bool) (w : World) (b : Nat) (D : Nat → Prop) (s : List (En Int)) (g : Int) (w' : World) : Prop := ∃ D', IH f bf w' b D' s g ∧ Fr D w w' ∧ ∀ k, D' k → D k ∨ w.heap.size ≤ k
theorem dom_same {b bm : Nat} {v v' : Value} (h : v'.ownBlock = v.ownBlock) : dom b bm v' = dom b bm v := by unfold dom; rw [h]
theorem take_in (B : Bef (Value.int .i64) bf f) (b bm : Nat) (v : Value) (l s : List (En Int)) (g : Int) (w : World) (h : HI f bf w b bm v l s g) (i : Nat) (hi : i < l.length) :
    Calls Try.prog 70 #[.pointer (some ⟨b, 0, none⟩), .int .i64 i] w fun e w' => e = .returned (.tuple #[]) ∧ TurnI f bf w b (dom b bm v) (del (l.getD i default).id s) g w' := by
  refine (take_any f bf B b bm v l g w h.at_ h.hp i hi).mono ?_
  rintro e w' ⟨rfl, v', l', hv, ha, hh, hm, hl, hf⟩
  exact ⟨rfl, _, ⟨bm, v', l', rfl, h.took B.weak hi ha hh hm hl⟩, hf, fun k hk => .inl (by rw [dom_same hv] at hk; exact hk)⟩
theorem Pop_in (B : Bef (Value.int .i64) bf f) (b bm : Nat) (v : Value) (l s : List (En Int)) (g : Int) (w : World) (h : HI f bf w b bm v l s g) :
    Calls Try.prog 36 #[.pointer (some ⟨b, 0, none⟩)] w fun e w' => e = .returned (.tuple #[.int .i64 (topV s), .bool (topB s)]) ∧ TurnI f bf w b (dom b bm v) s.tail g w' := by
  have HT := Lib.hid (Top_in B.weak b bm v l s g w h)
  rcases s with _ | ⟨a, s⟩
  · have HE := Lib.hid (show topV ([] : List (En Int)) = 0 ∧ topB ([] : List (En Int)) = false from ⟨rfl, rfl⟩)
    rw [HE.out.1, HE.out.2] at HT
    rw [HE.out.1, HE.out.2]
    have HF := Lib.hid (show TurnI f bf w b (dom b bm v) ([] : List (En Int)) g w from ⟨_, ⟨bm, v, l, rfl, h⟩, Fr.refl _ _, fun k hk => .inl hk⟩)
    clear h
    go_enter Try.func36, Try.ntmps36
    go_wp2_with fail
    refine HT.out.mono ?_
    rintro x w1 ⟨rfl, rfl⟩
    go_wp2
    go_ret2
    exact ⟨rfl, HF.out⟩
  · have HE := Lib.hid (show topV (a :: s) = a.id ∧ topB (a :: s) = true from ⟨rfl, rfl⟩)
    rw [HE.out.1, HE.out.2] at HT
    rw [HE.out.1, HE.out.2]
    obtain ⟨h0, h1⟩ := h.head B.weak
    have HK := Lib.hid (take_in B b bm v l (a :: s) g w h 0 h0)
    rw [h1, del_head (h.nodup B.weak)] at HK
    clear h h0 h1
    go_enter Try.func36, Try.ntmps36
    go_wp2_with fail
    refine HT.out.mono ?_
    rintro x w1 ⟨rfl, rfl⟩
    go_wp2_with fail
    refine HK.out.mono ?_
    rintro x w1 ⟨rfl, ht⟩
    have HTT := Lib.hid ht
    clear ht
    go_wp2
    go_ret2
    exact ⟨rfl, HTT.out⟩
end
end Go.Proofs.Ytbndmelkdamgjaa
