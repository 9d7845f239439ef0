/- The contract of Pick, for any function. -/
import Derived.Test.YtcjcoigjedcieaaN

import Derived.WalkSpells
namespace Go.Wk
open Go.RowKit
variable {P : Program}
theorem eqIn_func_nil (w : World) (d : Nat) (t : TypeId) {ps rs : Array TypeId} {va : Bool} (fn : Fn) (first cs : Array Value) (h : P.underlying t = some (.func ps rs va)) : (Op.equalIn (d + 1) t (.func fn first cs) .nilFunc).run P w = .ok false w := by
  simp [Op.equalIn, run_underlying h]
theorem eqIn_nilfunc_nil (w : World) (d : Nat) (t : TypeId) {ps rs : Array TypeId} {va : Bool} (h : P.underlying t = some (.func ps rs va)) : (Op.equalIn (d + 1) t .nilFunc .nilFunc).run P w = .ok true w := by
  simp [Op.equalIn, run_underlying h]
theorem run_eql_func_nil (w : World) (t : TypeId) {ps rs : Array TypeId} {va : Bool} (fn : Fn) (first cs : Array Value) (h : P.underlying t = some (.func ps rs va)) : (binOp .eql t (.func fn first cs) .nilFunc).run P w = .ok (.bool false) w := by
  simp only [binOp]
  simp [Op.equal, Op.maxDepth, eqIn_func_nil w 9999 t fn first cs h]
theorem run_eql_nilfunc_nil (w : World) (t : TypeId) {ps rs : Array TypeId} {va : Bool} (h : P.underlying t = some (.func ps rs va)) : (binOp .eql t .nilFunc .nilFunc).run P w = .ok (.bool true) w := by
  simp only [binOp]
  simp [Op.equal, Op.maxDepth, eqIn_nilfunc_nil w 9999 t h]
end Go.Wk
namespace Go.Proofs.Ytcjcoigjedcieaa
open Go.RowKit Go.Wk

/-- What Pick leaves: the worlds of the calls of the function are told by I. -/
def PickR (b bm : Nat) (v : Value) (s : QS) (p : Int → Bool) (I : Nat → World → Prop) (e : Ending) (w' : World) : Prop :=
  ∃ X, I (min (pickN p s.l + 1) s.l.length) X ∧ Turned X b bm v (pickS p s) (.tuple #[.int .i64 (pickV p s), .bool (pickB p s)]) e w'

set_option maxRecDepth 100000 in
set_option maxHeartbeats 4000000 in
theorem Pick_any (f : Nat) (cs : Array Value) (p : Int → Bool) (I : Nat → World → Prop) (E : Nat → Prop) (b bm : Nat) (v : Value) (s : QS) (w : World) (h : QV w b bm v s) (hI0 : I 0 w) (hIE : ∀ k X, I k X → Fr E w X) (hE : ∀ k, dom b bm v k → ¬ E k)
    (hent : ∀ (args : Array Value) (w : World), (callFunc f args).run Try.prog w = .ok (.enter f args) w)
    (hcall : ∀ k X o, k < s.l.length → I k X → Calls Try.prog f (#[.int .i64 (s.l.getD k IV.zero).id] ++ cs) (X.alloc o) (fun e X' => e = .returned (.bool (p (s.l.getD k IV.zero).id)) ∧ I (k + 1) X' ∧ X.heap.size < X'.heap.size ∧ X'.heap[X.heap.size]? = some o)) :
    Calls Try.prog 23 #[.pointer (some ⟨b, 0, none⟩), .func (.func f) #[] cs] w (PickR b bm v s p I) := by
  obtain ⟨A, c, rfl, _⟩ := h.form
  obtain ⟨c0, c1, c2, c3, c4⟩ := h.cells
  have HV := Lib.hid (made_any b bm _ s w h)
  have heq := fun (w : World) => run_eql_func_nil (P := Try.prog) w 34 (.func f) #[] cs Try.underlying34
  have HH := Lib.hid h
  have HC := Lib.hid hcall
  have HI := Lib.hid hIE
  have HI0 := Lib.hid hI0
  have HE := Lib.hid hE
  have HN := Lib.hid (fun i h0 h1 h2 => pickN_eq (p := p) (l := s.l) (i := i) h0 h1 h2)
  have hlen := h.ok.n
  clear h hcall hIE hI0 hE
  go_enter Try.func23, Try.ntmps23
  go_wp2_with fail
  refine HV.out.mono ?_
  rintro e w0 ⟨rfl, rfl⟩
  go_wp2
  go_loopw [20] (fun i wr => ∃ k : Nat, i = .int .i64 k ∧ k ≤ s.l.length ∧ Hid (I k wr) ∧ Hid (∀ j, j < k → p (s.l.getD j IV.zero).id = false)) (fun i _ => s.l.length - (intOf i).toNat)
  case atStart => exact ⟨0, rfl, Nat.zero_le _, HI0, Lib.hid (fun j hj => by omega)⟩
  case round =>
    obtain ⟨k, rfl, hk, HK, HP⟩ := hrel
    have HVk := Lib.hid (HH.out.fr (HI.out k wr HK.out) HE.out)
    by_cases hlt : k < s.l.length
    · obtain ⟨g, rfl, hg, d0, d1, d2, d3⟩ := HVk.out.qp.item hlt
      have HCk := Lib.hid (fun o => HC.out k wr o hlt HK.out)
      have hlt2 : (k : Int) < (s.l.length : Int) := by omega
      obtain ⟨x, hx⟩ : ∃ x, x = s.l.getD k IV.zero := ⟨_, rfl⟩
      rw [← hx] at d0 d1 d2 d3 HCk
      have HX := Lib.hid hx
      clear hx
      by_cases hp : p x.id = true
      · rw [hp] at HCk
        have HNK := Lib.hid (HN.out k hk HP.out (fun _ => by rw [← HX.out]; exact hp))
        have HM := Lib.hid (show min (pickN p s.l + 1) s.l.length = k + 1 by rw [HNK.out]; omega)
        have HR := Lib.hid (show pickV p s = x.id ∧ pickB p s = true ∧ pickS p s = s.cut k from by
          unfold pickV pickB pickS
          rw [HNK.out, if_pos hlt, if_pos hlt, ← HX.out]
          exact ⟨rfl, by simpa using hlt, rfl⟩)
        have HL := Lib.hid hlt
        clear hp
        go_wp2_with fail
        refine (HCk.out _).mono ?_
        rintro e w2 ⟨rfl, hik, hsz, hxb⟩
        have HIk := Lib.hid hik
        have HV2 := Lib.hid (HH.out.fr (HI.out (k + 1) w2 hik) HE.out)
        have BX := Lib.hid (show Blk w2 wr.heap.size 31 #[.int .i64 x.id, .int .i64 x.pr, .int .i64 x.since, .int .i64 x.seq] from hxb)
        have HT := Lib.hid (take_any b bm _ s k HL.out w2 HV2.out)
        clear hik hxb d0 d1 d2 d3
        go_wp2_with fail
        refine HT.out.mono ?_
        rintro e w3 ⟨rfl, v', hq, hf, hn⟩
        have B3 := BX.out.fr hf (fun hd => by have := HVk.out.lt hd; omega)
        have e0 := B3.cell 0
        simp only [List.getElem?_toArray, List.getElem?_cons_zero] at e0
        have HQ := Lib.hid hq
        have HF := Lib.hid hf
        have HN2 := Lib.hid hn
        clear hq hf hn B3
        go_wp2
        go_ret2
        refine ⟨w2, by rw [HM.out]; exact HIk.out, by rw [HR.out.1, HR.out.2.1]; rfl, v', by rw [HR.out.2.2]; exact HQ.out, HF.out, HN2.out⟩
      · rw [Bool.not_eq_true] at hp
        rw [hp] at HCk
        have HP2 := Lib.hid (show ∀ j, j < k + 1 → p (s.l.getD j IV.zero).id = false from fun j hj => by
          by_cases e : j = k
          · rw [e, ← HX.out]; exact hp
          · exact HP.out j (by omega))
        clear hp
        go_wp2_with fail
        refine (HCk.out _).mono ?_
        rintro e w2 ⟨rfl, hik, hsz, hxb⟩
        have HIk := Lib.hid hik
        clear hik hxb d0 d1 d2 d3
        go_wp2
        go_roundw
        case rel => exact ⟨k + 1, by go_num, by omega, HIk, HP2⟩
        case measure => simp [intOf]; omega
    · have hkn : k = s.l.length := by omega
      have HNK := Lib.hid (HN.out k hk HP.out (fun h => absurd h hlt))
      have HM := Lib.hid (show min (pickN p s.l + 1) s.l.length = k by rw [HNK.out]; omega)
      have HR := Lib.hid (show pickV p s = 0 ∧ pickB p s = false ∧ pickS p s = s from by
        unfold pickV pickB pickS
        rw [HNK.out, if_neg hlt, if_neg hlt]
        exact ⟨rfl, by simpa using hlt, rfl⟩)
      have hlt2 : ¬ (k : Int) < (s.l.length : Int) := by omega
      clear hkn
      go_wp2
      go_ret2
      exact ⟨wr, by rw [HM.out]; exact HK.out, by rw [HR.out.1, HR.out.2.1]; rfl, _, by rw [HR.out.2.2]; exact HVk.out, Fr.refl _ _, fun k hk => .inl hk⟩
set_option maxRecDepth 100000 in
/-- Pick with nil. -/
theorem Pick_nil (b bm : Nat) (v : Value) (s : QS) (w : World) (h : QV w b bm v s) : Calls Try.prog 23 #[.pointer (some ⟨b, 0, none⟩), .nilFunc] w fun e w' => e = .returned (.tuple #[.int .i64 0, .bool false]) ∧ w = w' := by
  have HV := Lib.hid (made_any b bm _ s w h)
  have heq := fun (w : World) => run_eql_nilfunc_nil (P := Try.prog) w 34 Try.underlying34
  clear h
  go_enter Try.func23, Try.ntmps23
  go_wp2_with fail
  refine HV.out.mono ?_
  rintro e w0 ⟨rfl, rfl⟩
  go_wp2
  go_ret2
  exact ⟨rfl, rfl⟩
/-- Pick with a function that leaves the world alone. -/
theorem Pick_pure (f : Nat) (cs : Array Value) (p : Int → Bool) (b : Nat) (D : Nat → Prop) (s : QS) (w : World) (h : QAt w b D s)
    (hent : ∀ (args : Array Value) (w : World), (callFunc f args).run Try.prog w = .ok (.enter f args) w)
    (hcall : ∀ x X, fits x → Fr No w X → Calls Try.prog f (#[.int .i64 x] ++ cs) X (fun e X' => e = .returned (.bool (p x)) ∧ X = X')) :
    Calls Try.prog 23 #[.pointer (some ⟨b, 0, none⟩), .func (.func f) #[] cs] w fun e w' => e = .returned (.tuple #[.int .i64 (pickV p s), .bool (pickB p s)]) ∧ TurnedAt w b D (pickS p s) w' := by
  obtain ⟨bm, v, hv, rfl⟩ := h
  refine (Pick_any f cs p (fun _ X => Fr No w X) No b bm v s w hv (Fr.refl _ _) (fun _ _ h => h) (fun _ _ z => z) hent (fun k X o hk hX => ?_)).mono ?_
  · refine (hcall _ _ (hv.ok.fit _ (getD_mem' hk)).id (hX.alloc o)).mono ?_
    rintro e X' ⟨rfl, rfl⟩
    exact ⟨rfl, hX.alloc o, by simp, heap_alloc_new X o⟩
  · rintro e w' ⟨X, hX, ht⟩
    obtain ⟨he, D', hq, hf, hd⟩ := ht.at_
    exact ⟨he, D', hq, Fr.trans (S := dom b bm v) (hX.mono (fun _ z => z.elim)) hf (fun _ _ z => z), fun k hk => (hd k hk).imp_right (fun h => Nat.le_trans hX.size h)⟩
end Go.Proofs.Ytcjcoigjedcieaa
