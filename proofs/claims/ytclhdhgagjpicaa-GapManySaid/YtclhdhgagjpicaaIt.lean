/- A loop over an iterator that writes what it has captured: a law of my own over the base laws for such a loop; it is for bodies that never leave the loop early. -/
import Derived.RangeFuncNested
import Derived.RangeFuncBound
import Derived.RangeFuncCalls
import Derived.RangeFuncLeaves
import Derived.RangeFuncBox
import Derived.Shelf.Abstract
import Derived.Shelf.RegionOpen
import Derived.OwnWalkIn
import Derived.TacticsInMore
import Derived.LoopNIn
import Derived.LoopIn
import Derived.Test.YtclhdhgagjpicaaMem
namespace Go.Wk
open Go.RowKit

/-- The iterator hands xs to yield, in order; between the calls it turns blocks of T alone; Kp is what it wants the body to keep. -/
def Feeds {α : Type} (P : Program) (n gf : Nat) (lb : Array Value) (encs : α → Array Value) (T : Nat → Prop) (Kp : World → World → Prop) (xs : List α) (w : World) : Prop :=
  ∀ (l : Nat) (J : List α → World → Prop) (W : World), Below w.heap.size w W → (∀ s X Y, J s X → Fr T X Y → J s Y) →
    (∀ pre x X, J pre X → (pre ++ [x]) <+: xs → YieldAt Fence.wide (n - 1) P l (encs x) X fun e Y => e = .returned (.bool true) ∧ J (pre ++ [x]) Y ∧ Kp X Y) →
    J [] W → CallsIn Fence.wide n P gf (#[.func (.yield l) #[] #[]] ++ lb) W fun e Y => (∃ v, e = .returned v) ∧ J xs Y

/-- The two blocks that the loop has laid for itself. -/
structure Seat (b : Nat) (r : Loop) (W : World) : Prop where
  note : W.heap[b + 1]? = some (.loop r)
  dfr : W.heap[b]? = some (.deferred (some []))

/-- How a round's body may end. -/
def fedPost {α : Type} (B : Nat) (Kp : World → World → Prop) (I : List α → World → Prop) (s : List α) (W : World) : Exit → Act → World → Prop
  | .normal, _, Y => KeepsFrom B W Y ∧ Kp W Y ∧ I s Y
  | _, _, _ => False

theorem wpIn_fed {α : Type} {P : Program} {n gf : Nat} {g : Operand} {ps : Array Tmp} {assign body : Code} {Q : Exit → Act → World → Prop} {a : Act} {w : World} {lb : Array Value} {encs : α → Array Value} {T : Nat → Prop} {Kp : World → World → Prop} {xs : List α}
    (h1 : 1 ≤ n) (hg : a.eval g = .func (.func gf) #[] lb) (eg : ∀ args w, (callFunc gf args).run P w = .ok (.enter gf args) w) (hfed : Feeds P (n - 1) gf lb encs T Kp xs w) (hT : ∀ k, T k → k < w.heap.size)
    (hKt : ∀ {A B C : World}, Kp A B → Kp B C → Kp A C) (hKb : ∀ (W : World) (l : Nat) (o o' : Obj), w.heap.size ≤ l → W.heap[l]? = some o → Kp W (W.putObj l o')) (hps : ∀ x, (encs x).size = ps.size)
    (I : List α → World → Prop) (hIp : ∀ s X (l : Nat) (o o' : Obj), I s X → w.heap.size ≤ l → X.heap[l]? = some o → o.isCells = false → I s (X.putObj l o')) (hIa : ∀ s X (o : Obj), I s X → I s (X.alloc o)) (hIT : ∀ s X Y, I s X → Fr T X Y → I s Y) (h0 : I [] w)
    (a₁ : α → Act) (hassign : ∀ (l : Nat) (x : α) (W : World) (K : Act → World → Prop), K (a₁ x) W → assign.wpIn (Fence.wide.inRound l) (n - 1 - 1) P (Exit.then K (fun _ _ _ => False)) { tmps := (ps.zip (encs x)).foldl (fun t (p, v) => t.setIfInBounds p v) a.tmps, defers := [] } W)
    (hbody : ∀ (l : Nat) (pre : List α) (x : α) (W : World), w.heap.size ≤ l → I pre W → (pre ++ [x]) <+: xs → body.wpIn (Fence.wide.inRound l) (n - 1 - 1) P (fedPost w.heap.size Kp I (pre ++ [x]) W) (a₁ x) W)
    (hdone : ∀ (D : Nat) (W : World), w.heap.size ≤ D → I xs W → W.heap[D]? = some (.deferred (some [])) → Q .normal { a with defers := { target := .collected D, args := #[] } :: a.defers } W) :
    (Code.rangeFunc g ps assign body).wpIn Fence.wide n P Q a w := by
  refine wpIn_rangeFunc fun fn _ => ?_
  obtain ⟨r, hr⟩ : ∃ r : LoopState → Loop, r = fun st => { state := st, pending := none, fn, tmps := a.tmps, params := ps, assign, body, defers := w.heap.size } := ⟨_, rfl⟩
  obtain ⟨W1, hW1⟩ : ∃ W1, W1 = (w.alloc (.deferred (some []))).alloc (.loop (r .ready)) := ⟨_, rfl⟩
  have seat1 : Seat w.heap.size (r .ready) W1 := by
    have e1 := World.alloc_heap_new (w.alloc (.deferred (some []))) (.loop (r .ready))
    rw [World.size_alloc] at e1
    rw [hW1]
    exact ⟨e1, (Below.heap_alloc _ _ _ (by simp)).trans (World.alloc_heap_new w _)⟩
  have below1 : Below w.heap.size w W1 := by
    rw [hW1]; exact ((Below.refl _ w).alloc (Nat.le_refl _) _).alloc (by simp) _
  have seatT : ∀ st X Y, Seat w.heap.size (r st) X → Fr T X Y → Seat w.heap.size (r st) Y := fun st X Y hs hf => by
    have l1 := (Array.getElem?_eq_some_iff.1 hs.note).1
    exact ⟨(hf.block _ l1 (fun h => by have := hT _ h; omega)).trans hs.note, (hf.block _ (by omega) (fun h => by have := hT _ h; omega)).trans hs.dfr⟩
  have turn : ∀ st st' X, Seat w.heap.size (r st) X → Seat w.heap.size (r st') (X.putObj (w.heap.size + 1) (.loop (r st'))) := fun st st' X hs =>
    ⟨World.putObj_heap_same (Array.getElem?_eq_some_iff.1 hs.note).1, (World.putObj_heap_other (by omega)).trans hs.dfr⟩
  have fed := hfed (w.heap.size + 1) (fun s X => I s X ∧ Seat w.heap.size (r .ready) X) W1 below1 (fun s X Y h hf => ⟨hIT s X Y h.1 hf, seatT _ X Y h.2 hf⟩) (fun pre x X h hp => by
    obtain ⟨hi, hs⟩ := h
    have hy := run_yield (P := P) (args := encs x) hs.note (by rw [hr]; exact hps x)
    have hb := run_beginRound (P := P) hs.note (by rw [hr])
    rw [hr] at hy
    have hset : { r .ready with state := .busy } = r .busy := by rw [hr]
    rw [hset] at hb
    have hs2 := turn _ .busy X hs
    refine ⟨fn, _, assign, body, hy, roundIn_of_wpIn trivial (hassign _ x X _ ⟨_, hb, wpIn_mono (hbody _ pre x _ (by omega) (hIp _ _ _ _ _ hi (by omega) hs.note rfl) hp) ?_⟩)⟩
    intro e a3 Y hpost
    cases e with
    | normal =>
      obtain ⟨k1, k2, k3⟩ := hpost
      have hs3 : Seat w.heap.size (r .busy) Y := ⟨k1.same _ _ (by omega) hs2.note rfl, k1.same _ _ (Nat.le_refl _) hs2.dfr rfl⟩
      have he := run_endRound (P := P) none hs3.note
      have hset2 : { r .busy with state := (if (none : Option Code).isNone then LoopState.ready else .done), pending := none } = r .ready := by rw [hr]; rfl
      rw [hset2] at he
      exact ⟨_, _, he, rfl, ⟨hIp _ _ _ _ _ k3 (by omega) hs3.note rfl, turn _ .ready Y hs3⟩, hKt (hKt (hKb _ _ _ _ (by omega) hs.note) k2) (hKb _ _ _ _ (by omega) hs3.note)⟩
    | _ => exact hpost.elim) ⟨by rw [hW1]; exact hIa _ _ _ (hIa _ _ _ h0), seat1⟩
  refine ⟨w.heap.size + 1, [{ target := .collected w.heap.size, args := #[] }], W1, { target := .fn (.func gf) lb, args := #[.func (.yield (w.heap.size + 1)) #[] #[]] }, W1, gf, #[.func (.yield (w.heap.size + 1)) #[] #[]] ++ lb, W1,
    ?_, ?_, ?_, ?_, ?_, ?_⟩
  · rw [hW1, hr]; exact run_enterLoop_outer _ _ _ _ _
  · simp only [resolve, hg]
    simp [go_sem]
  · intro _ _; trivial
  · simp [invoke, go_sem, eg]
  · intro _; exact h1
  · refine fed.mono ?_
    rintro e Y ⟨⟨v, rfl⟩, hi, hs⟩
    have he := run_endLoop (P := P) hs.note (by rw [hr]; simp)
    have hp : (r .ready).pending = none := by rw [hr]
    rw [hp] at he
    exact ⟨none, _, he, hdone _ _ (Nat.le_refl _) (hIp _ _ _ _ _ hi (by omega) hs.note rfl) ((World.putObj_heap_other (by omega)).trans hs.dfr)⟩
end Go.Wk
