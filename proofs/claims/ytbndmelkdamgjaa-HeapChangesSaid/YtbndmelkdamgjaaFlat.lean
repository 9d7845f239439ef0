/- Arguments whose type is integers, arrays and structs of integers: their cells, by one closed test of the type. No program stands here. -/
import Derived.Test.YtbndmelkdamgjaaLib
import Derived.ProofKit
import Derived.OpenShut
import Derived.Deep.Slices
import Derived.SizedLaws
namespace Go.Wk
open Go.RowKit Go.ChangeShapes Go.WideShapes Go.Deep

/-- The cells cs are integers of the kinds ks. -/
def IntsOf (ks : List IntKind) (cs : List Value) : Prop := ∃ ns : List Int, ns.length = ks.length ∧ cs = List.zipWith Value.int ks ns ∧ ∀ (i : Nat) (k : IntKind) (n : Int), ks[i]? = some k → ns[i]? = some n → (Lit.int k n).wf = true

theorem IntsOf.nil : IntsOf [] [] := ⟨[], rfl, rfl, fun i k n h => by simp at h⟩
theorem IntsOf.app {k1 k2 : List IntKind} {c1 c2 : List Value} (h1 : IntsOf k1 c1) (h2 : IntsOf k2 c2) : IntsOf (k1 ++ k2) (c1 ++ c2) := by
  obtain ⟨n1, l1, rfl, w1⟩ := h1
  obtain ⟨n2, l2, rfl, w2⟩ := h2
  refine ⟨n1 ++ n2, by simp [l1, l2], (List.zipWith_append l1.symm).symm, fun i k n hk hn => ?_⟩
  rcases Nat.lt_or_ge i k1.length with h | h
  · rw [List.getElem?_append_left h] at hk
    rw [List.getElem?_append_left (by omega)] at hn
    exact w1 i k n hk hn
  · rw [List.getElem?_append_right h] at hk
    rw [List.getElem?_append_right (by omega), l1] at hn
    exact w2 _ k n hk hn

/-- The struct's fields lie one behind the other and are flat; 'go' says what a field's type holds. -/
def tiles (P : Program) (go : TypeId → List IntKind → Bool) : List Field → Nat → List IntKind → Bool
  | [], _, ks => ks.isEmpty
  | f :: fs, off, ks => (f.offset == off) && decide (P.cellsOf f.type ≤ ks.length) && go f.type (ks.take (P.cellsOf f.type)) && tiles P go fs (off + P.cellsOf f.type) (ks.drop (P.cellsOf f.type))
def tilesA (c : Nat) (go : List IntKind → Bool) : Nat → List IntKind → Bool
  | 0, ks => ks.isEmpty
  | n + 1, ks => decide (c ≤ ks.length) && go (ks.take c) && tilesA c go n (ks.drop c)
/-- The type t is flat: its cells are integers of the kinds ks. -/
def flatB (P : Program) : Nat → TypeId → List IntKind → Bool
  | 0, _, _ => false
  | n + 1, t, ks => match P.underlying t with
    | some (.int k) => ks == [k]
    | some (.struct fs) => (P.cellsOf t == ks.length) && tiles P (flatB P n) fs.toList 0 ks
    | some (.array m e) => (P.cellsOf t == ks.length) && tilesA (P.cellsOf e) (flatB P n e) m ks
    | _ => false

section
variable {H : Type} {enc : TypeId × Value → H} {P : Program} {w : World} {base : Nat} {spare : Nat → Bool} {held : Bool}

theorem tiles_ints {go : TypeId → List IntKind → Bool} {fuel : Nat} (hgo : ∀ t ks cs x, go t ks = true → cs.length = P.cellsOf t → DataW.trod enc P w base spare held fuel t cs = some x → IntsOf ks cs) :
    ∀ (fs : List Field) (off : Nat) (ks : List IntKind) (cs : List Value), tiles P go fs off ks = true → cs.length = off + ks.length →
      (∀ (i : Nat) (f : Field), fs[i]? = some f → ∃ x, DataW.trod enc P w base spare held fuel f.type ((cs.drop f.offset).take (P.cellsOf f.type)) = some x) → IntsOf ks (cs.drop off)
  | [], off, ks, cs, ht, hl, _ => by
    simp only [tiles, List.isEmpty_iff] at ht
    subst ht
    rw [List.drop_of_length_le (by simp at hl; omega)]
    exact IntsOf.nil
  | f :: fs, off, ks, cs, ht, hl, hx => by
    simp only [tiles, Bool.and_eq_true, beq_iff_eq, decide_eq_true_eq] at ht
    obtain ⟨⟨⟨h1, h2⟩, h3⟩, h4⟩ := ht
    obtain ⟨x, h0⟩ := hx 0 f rfl
    rw [h1] at h0
    have ha := hgo _ _ _ _ h3 (by rw [List.length_take, List.length_drop, hl]; omega) h0
    have hb := tiles_ints hgo fs (off + P.cellsOf f.type) (ks.drop (P.cellsOf f.type)) cs h4 (by rw [List.length_drop, hl]; omega) (fun i f' hf => hx (i + 1) f' (by simpa using hf))
    have := ha.app hb
    rw [List.take_append_drop, ← List.drop_drop, List.take_append_drop] at this
    exact this

theorem tilesA_ints {e : TypeId} {go : List IntKind → Bool} {fuel : Nat} (hgo : ∀ ks cs x, go ks = true → cs.length = P.cellsOf e → DataW.trod enc P w base spare held fuel e cs = some x → IntsOf ks cs) :
    ∀ (m : Nat) (ks : List IntKind) (cs : List Value), tilesA (P.cellsOf e) go m ks = true → cs.length = ks.length →
      (∀ i, i < m → ∃ x, DataW.trod enc P w base spare held fuel e ((cs.drop (i * P.cellsOf e)).take (P.cellsOf e)) = some x) → IntsOf ks cs
  | 0, ks, cs, ht, hl, _ => by
    simp only [tilesA, List.isEmpty_iff] at ht
    subst ht
    have : cs = [] := List.eq_nil_of_length_eq_zero (by simpa using hl)
    subst this
    exact IntsOf.nil
  | m + 1, ks, cs, ht, hl, hx => by
    simp only [tilesA, Bool.and_eq_true, decide_eq_true_eq] at ht
    obtain ⟨⟨h2, h3⟩, h4⟩ := ht
    obtain ⟨x, h0⟩ := hx 0 (by omega)
    rw [Nat.zero_mul, List.drop_zero] at h0
    have ha := hgo _ _ _ h3 (by rw [List.length_take, hl]; omega) h0
    have hb := tilesA_ints hgo m (ks.drop (P.cellsOf e)) (cs.drop (P.cellsOf e)) h4 (by rw [List.length_drop, List.length_drop, hl]) (fun i hi => by
      obtain ⟨x, h⟩ := hx (i + 1) (by omega)
      rw [Nat.add_mul, Nat.one_mul, Nat.add_comm, ← List.drop_drop] at h
      exact ⟨x, h⟩)
    have := ha.app hb
    rw [List.take_append_drop, List.take_append_drop] at this
    exact this

theorem flat_ints : ∀ (n : Nat) (t : TypeId) (ks : List IntKind) (fuel : Nat) (cs : List Value) (x : DataW H × List MemPlace), flatB P n t ks = true → DataW.trod enc P w base spare held fuel t cs = some x → IntsOf ks cs
  | 0, _, _, _, _, _, h, _ => by simp [flatB] at h
  | n + 1, t, ks, fuel, cs, x, h, hx => by
    unfold flatB at h
    split at h
    · rename_i k hu
      obtain ⟨m, rfl, _, hw⟩ := DataW.trod_int hu hx
      simp only [beq_iff_eq] at h
      subst h
      exact ⟨[m], rfl, rfl, fun i k' n' h1 h2 => by
        cases i with
        | zero => simp at h1 h2; subst h1; subst h2; exact hw
        | succ i => simp at h1⟩
    · rename_i fs hu
      simp only [Bool.and_eq_true, beq_iff_eq] at h
      obtain ⟨xs, m, rfl, _, hl, hxl, hf⟩ := DataW.trod_struct hu hx
      have := tiles_ints (fuel := m) (fun t' ks' cs' x' hg _ ht => flat_ints n t' ks' m cs' x' hg ht) fs.toList 0 ks cs h.2 (by omega) (fun i f hi => by
        have := hf i f (by simpa using hi)
        refine ⟨xs[i]'?_, by rw [this]; exact List.getElem?_eq_getElem _⟩
        have h2 := (List.getElem?_eq_some_iff.1 hi).1
        simp at h2; omega)
      simpa using this
    · rename_i m e hu
      simp only [Bool.and_eq_true, beq_iff_eq] at h
      obtain ⟨xs, m', rfl, _, hl, hxl, hf⟩ := DataW.trod_array hu hx
      exact tilesA_ints (fuel := m') (fun ks' cs' x' hg _ ht => flat_ints n e ks' m' cs' x' hg ht) m ks cs h.2 (by omega) (fun i hi => ⟨xs[i]'(by omega), by rw [hf i hi]; exact List.getElem?_eq_getElem _⟩)
    · cases h

/-- The cells of an element. -/
def rowOf (ks : List IntKind) (ns : List Int) : List Value := List.zipWith Value.int ks ns

/-- A slice of flat elements that came in: it is nil, or it leads to its elements. -/
def RowF (ks : List IntKind) (bytes : Nat) (w : World) (a : Option Addr) (len cap : Nat) (es : List (List Int)) : Prop :=
  len ≤ cap ∧ cap * bytes ≤ 140737488351232 ∧ Reads w w.heap.size ks.length a len (es.flatMap (rowOf ks)) ∧ es.length = len ∧
    ∀ ns ∈ es, ns.length = ks.length ∧ ∀ (i : Nat) (k : IntKind) (n : Int), ks[i]? = some k → ns[i]? = some n → (Lit.int k n).wf = true

theorem flatMap_get {ks : List IntKind} : ∀ (es : List (List Int)) (i j : Nat), (∀ ns ∈ es, ns.length = ks.length) → i < es.length → j < ks.length → (es.flatMap (rowOf ks))[i * ks.length + j]? = (rowOf ks (es.getD i []))[j]?
  | [], i, j, _, hi, _ => by simp at hi
  | e :: es, 0, j, h, _, hj => by
    simp only [List.flatMap_cons, Nat.zero_mul, Nat.zero_add, List.getD_cons_zero]
    rw [List.getElem?_append_left]
    simp [rowOf, h e (by simp)]; exact hj
  | e :: es, i + 1, j, h, hi, hj => by
    have hle : (rowOf ks e).length = ks.length := by simp [rowOf, h e (by simp)]
    simp only [List.flatMap_cons, List.getD_cons_succ]
    rw [List.getElem?_append_right (by rw [hle, Nat.add_mul]; omega), hle, ← flatMap_get es i j (fun ns hn => h ns (by simp [hn])) (by simpa using hi) hj]
    congr 1
    rw [Nat.add_mul]; omega
theorem flatMap_len {ks : List IntKind} : ∀ (es : List (List Int)), (∀ ns ∈ es, ns.length = ks.length) → (es.flatMap (rowOf ks)).length = es.length * ks.length
  | [], _ => by simp
  | e :: es, h => by
    simp only [List.flatMap_cons, List.length_append, List.length_cons, flatMap_len es (fun ns hn => h ns (by simp [hn])), Nat.add_mul]
    simp [rowOf, h e (by simp)]; omega

theorem open_flat {ts : List TypeId} {ds : List (DataW H)} (hsz : (DataW.weightsEach P ts ds).all (· ≤ reachBytes) = true) {j : Nat} (n bytes : Nat) (ks : List IntKind) {t e : TypeId} {a : Option Addr} {len cap : Nat} {d : DataW H} {p : List MemPlace}
    (hj : ts[j]? = some t) (hd : ds[j]? = some d) (hu : P.underlying t = some (.slice e)) (hf : flatB P n e ks = true) (hby : P.bytesOf e = bytes) (hc : P.cellsOf e = ks.length) (hks : 0 < ks.length)
    (h : DataW.Trod enc P w 0 (fun _ => true) true t (.slice a len cap) d p) : ∃ es, RowF ks bytes w a len cap es := by
  obtain ⟨fuel, hfu⟩ := h
  rcases open_slice hu hfu with ⟨hcs, _⟩ | ⟨x, l, c, m, n', D, Pl, hcs, _, hl, hm, hmm, hx, hi⟩
  · simp [Value.cells] at hcs
    obtain ⟨rfl, rfl, rfl⟩ := hcs
    exact ⟨[], Nat.le_refl _, by simp, ⟨by simp, fun h => absurd h (by omega)⟩, rfl, fun ns h => by simp at h⟩
  · simp [Value.cells] at hcs
    obtain ⟨rfl, rfl, rfl⟩ := hcs
    simp only [if_true] at hmm
    subst hmm
    have hd' : d = .slice ((List.range len).map D) ((List.range (m - len)).map fun j => D (len + j)) := (Prod.mk.inj hx).1
    have hcap : m * P.bytesOf e ≤ reachBytes := by
      have := sized_slice hsz (j := j) (t := t) (e := e) hj (by rw [hd, hd']) hu
      simp only [List.length_map, List.length_range] at this
      rwa [show len + (m - len) = m by omega] at this
    have hel : ∀ i, i < len → ∃ ns : List Int, ns.length = ks.length ∧ (∀ (q : Nat) (k : IntKind) (v : Int), ks[q]? = some k → ns[q]? = some v → (Lit.int k v).wf = true) ∧ ∀ q u, (rowOf ks ns)[q]? = some u → w.cell? (x.add (i * ks.length + q)) = some u := by
      intro i hil
      obtain ⟨cs', hcl, ht⟩ := hi i (by omega)
      obtain ⟨ns, h1, h2, h3⟩ := flat_ints n e ks n' cs' _ hf ht
      obtain ⟨_, hcl2, hat⟩ := World.cells?_some hcl
      refine ⟨ns, h1, h3, fun q u hq => ?_⟩
      have hq' : q < P.cellsOf e := by
        have := (List.getElem?_eq_some_iff.1 hq).1
        simp [rowOf] at this
        omega
      have h4 := hat q hq'
      rw [Go.Deep.add_add, hc] at h4
      rw [h4, h2]
      exact hq
    have hall : ∃ es : List (List Int), es.length = len ∧ ∀ i, i < len → (es.getD i []).length = ks.length ∧ (∀ (q : Nat) (k : IntKind) (v : Int), ks[q]? = some k → (es.getD i [])[q]? = some v → (Lit.int k v).wf = true) ∧ ∀ q u, (rowOf ks (es.getD i []))[q]? = some u → w.cell? (x.add (i * ks.length + q)) = some u := by
      clear hfu hx hd' hcap hm hi hl hsz
      induction len with
      | zero => exact ⟨[], rfl, fun i h => absurd h (by omega)⟩
      | succ len ih =>
        obtain ⟨es, h1, h2⟩ := ih (fun i hi => hel i (by omega))
        obtain ⟨ns, h3⟩ := hel len (by omega)
        refine ⟨es ++ [ns], by simp [h1], fun i hi => ?_⟩
        rcases Nat.lt_or_ge i len with h | h
        · have : (es ++ [ns]).getD i [] = es.getD i [] := by simp [List.getElem?_append_left (show i < es.length by omega)]
          rw [this]; exact h2 i h
        · obtain rfl : i = len := by omega
          have : (es ++ [ns]).getD i [] = ns := by simp [← h1]
          rw [this]; exact h3
    obtain ⟨es, hes, hall⟩ := hall
    have hmem : ∀ ns ∈ es, ns.length = ks.length ∧ ∀ (i : Nat) (k : IntKind) (v : Int), ks[i]? = some k → ns[i]? = some v → (Lit.int k v).wf = true := by
      intro ns hn
      obtain ⟨i, hi', rfl⟩ := List.mem_iff_getElem.1 hn
      have := hall i (by omega)
      have e : es.getD i [] = es[i] := by simp [hi']
      rw [e] at this
      exact ⟨this.1, this.2.1⟩
    refine ⟨es, hl, by rw [← hby]; simpa [reachBytes] using hcap, ⟨by rw [flatMap_len es (fun ns hn => (hmem ns hn).1), hes], fun hn => ⟨x, rfl, ?_, fun q u hq => ?_⟩⟩, hes, hmem⟩
    · have h0 := hall 0 hn
      have hrl : (rowOf ks (es.getD 0 [])).length = ks.length := by rw [rowOf, List.length_zipWith, h0.1, Nat.min_self]
      have hr0 : (rowOf ks (es.getD 0 []))[0]? = some ((rowOf ks (es.getD 0 []))[0]'(by rw [hrl]; exact hks)) := List.getElem?_eq_getElem _
      have := World.block_lt_of_cell? w _ (h0.2.2 0 _ hr0)
      rwa [block_of_add] at this
    · have hql : q < len * ks.length := by
        have := (List.getElem?_eq_some_iff.1 hq).1
        rwa [flatMap_len es (fun ns hn => (hmem ns hn).1), hes] at this
      have hdm := Nat.div_add_mod q ks.length
      have hi' : q / ks.length < len := Nat.div_lt_of_lt_mul (by rw [Nat.mul_comm]; exact hql)
      have hr := Nat.mod_lt q hks
      have hq2 : q = q / ks.length * ks.length + q % ks.length := by rw [Nat.mul_comm]; exact hdm.symm
      rw [hq2, flatMap_get es _ _ (fun ns hn => (hmem ns hn).1) (by omega) hr] at hq
      rw [hq2]
      exact (hall _ hi').2.2 _ u hq
end
end Go.Wk
namespace Go.Wk
open Go.RowKit
theorem RowF.ints {k : IntKind} {bytes : Nat} {w : World} {a : Option Addr} {len cap : Nat} {es : List (List Int)} (h : RowF [k] bytes w a len cap es) :
    ∃ zs : List Int, len ≤ cap ∧ cap * bytes ≤ 140737488351232 ∧ Reads w w.heap.size 1 a len (zs.map (Value.int k)) ∧ ∀ x ∈ zs, (Lit.int k x).wf = true := by
  obtain ⟨h1, h2, h3, h4, h5⟩ := h
  have hm : ∀ ns ∈ es, ns = [ns.getD 0 0] := fun ns hn => by
    have := (h5 ns hn).1
    match ns, this with
    | [x], _ => rfl
  refine ⟨es.map (·.getD 0 0), h1, h2, ?_, fun x hx => ?_⟩
  · have e : ∀ l : List (List Int), (∀ ns ∈ l, ns = [ns.getD 0 0]) → l.flatMap (rowOf [k]) = (l.map (·.getD 0 0)).map (Value.int k) := by
      intro l
      induction l with
      | nil => intro _; rfl
      | cons a l ih =>
        intro h
        rw [List.flatMap_cons, ih (fun ns hn => h ns (by simp [hn])), h a (by simp)]
        rfl
    rw [← e es hm]
    exact h3
  · obtain ⟨ns, hn, rfl⟩ := List.mem_map.1 hx
    have := hm ns hn
    exact (h5 ns hn).2 0 k _ rfl (by rw [this]; rfl)
end Go.Wk
