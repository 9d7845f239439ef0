/- Entries as cells; rows of entries of the call's own: one entry turned, the last one dropped. No program stands here. -/
import Derived.Test.YtbndmelkdamgjaaEnt
namespace Go.Proofs.Ytbndmelkdamgjaa
open Go.RowKit Go.Wk

/-- How a value lies in cells. -/
structure Cod (V : Type) where
  m : Nat
  c : V → List Value
  len : ∀ v, (c v).length = m
  one : ∀ v, ∀ u ∈ c v, u.oneCell' = true
section
variable {V : Type} (C : Cod V)
def Cod.s : Nat := C.m + 2
def ecell (e : En V) : List Value := .int .i64 e.id :: (C.c e.v ++ [.int .i64 e.p])
def ecells (l : List (En V)) : List Value := l.flatMap (ecell C)
theorem ecell_len (e : En V) : (ecell C e).length = C.s := by simp [ecell, C.len, Cod.s]
theorem ecells_len (l : List (En V)) : (ecells C l).length = l.length * C.s := by
  induction l with
  | nil => simp [ecells]
  | cons a l ih =>
    have : ecells C (a :: l) = ecell C a ++ ecells C l := by simp [ecells]
    rw [this, List.length_append, ih, ecell_len, List.length_cons, Nat.succ_mul]; omega
theorem ecells_app (l m : List (En V)) : ecells C (l ++ m) = ecells C l ++ ecells C m := by simp [ecells]
theorem ecells_single (e : En V) : ecells C [e] = ecell C e := by simp [ecells]
theorem ecells_cons (a : En V) (l : List (En V)) : ecells C (a :: l) = ecell C a ++ ecells C l := by simp [ecells]
theorem ecells_one (l : List (En V)) : ∀ u ∈ ecells C l, u.oneCell' = true := by
  intro u hu
  simp only [ecells, List.mem_flatMap] at hu
  obtain ⟨e, _, he⟩ := hu
  simp only [ecell, List.mem_cons, List.mem_append, List.not_mem_nil, or_false] at he
  rcases he with rfl | he | rfl
  · rfl
  · exact C.one _ _ he
  · rfl
theorem ecells_take : ∀ (l : List (En V)) (k : Nat), (ecells C l).take (k * C.s) = ecells C (l.take k)
  | [], k => by simp [ecells]
  | a :: l, 0 => by simp [ecells]
  | a :: l, k + 1 => by
    have hl := ecell_len C a
    rw [List.take_succ_cons, ecells_cons, ecells_cons, ← ecells_take l k, List.take_append]
    rw [List.take_of_length_le (by rw [hl, Nat.succ_mul]; omega), hl, Nat.succ_mul, Nat.add_sub_cancel]
theorem ecells_set : ∀ (l : List (En V)) (i : Nat) (e : En V), i < l.length → ecells C (l.set i e) = (ecells C l).take (i * C.s) ++ ecell C e ++ (ecells C l).drop (i * C.s + C.s)
  | [], i, e, h => by simp at h
  | a :: l, 0, e, _ => by
    have hl := ecell_len C a
    rw [List.set_cons_zero, ecells_cons, ecells_cons, Nat.zero_mul, Nat.zero_add, List.take_zero, List.nil_append]
    rw [← hl, List.drop_left]
  | a :: l, i + 1, e, h => by
    have hl := ecell_len C a
    have ih := ecells_set l i e (by simpa using h)
    rw [List.set_cons_succ, ecells_cons, ecells_cons, ih, List.take_append, List.drop_append, hl]
    rw [List.take_of_length_le (l := ecell C a) (by rw [hl, Nat.succ_mul]; omega), List.drop_of_length_le (l := ecell C a) (by rw [hl, Nat.succ_mul]; omega)]
    rw [show (i + 1) * C.s - C.s = i * C.s by rw [Nat.succ_mul, Nat.add_sub_cancel], show (i + 1) * C.s + C.s - C.s = i * C.s + C.s by rw [Nat.succ_mul]; omega]
    simp [List.append_assoc]
variable [Inhabited V]
theorem ecells_get : ∀ (l : List (En V)) (i j : Nat), i < l.length → j < C.s → (ecells C l)[i * C.s + j]? = (ecell C (l.getD i default))[j]?
  | [], i, j, h, _ => by simp at h
  | a :: l, 0, j, _, hj => by
    have hl := ecell_len C a
    rw [ecells_cons, Nat.zero_mul, Nat.zero_add, List.getElem?_append_left (by omega)]
    rfl
  | a :: l, i + 1, j, h, hj => by
    have hl := ecell_len C a
    rw [ecells_cons, List.getElem?_append_right (by rw [hl, Nat.succ_mul]; omega), hl, show (i + 1) * C.s + j - C.s = i * C.s + j by rw [Nat.succ_mul]; omega, ecells_get l i j (by simpa using h) hj]
    rfl
end
/-- Several cells turned. -/
def setLs (xs : List Value) : Nat → List Value → List Value
  | _, [] => xs
  | o, v :: r => setLs (xs.set o v) (o + 1) r
theorem setLs_eq : ∀ (vs xs : List Value) (o : Nat), o + vs.length ≤ xs.length → setLs xs o vs = xs.take o ++ vs ++ xs.drop (o + vs.length)
  | [], xs, o, _ => by simp [setLs]
  | v :: r, xs, o, h => by
    simp only [List.length_cons] at h
    rw [setLs, setLs_eq r (xs.set o v) (o + 1) (by rw [List.length_set]; omega)]
    rw [List.drop_set_of_lt (by omega), List.take_set, List.take_succ_eq_append_getElem (show o < xs.length by omega)]
    rw [List.set_append_right _ _ (by rw [List.length_take]; omega)]
    rw [show o - (xs.take o).length = 0 by rw [List.length_take]; omega]
    simp only [List.set_cons_zero, List.length_cons, List.append_assoc, List.cons_append, List.nil_append]
    rw [show o + 1 + r.length = o + (r.length + 1) by omega]
theorem own_setCells {base n cap size g : Nat} {e : TypeId} : ∀ (vs xs : List Value) (o : Nat) (w : World), w.ownsRow base e size (.slice (some ⟨g, 0, none⟩) n cap) n xs → o + vs.length ≤ n * size →
    (w.setCells g o vs).ownsRow base e size (.slice (some ⟨g, 0, none⟩) n cap) n (setLs xs o vs)
  | [], _, _, _, h, _ => h
  | v :: r, xs, o, w, h, hl => by
    simp only [List.length_cons] at hl
    exact own_setCells r (xs.set o v) (o + 1) _ (h.stored o v).1 (by omega)
/-- One entry turned. -/
theorem own_put {V : Type} (C : Cod V) {base cap g i : Nat} {et : TypeId} {l : List (En V)} {w : World} (h : w.ownsRow base et C.s (.slice (some ⟨g, 0, none⟩) l.length cap) l.length (ecells C l)) (hi : i < l.length) (e : En V) :
    (w.setCells g (i * C.s) (ecell C e)).ownsRow base et C.s (.slice (some ⟨g, 0, none⟩) l.length cap) l.length (ecells C (l.set i e)) := by
  have hle : i * C.s + C.s ≤ l.length * C.s := by
    have := Nat.mul_le_mul_right C.s (show i + 1 ≤ l.length from hi)
    rw [Nat.succ_mul] at this; omega
  have := own_setCells (ecell C e) (ecells C l) (i * C.s) w h (by rw [ecell_len]; exact hle)
  rw [setLs_eq _ _ _ (by rw [ecell_len, ecells_len]; exact hle), ecell_len, ← ecells_set C l i e hi] at this
  exact this
/-- The last ones dropped. -/
theorem own_less {base n cap size g k : Nat} {e : TypeId} {xs : List Value} {w : World} (h : w.ownsRow base e size (.slice (some ⟨g, 0, none⟩) n cap) n xs) (hk : k ≤ n) : w.ownsRow base e size (.slice (some ⟨g, 0, none⟩) k cap) k (xs.take (k * size)) := by
  have hks : k * size ≤ n * size := Nat.mul_le_mul_right size hk
  refine ⟨by rw [List.length_take, h.1]; omega, .inr ?_⟩
  rcases h.2 with ⟨hv, _⟩ | ⟨g', cap', cur, hv, h2, h3, h4, h5, h6, h7⟩
  · cases hv
  · injection hv with ha _ hc
    injection ha with ha
    injection ha with ha
    subst ha
    subst hc
    refine ⟨_, _, cur, rfl, h2, h3, by omega, h5, h6, ?_⟩
    rw [← h7, List.take_take, Nat.min_eq_left hks]
end Go.Proofs.Ytbndmelkdamgjaa
