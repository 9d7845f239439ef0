/- The contracts of package caps: what each of its functions does to a block that reads as caps. -/
import Derived.Test.YtjgjbjigghfnbaaLib
import Derived.Test.YtjgjbjigghfnbaaChecked
namespace Go.Proofs.Ytjgjbjigghfnbaa
open Go.RowKit Go.Wk

/-- What a block of caps holds. -/
structure CS where
  all : Int
  jobs : Nat
  most : List Int
  runs : List Int
  total : Int

def CS.m (s : CS) (j : Nat) : Int := s.most.getD j 0
def CS.r (s : CS) (j : Nat) : Int := s.runs.getD j 0

def CS.cells (s : CS) : Array Value :=
  (Value.bool true :: .int .i64 s.all :: .int .i64 s.jobs :: (s.most.map (Value.int .i64) ++ (s.runs.map (Value.int .i64) ++ [.int .i64 s.total]))).toArray

structure CS.ok (s : CS) : Prop where
  lm : s.most.length = 64
  lr : s.runs.length = 64
  jobs : s.jobs ≤ 64
  all0 : 0 ≤ s.all
  all1 : s.all ≤ 1000
  tot0 : 0 ≤ s.total
  tot1 : s.total ≤ s.all
  m0 : ∀ j, 0 ≤ s.m j
  m1 : ∀ j, s.m j ≤ 1000
  r0 : ∀ j, 0 ≤ s.r j
  r1 : ∀ j, s.r j ≤ s.m j
  sum : s.total = s.runs.sum

theorem sum_set (l : List Int) : ∀ (i : Nat) (v : Int), i < l.length → (l.set i v).sum = l.sum - l.getD i 0 + v := by
  induction l with
  | nil => intro i v h; simp at h
  | cons a l ih =>
    intro i v h
    cases i with
    | zero => simp; omega
    | succ i =>
      have := ih i v (by simpa using h)
      simp only [List.set_cons_succ, List.sum_cons, List.getD_cons_succ]
      omega
theorem le_sum (l : List Int) : ∀ (i : Nat), (∀ j, 0 ≤ l.getD j 0) → l.getD i 0 ≤ l.sum ∧ 0 ≤ l.sum := by
  induction l with
  | nil => intro i _; simp
  | cons a l ih =>
    intro i h
    have h0 : 0 ≤ a := by simpa using h 0
    have hh := fun j => ih j (fun k => by simpa using h (k + 1))
    cases i with
    | zero => have := hh 0; simp; omega
    | succ i => have := hh i; simp only [List.getD_cons_succ, List.sum_cons]; omega

theorem CS.c0 (s : CS) : s.cells[0]? = some (.bool true) := rfl
theorem CS.c1 (s : CS) : s.cells[1]? = some (.int .i64 s.all) := rfl
theorem CS.c2 (s : CS) : s.cells[2]? = some (.int .i64 s.jobs) := rfl
theorem CS.cm (s : CS) (hm : s.most.length = 64) (i : Nat) (h : i < 64) : s.cells[3 + i]? = some (.int .i64 (s.m i)) := by
  unfold CS.cells CS.m
  rw [List.getElem?_toArray, show 3 + i = i + 1 + 1 + 1 by omega]
  simp only [List.getElem?_cons_succ]
  rw [List.getElem?_append_left (by simp; omega)]
  simp [List.getElem?_eq_getElem (show i < s.most.length by omega)]
theorem CS.cr (s : CS) (hm : s.most.length = 64) (hr : s.runs.length = 64) (i : Nat) (h : i < 64) : s.cells[67 + i]? = some (.int .i64 (s.r i)) := by
  unfold CS.cells CS.r
  rw [List.getElem?_toArray, show 67 + i = (64 + i) + 1 + 1 + 1 by omega]
  simp only [List.getElem?_cons_succ]
  rw [List.getElem?_append_right (by simp; omega), List.getElem?_append_left (by simp; omega)]
  simp [hm, List.getElem?_eq_getElem (show i < s.runs.length by omega)]
theorem CS.ct (s : CS) (hm : s.most.length = 64) (hr : s.runs.length = 64) : s.cells[131]? = some (.int .i64 s.total) := by
  unfold CS.cells
  rw [List.getElem?_toArray, show 131 = 128 + 1 + 1 + 1 by omega]
  simp only [List.getElem?_cons_succ]
  rw [List.getElem?_append_right (by simp; omega), List.getElem?_append_right (by simp; omega)]
  simp [hm, hr]

/-- One run more ('d = 1') or one less ('d = -1') of job j. -/
def CS.add (s : CS) (j : Nat) (d : Int) : CS := { s with runs := s.runs.set j (s.r j + d), total := s.total + d }

theorem CS.add_cells (s : CS) (j : Nat) (d : Int) (hm : s.most.length = 64) (hr : s.runs.length = 64) (hj : j < 64) :
    (s.cells.setIfInBounds (67 + j) (.int .i64 (s.r j + d))).setIfInBounds 131 (.int .i64 (s.total + d)) = (s.add j d).cells := by
  unfold CS.cells CS.add
  simp only [List.setIfInBounds_toArray]
  congr 1
  rw [show 67 + j = (64 + j) + 1 + 1 + 1 by omega, show 131 = 128 + 1 + 1 + 1 by omega]
  simp only [List.set_cons_succ]
  have e1 : ¬ 64 + j < 64 := by omega
  simp [hm, hr, hj, List.map_set]

theorem CS.add_r (s : CS) (j k : Nat) (d : Int) (hr : s.runs.length = 64) (hj : j < 64) : (s.add j d).r k = if k = j then s.r j + d else s.r k := by
  unfold CS.add CS.r
  by_cases h : k = j
  · subst h
    simp [hr, hj]
  · simp [h, show ¬ j = k from fun e => h e.symm]
theorem CS.add_m (s : CS) (j k : Nat) (d : Int) : (s.add j d).m k = s.m k := rfl

def CS.left (s : CS) (j : Nat) : Int := min (s.m j - s.r j) (s.all - s.total)

theorem CS.left_nn (s : CS) (h : s.ok) (j : Nat) : 0 ≤ s.left j := by
  have := h.r1 j; have := h.tot1
  unfold CS.left; omega

theorem CS.take_ok (s : CS) (h : s.ok) (j : Nat) (hj : j < 64) (hl : 0 < s.left j) : (s.add j 1).ok := by
  have hl' : 0 < s.m j - s.r j ∧ 0 < s.all - s.total := by unfold CS.left at hl; omega
  refine ⟨h.lm, by simp [CS.add, h.lr], h.jobs, h.all0, h.all1, ?_, ?_, h.m0, h.m1, fun k => ?_, fun k => ?_, ?_⟩
  · have := h.tot0; show 0 ≤ s.total + 1; omega
  · show s.total + 1 ≤ s.all; omega
  · rw [s.add_r j k 1 h.lr hj]; have := h.r0 k; have := h.r0 j; split <;> omega
  · rw [s.add_r j k 1 h.lr hj, s.add_m]; have := h.r1 k; split
    · rename_i e; subst e; omega
    · omega
  · show s.total + 1 = (s.runs.set j (s.r j + 1)).sum
    rw [sum_set _ _ _ (by rw [h.lr]; exact hj)]
    have := h.sum
    unfold CS.r; omega
theorem CS.give_ok (s : CS) (h : s.ok) (j : Nat) (hj : j < 64) (hl : 0 < s.r j) : (s.add j (-1)).ok := by
  have ht : 0 < s.total := by
    have := (le_sum s.runs j h.r0).1
    have := h.sum
    unfold CS.r at hl; omega
  refine ⟨h.lm, by simp [CS.add, h.lr], h.jobs, h.all0, h.all1, ?_, ?_, h.m0, h.m1, fun k => ?_, fun k => ?_, ?_⟩
  · show 0 ≤ s.total + -1; omega
  · have := h.tot1; show s.total + -1 ≤ s.all; omega
  · rw [s.add_r j k _ h.lr hj]; have := h.r0 k; split <;> omega
  · rw [s.add_r j k _ h.lr hj, s.add_m]; have := h.r1 k; split
    · rename_i e; subst e; omega
    · omega
  · show s.total + -1 = (s.runs.set j (s.r j + -1)).sum
    rw [sum_set _ _ _ (by rw [h.lr]; exact hj)]
    have := h.sum
    unfold CS.r; omega

/-- The block b is caps in state s. -/
structure CapsAt (w : World) (b : Nat) (s : CS) : Prop where
  blk : Blk w b 57 s.cells
  ok : s.ok

theorem CapsAt.fr {S : Nat → Prop} {w w' : World} {b : Nat} {s : CS} (h : CapsAt w b s) (hb : Fr S w w') (hs : ¬ S b) : CapsAt w' b s := ⟨h.blk.fr hb hs, h.ok⟩
theorem CapsAt.alloc {w : World} {b : Nat} {s : CS} (h : CapsAt w b s) (o : Obj) : CapsAt (w.alloc o) b s := ⟨h.blk.alloc o, h.ok⟩
theorem CapsAt.drewN {w : World} {b : Nat} {s : CS} (h : CapsAt w b s) (n : Nat) : CapsAt (w.drewN n) b s := ⟨h.blk, h.ok⟩

theorem beyond_any (n : Int) (w : World) : Calls Try.prog 31 #[.int .i64 n] w fun e w' => e = .returned (.bool (decide (n < 0 ∨ 1000 < n))) ∧ w = w' := by
  by_cases h0 : n < 0
  · go_enter Try.func31, Try.ntmps31
    go_wp2
    go_ret
    exact ⟨by simp [h0], rfl⟩
  · go_enter Try.func31, Try.ntmps31
    go_wp2
    go_ret
    exact ⟨by simp; omega, rfl⟩

theorem count_raw (b : Nat) (job by_ r t : Int) (w : World) (j : Nat) (hj : job = j) (hlt : j < 64)
    (hr : w.cell? ⟨b, 67 + j, none⟩ = some (.int .i64 r)) (ht : w.cell? ⟨b, 131, none⟩ = some (.int .i64 t)) (hfr : ∀ i, w.frozen? ⟨b, i, none⟩ = false)
    (hb1 : -100000 ≤ by_) (hb2 : by_ ≤ 100000) (hr1 : -100000 ≤ r) (hr2 : r ≤ 100000) (ht1 : -100000 ≤ t) (ht2 : t ≤ 100000) :
    Calls Try.prog 30 #[.pointer (some ⟨b, 0, none⟩), .int .i64 job, .int .i64 by_] w fun e w' => e = .returned (.tuple #[.int .i64 0, .int .i64 0]) ∧
      w' = (w.drew.setCell ⟨b, 67 + j, none⟩ (.int .i64 (r + by_))).setCell ⟨b, 131, none⟩ (.int .i64 (t + by_)) := by
  subst hj
  go_enter Try.func30, Try.ntmps30
  go_wp2
  go_region
  go_wp2
  go_ret2
  exact ⟨rfl, rfl⟩


/-- The job's number is in range. -/
def CS.has (s : CS) (job : Int) : Bool := decide (0 ≤ job ∧ job < (s.jobs : Int))

theorem left_in (b : Nat) (s : CS) (w : World) (j : Nat) (hjobs : j < s.jobs) (h : CapsAt w b s) :
    Calls Try.prog 11 #[.pointer (some ⟨b, 0, none⟩), .int .i64 j] w fun e w' => e = .returned (.tuple #[.int .i64 (s.left j), .int .i64 0]) ∧ Fr No w w' := by
  have hj : j < 64 := Nat.lt_of_lt_of_le hjobs h.ok.jobs
  have c0 := (h.blk.cell 0).trans s.c0
  have c1 := (h.blk.cell 1).trans s.c1
  have c2 := (h.blk.cell 2).trans s.c2
  have cm := (h.blk.cell (3 + j)).trans (s.cm h.ok.lm j hj)
  have cr := (h.blk.cell (67 + j)).trans (s.cr h.ok.lm h.ok.lr j hj)
  have ct := (h.blk.cell 131).trans (s.ct h.ok.lm h.ok.lr)
  have hlt := h.blk.lt
  have a1 := h.ok.all0; have a2 := h.ok.all1; have a3 := h.ok.tot0; have a4 := h.ok.tot1
  have a5 := h.ok.m0 j; have a6 := h.ok.m1 j; have a7 := h.ok.r0 j; have a8 := h.ok.r1 j
  clear h
  unfold CS.left
  generalize s.m j = m at *
  generalize s.r j = r at *
  generalize s.all = al at *
  generalize s.total = tt at *
  generalize s.jobs = jb at *
  go_enter Try.func11, Try.ntmps11
  go_wp2
  go_quiet (fail)
  go_wp2
  all_goals
    go_ret2
    exact ⟨ret2i (by omega), (((Fr.refl _ _).alloc _).alloc _).drewN _⟩

theorem left_out (b : Nat) (s : CS) (w : World) (job : Int) (hjobs : s.has job = false) (h : CapsAt w b s) :
    Calls Try.prog 11 #[.pointer (some ⟨b, 0, none⟩), .int .i64 job] w fun e w' => e = .returned (.tuple #[.int .i64 0, .int .i64 3]) ∧ Fr No w w' := by
  have hh : job < 0 ∨ (s.jobs : Int) ≤ job := by unfold CS.has at hjobs; simp at hjobs; omega
  have c0 := (h.blk.cell 0).trans s.c0
  have c2 := (h.blk.cell 2).trans s.c2
  have hlt := h.blk.lt
  clear h hjobs
  generalize s.jobs = jb at *
  rcases hh with hh | hh
  · go_enter Try.func11, Try.ntmps11
    go_wp2
    go_ret2
    exact ⟨rfl, (((Fr.refl _ _).alloc _).alloc _)⟩
  · have h0 : ¬ job < 0 := by omega
    go_enter Try.func11, Try.ntmps11
    go_wp2
    go_ret2
    exact ⟨rfl, (((Fr.refl _ _).alloc _).alloc _)⟩
end Go.Proofs.Ytjgjbjigghfnbaa
