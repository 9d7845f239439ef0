/- The contracts of aging's Check, Key, Level, Overtake, and the document's. -/
import Derived.Test.YtabajcofddhelaaD
namespace Go.Proofs.Ytabajcofddhelaa
open Go.RowKit Go.Wk

theorem reads1 (w : World) (x : IV) : Reads (w.alloc (.cells #[.int .i64 x.id, .int .i64 x.pr, .int .i64 x.since, .int .i64 x.seq] 23)) (w.alloc (.cells #[.int .i64 x.id, .int .i64 x.pr, .int .i64 x.since, .int .i64 x.seq] 23)).heap.size 4 (some ⟨w.heap.size, 0, none⟩) 1 (icells [x]) :=
  reads_blk w 23 (icells [x]) 1 4 rfl
theorem reads2 (w : World) (x z : IV) : Reads (w.alloc (.cells #[.int .i64 x.id, .int .i64 x.pr, .int .i64 x.since, .int .i64 x.seq, .int .i64 z.id, .int .i64 z.pr, .int .i64 z.since, .int .i64 z.seq] 23)) (w.alloc (.cells #[.int .i64 x.id, .int .i64 x.pr, .int .i64 x.since, .int .i64 x.seq, .int .i64 z.id, .int .i64 z.pr, .int .i64 z.since, .int .i64 z.seq] 23)).heap.size 4 (some ⟨w.heap.size, 0, none⟩) 2 (icells [x, z]) :=
  reads_blk w 23 (icells [x, z]) 2 4 rfl

theorem check1 (x : IV) (y : Int) (w : World) : Calls Try.prog 32 #[.int .i64 y, .slice (some ⟨w.heap.size, 0, none⟩) 1 1] (w.alloc (.cells #[.int .i64 x.id, .int .i64 x.pr, .int .i64 x.since, .int .i64 x.seq] 23)) fun e w' => e = .returned (.int .i64 (chkE y [x])) ∧ Fr No (w.alloc (.cells #[.int .i64 x.id, .int .i64 x.pr, .int .i64 x.since, .int .i64 x.seq] 23)) w' :=
  check_any _ 1 1 [x] y _ (reads1 w x) (by omega)
theorem check2 (x z : IV) (y : Int) (w : World) : Calls Try.prog 32 #[.int .i64 y, .slice (some ⟨w.heap.size, 0, none⟩) 2 2] (w.alloc (.cells #[.int .i64 x.id, .int .i64 x.pr, .int .i64 x.since, .int .i64 x.seq, .int .i64 z.id, .int .i64 z.pr, .int .i64 z.since, .int .i64 z.seq] 23)) fun e w' => e = .returned (.int .i64 (chkE y [x, z])) ∧ Fr No (w.alloc (.cells #[.int .i64 x.id, .int .i64 x.pr, .int .i64 x.since, .int .i64 x.seq, .int .i64 z.id, .int .i64 z.pr, .int .i64 z.since, .int .i64 z.seq] 23)) w' :=
  check_any _ 2 2 [x, z] y _ (reads2 w x z) (by omega)

theorem Check_any (x : IV) (y : Int) (w : World) : Calls Try.prog 16 #[.agg #[.int .i64 x.id, .int .i64 x.pr, .int .i64 x.since, .int .i64 x.seq], .int .i64 y] w fun e w' => e = .returned (.int .i64 (chkE y [x])) ∧ Fr No w w' := by
  have HC := Lib.hid (check1 x y (w.alloc (.cells #[.int .i64 x.id, .int .i64 x.pr, .int .i64 x.since, .int .i64 x.seq] 23)))
  have HF := Lib.hid (((Fr.refl No w).alloc (.cells #[.int .i64 x.id, .int .i64 x.pr, .int .i64 x.since, .int .i64 x.seq] 23)).alloc (.cells #[.int .i64 x.id, .int .i64 x.pr, .int .i64 x.since, .int .i64 x.seq] 23))
  rw [World.size_alloc] at HC
  go_enter Try.func16, Try.ntmps16
  go_wp2_with fail
  refine HC.out.mono ?_
  rintro e w1 ⟨rfl, hf⟩
  go_wp2
  go_ret
  exact ⟨rfl, HF.out.then0 hf⟩

theorem chkE_ok {y : Int} {l : List IV} (h : chkE y l = 0) : (1 ≤ y ∧ y ≤ 68719476736) ∧ ∀ x ∈ l, Ok x := by
  unfold chkE at h
  by_cases hy : yearsE y = 0
  · rw [if_neg (by simpa using hy)] at h
    refine ⟨by unfold yearsE at hy; by_cases hh : y < 1 ∨ 68719476736 < y
               · rw [if_pos hh] at hy; omega
               · omega, ?_⟩
    induction l with
    | nil => intro x hx; simp at hx
    | cons a l ih =>
      unfold firstE at h
      by_cases ha : oneE a = 0
      · rw [if_neg (by simpa using ha)] at h
        intro x hx
        rcases List.mem_cons.1 hx with rfl | hx
        · rcases oneE_cases x with ⟨_, h2⟩ | ⟨_, _, h2⟩ | ⟨_, _, _, h2⟩ | ⟨_, _, _, _, h2⟩ | ⟨h1, h2, h3, h4, _⟩
          · omega
          · omega
          · omega
          · omega
          · exact ⟨by omega, by omega, by omega, by omega⟩
        · exact ih h x hx
      · rw [if_pos ha] at h; exact absurd h ha
  · rw [if_pos hy] at h; exact absurd h hy
theorem chkE_good {y : Int} {l : List IV} (y0 : 1 ≤ y) (y1 : y ≤ 68719476736) (h : ∀ x ∈ l, Ok x) : chkE y l = 0 := by
  have hy : yearsE y = 0 := by unfold yearsE; rw [if_neg (by omega)]
  unfold chkE
  rw [if_neg (by simpa using hy)]
  induction l with
  | nil => rfl
  | cons a l ih =>
    unfold firstE
    have ha := h a (by simp)
    have : oneE a = 0 := by
      have h1 := ha.p0; have h2 := ha.p1; have h3 := ha.s0; have h4 := ha.s1
      unfold oneE
      rw [if_neg (by omega), if_neg (by omega)]
    rw [if_neg (by simpa using this)]
    exact ih (fun x hx => h x (by simp [hx]))

/-- Key: the key, or 0. -/
def keyK (y : Int) (x : IV) : Int := if chkE y [x] = 0 then keyV y x else 0
theorem Key_any (p s y : Int) (w : World) : Calls Try.prog 12 #[.int .i64 p, .int .i64 s, .int .i64 y] w fun e w' => e = .returned (.tuple #[.int .i64 (keyK y ⟨0, p, s, 0⟩), .int .i64 (chkE y [⟨0, p, s, 0⟩])]) ∧ Fr No w w' := by
  have HC := Lib.hid (check1 ⟨0, p, s, 0⟩ y (w.alloc (.cells #[.int .i64 0, .int .i64 p, .int .i64 s, .int .i64 0] 23)))
  have HF := Lib.hid (((Fr.refl No w).alloc (.cells #[.int .i64 0, .int .i64 p, .int .i64 s, .int .i64 0] 23)).alloc (.cells #[.int .i64 0, .int .i64 p, .int .i64 s, .int .i64 0] 23))
  have HB := Lib.hid ((Blk.new w 23 #[.int .i64 0, .int .i64 p, .int .i64 s, .int .i64 0]).alloc (.cells #[.int .i64 0, .int .i64 p, .int .i64 s, .int .i64 0] 23))
  dsimp only at HC
  rw [World.size_alloc] at HC
  unfold keyK
  by_cases hk : chkE y [⟨0, p, s, 0⟩] = 0
  · obtain ⟨⟨y0, y1⟩, hok⟩ := chkE_ok hk
    have HK := Lib.hid (fun X => key_any ⟨0, p, s, 0⟩ y X (hok _ (by simp)) y0 y1)
    rw [hk] at HC ⊢
    rw [if_pos rfl]
    clear hk hok
    generalize keyV y ⟨0, p, s, 0⟩ = r at *
    dsimp only at HK
    go_enter Try.func12, Try.ntmps12
    go_wp2_with fail
    refine HC.out.mono ?_
    rintro e w1 ⟨rfl, hf⟩
    have hb := HB.out.fr hf (fun x => x)
    have s0 := hb.cell 0
    have s1 := hb.cell 1
    have s2 := hb.cell 2
    have s3 := hb.cell 3
    simp only [List.getElem?_toArray, List.getElem?_cons_succ, List.getElem?_cons_zero] at s0 s1 s2 s3
    have HF1 := Lib.hid (HF.out.then0 hf)
    clear hb hf
    go_wp2_with fail
    refine (HK.out _).mono ?_
    rintro e w2 ⟨rfl, hf⟩
    go_wp2
    go_ret2
    exact ⟨rfl, HF1.out.then0 hf⟩
  · rw [if_neg hk]
    have hkb : (chkE y [⟨0, p, s, 0⟩] != 0) = true := by simpa using hk
    generalize chkE y [⟨0, p, s, 0⟩] = k at *
    go_enter Try.func12, Try.ntmps12
    go_wp2_with fail
    refine HC.out.mono ?_
    rintro e w1 ⟨rfl, hf⟩
    go_wp2
    go_ret2
    exact ⟨rfl, HF.out.then0 hf⟩
end Go.Proofs.Ytabajcofddhelaa
