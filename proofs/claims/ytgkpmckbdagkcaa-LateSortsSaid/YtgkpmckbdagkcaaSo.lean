/- LateSorts: plain facts; has. -/
import Derived.Test.YtgkpmckbdagkcaaKe
namespace Go.Proofs.Ytgkpmckbdagkcaa
open Go.RowKit Go.Wk

theorem vw_ins (l : List LE) (e : LE) : (vw (insE l e)).Perm ((e.id, e.at_) :: vw l) := by
  unfold vw insE
  rw [List.map_append, List.map_cons]
  refine List.perm_middle.trans (List.Perm.cons _ ?_)
  rw [← List.map_append, List.take_append_drop]
/-- A list that holds just these ids and deadlines. -/
structure Holds (s : LS) (v : List (Int × Int)) : Prop where
  perm : (vw s.l).Perm v
  seq : s.seq = v.length
theorem Holds.new : Holds LS.new [] := ⟨List.Perm.refl _, rfl⟩
theorem Holds.not_in {s : LS} {v : List (Int × Int)} (h : Holds s v) {x : Int} (hx : ∀ p ∈ v, p.1 ≠ x) : getB s x = false := by
  unfold getB
  rw [mkOf_none]
  · rfl
  · intro e he
    exact hx (e.id, e.at_) (h.perm.mem_iff.1 (List.mem_map.2 ⟨e, he, rfl⟩))
theorem Holds.add {s : LS} {v : List (Int × Int)} (h : Holds s v) {x d : Int} (hx : ∀ p ∈ v, p.1 ≠ x) (hd : 0 ≤ d ∧ d ≤ 4611686018427387904) : addE s x d = 0 ∧ Holds (addS s x d) ((x, d) :: v) := by
  have e0 : addE s x d = 0 := by unfold addE; rw [if_neg (by omega), if_neg (by rw [h.not_in hx]; decide)]
  refine ⟨e0, ?_, ?_⟩
  · unfold addS
    rw [if_pos e0]
    exact (vw_ins s.l ⟨x, d, s.seq + 1⟩).trans (List.Perm.cons _ h.perm)
  · unfold addS
    rw [if_pos e0]
    show s.seq + 1 = _
    rw [h.seq, List.length_cons]; omega
theorem Holds.len {s : LS} {v : List (Int × Int)} (h : Holds s v) : s.l.length = v.length := by
  have := h.perm.length_eq
  simpa [vw] using this
theorem Holds.lt {s : LS} {v : List (Int × Int)} (hok : s.ok) (h : Holds s v) (hd : (v.map Prod.snd).Nodup) : (vw s.l).Pairwise (fun a b => a.2 < b.2) := by
  have h1 : ((vw s.l).map Prod.snd).Nodup := (h.perm.map Prod.snd).nodup_iff.2 hd
  have h2 := hok.inc
  unfold vw at *
  rw [List.map_map] at h1
  rw [List.pairwise_map]
  unfold List.Nodup at h1
  rw [List.pairwise_map] at h1
  refine (h1.and h2).imp ?_
  intro a b hab
  obtain ⟨hne, hlt⟩ := hab
  have hne' : a.at_ ≠ b.at_ := hne
  unfold ltM LE.mk_ at hlt
  dsimp only at hlt ⊢
  omega
theorem holds_eq {s s' : LS} {v v' : List (Int × Int)} (hok : s.ok) (hok' : s'.ok) (h : Holds s v) (h' : Holds s' v') (hp : v.Perm v') (hd : (v.map Prod.snd).Nodup) : vw s.l = vw s'.l := by
  have hd' : (v'.map Prod.snd).Nodup := (hp.map Prod.snd).nodup_iff.1 hd
  have h1 := h.lt hok hd
  have h2 := h'.lt hok' hd'
  have hpp : (vw s.l).Perm (vw s'.l) := (h.perm.trans hp).trans h'.perm.symm
  exact hpp.eq_of_pairwise (fun a b _ _ hab hba => by omega) h1 h2

/-- The numbers of a list, and each behind its place: from the front, and from the back. -/
def frontP (d : List Int) (k : Nat) : List (Int × Int) := ((List.range k).map (fun (i : Nat) => ((i : Int), d.getD i 0))).reverse
def backP (d : List Int) (k : Nat) : List (Int × Int) := (List.range k).reverse.map (fun (i : Nat) => (((d.length - 1 - i : Nat) : Int), d.getD (d.length - 1 - i) 0))
theorem frontP_succ (d : List Int) (k : Nat) : frontP d (k + 1) = ((k : Int), d.getD k 0) :: frontP d k := by
  unfold frontP
  rw [List.range_succ, List.map_append, List.reverse_append]
  rfl
theorem backP_succ (d : List Int) (k : Nat) : backP d (k + 1) = (((d.length - 1 - k : Nat) : Int), d.getD (d.length - 1 - k) 0) :: backP d k := by
  unfold backP
  rw [List.range_succ, List.reverse_append]
  rfl
theorem frontP_mem {d : List Int} {k : Nat} {p : Int × Int} (h : p ∈ frontP d k) : p.1 ≠ (k : Int) := by
  unfold frontP at h
  rw [List.mem_reverse, List.mem_map] at h
  obtain ⟨i, hi, rfl⟩ := h
  rw [List.mem_range] at hi
  show ((i : Nat) : Int) ≠ _
  omega
theorem backP_mem {d : List Int} {k : Nat} (hk : k < d.length) {p : Int × Int} (h : p ∈ backP d k) : p.1 ≠ ((d.length - 1 - k : Nat) : Int) := by
  unfold backP at h
  rw [List.mem_map] at h
  obtain ⟨i, hi, rfl⟩ := h
  rw [List.mem_reverse, List.mem_range] at hi
  show ((d.length - 1 - i : Nat) : Int) ≠ _
  omega
theorem front_back (d : List Int) : (frontP d d.length).Perm (backP d d.length) := by
  have e : backP d d.length = (List.range d.length).map (fun (i : Nat) => ((i : Int), d.getD i 0)) := by
    unfold backP
    apply List.ext_getElem
    · simp
    · intro i h1 h2
      simp only [List.length_map, List.length_range] at h2
      have e : d.length - 1 - (d.length - 1 - i) = i := by omega
      simp only [List.getElem_map, List.getElem_reverse, List.getElem_range, List.length_range, e]
  rw [e]
  unfold frontP
  exact List.reverse_perm _
theorem front_snd (d : List Int) (hd : d.Nodup) : ((frontP d d.length).map Prod.snd).Nodup := by
  unfold frontP
  rw [List.map_reverse, List.map_map, (List.reverse_perm _).nodup_iff]
  have : (List.range d.length).map (Prod.snd ∘ fun (i : Nat) => ((i : Int), d.getD i 0)) = d := by
    apply List.ext_getElem
    · simp
    · intro i h1 h2
      simp [h2]
  rw [this]
  exact hd
theorem ids_front {s : LS} {d : List Int} (h : Holds s (frontP d d.length)) {k : Nat} (hk : k < d.length) : (k : Int) ∈ ids s.l := by
  rw [ids_vw]
  have : ((k : Int), d.getD k 0) ∈ vw s.l := h.perm.mem_iff.2 (by
    unfold frontP
    rw [List.mem_reverse, List.mem_map]
    exact ⟨k, List.mem_range.2 hk, rfl⟩)
  exact List.mem_map.2 ⟨_, this, rfl⟩

theorem has_any (A : Option Addr) (n c : Nat) (l : List Int) (x : Int) (w : World) (h : Reads w w.heap.size 1 A n (l.map (Value.int .i64))) (hm : n ≤ 9223372036854775807) (hx : x ∈ l) :
    Calls Try.prog 16 #[.slice A n c, .int .i64 x] w fun e w' => e = .returned (.bool true) ∧ w' = w := by
  have HR := Lib.hid h
  have HL := Lib.hid h.length_ints
  have HE := Lib.hid (show ∃ j, j < n ∧ l.getD j 0 = x by
    obtain ⟨j, hj, rfl⟩ := List.mem_iff_getElem.1 hx
    exact ⟨j, by rw [← HL.out]; exact hj, by simp [hj]⟩)
  clear h hx
  go_enter Try.func16, Try.ntmps16
  go_wp2
  go_loopw [5] (fun i wr => ∃ k : Nat, i = .int .i64 k ∧ k ≤ n ∧ wr = w ∧ Hid (∀ j, j < k → l.getD j 0 ≠ x)) (fun i _ => n - (intOf i).toNat)
  case atStart => exact ⟨0, rfl, Nat.zero_le _, rfl, Lib.hid (fun j hj => by omega)⟩
  case round =>
    obtain ⟨k, rfl, hk, rfl, HK⟩ := hrel
    by_cases hlt : k < n
    · obtain ⟨g, off, rfl, _, a0⟩ := HR.out.int_at hlt
      by_cases hxy : l.getD k 0 = x
      · rw [hxy] at a0
        clear hxy
        go_wp2
        go_ret
        simp
      · have HK2 := Lib.hid (show ∀ j, j < k + 1 → l.getD j 0 ≠ x from fun j hj => by
          by_cases e : j = k
          · rw [e]; exact hxy
          · exact HK.out j (by omega))
        generalize l.getD k 0 = y at *
        have hb : (y == x) = false := by simpa using hxy
        clear hxy
        go_wp2
        go_roundw
        case rel => exact ⟨k + 1, by go_num, by omega, trivial, HK2⟩
        case measure => simp [intOf]; omega
    · obtain ⟨j, hj, hjx⟩ := HE.out
      exact absurd hjx (HK.out j (by omega))
end Go.Proofs.Ytgkpmckbdagkcaa
