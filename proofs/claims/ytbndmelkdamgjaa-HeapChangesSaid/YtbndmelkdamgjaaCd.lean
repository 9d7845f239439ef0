/- HeapChanges: the heap, the values and the order, and what the calls do to them. -/
import Derived.Test.YtbndmelkdamgjaaCc
import Derived.Deep.RegionLaw
namespace Go.Proofs.Ytbndmelkdamgjaa.So
open Go.RowKit Go.Wk

/-- The blocks of the values and of the order. -/
abbrev TwoB (AL : Option Addr) (cL N : Nat) (AO : Option Addr) (cO m : Nat) : Nat → Prop := fun k => BlkOf (.slice AL N cL) k ∨ BlkOf (.slice AO m cO) k
/-- The heap, the values and the order, each by itself. -/
structure ChM (w wr : World) (b : Nat) (AL : Option Addr) (cL N : Nat) (AO : Option Addr) (cO m : Nat) (ls L : List Int) (s : List (En Int)) (g : Int) : Prop where
  h : OwnI 39 ltI w wr b (TwoB AL cL N AO cO m) s g
  l : wr.ownsRow w.heap.size 5 1 (.slice AL N cL) N (cells .u8 ls)
  o : wr.ownsRow w.heap.size 3 1 (.slice AO m cO) m (cells .i64 L)
section
variable {w wr w2 : World} {b : Nat} {AL : Option Addr} {cL N : Nat} {AO : Option Addr} {cO m : Nat} {ls L : List Int} {s : List (En Int)} {g : Int}
theorem ChM.fr0 (h : ChM w wr b AL cL N AO cO m ls L s g) (hf : Fr No wr w2) : ChM w w2 b AL cL N AO cO m ls L s g :=
  ⟨h.h.fr0 hf, own_fr h.l hf (fun _ _ z => z), own_fr h.o hf (fun _ _ z => z)⟩
theorem ChM.apart (h : ChM w wr b AL cL N AO cO m ls L s g) : ∀ k, (Value.slice AL N cL).ownBlock = some k → (Value.slice AO m cO).ownBlock ≠ some k := rows_ne h.l h.o (by decide)
theorem ChM.base (h : ChM w wr b AL cL N AO cO m ls L s g) : ∀ k, TwoB AL cL N AO cO m k → w.heap.size ≤ k := fun k hk => hk.elim (fun z => (h.l.lt k z).1) (fun z => (h.o.lt k z).1)
end
theorem ChM.store {w wr : World} {b G : Nat} {cL N : Nat} {AO : Option Addr} {cO m : Nat} {ls L : List Int} {s : List (En Int)} {g : Int} (h : ChM w wr b (some ⟨G, 0, none⟩) cL N AO cO m ls L s g) (i : Nat) (v : Int) :
    ChM w (wr.setCell ⟨G, i, none⟩ (.int .u8 v)) b (some ⟨G, 0, none⟩) cL N AO cO m (ls.set i v) L s g := by
  have hf : Fr (· = G) wr (wr.setCell ⟨G, i, none⟩ (.int .u8 v)) := by
    have := (Fr.refl (· = G) wr).setCell (p := ⟨G, i, none⟩) (.inr rfl) (.int .u8 v)
    exact this
  refine ⟨h.h.turnK (hf.mono (fun k hk => .inl (by subst hk; rfl))) h.base (fun k hk => .inl hk), ?_, own_fr h.o hf (fun k hk hc => h.apart k (by subst hc; rfl) hk)⟩
  have a := (h.l.stored i (.int .u8 v)).1
  have e : (cells .u8 ls).set i (.int .u8 v) = cells .u8 (ls.set i v) := by simp [cells, List.map_set]
  rw [e] at a
  exact a
theorem ch_del {w wr : World} {b GO : Nat} {AL : Option Addr} {cL N : Nat} {cO m : Nat} {ls : List Int} {s : List (En Int)} {g y : Int} (h : ChM w wr b AL cL N (some ⟨GO, 0, none⟩) cO N ls (ids s) s g) (x : Nat) (hx : Blk wr x 3 #[.int .i64 y]) (hne : x ≠ GO) (hn : (ids s).Nodup) (hy : y ∈ ids s) (hm : m + 1 = N) (hN : N ≤ 60) (hsl : s.length = N) :
    Calls Try.prog 54 #[.slice (some ⟨GO, 0, none⟩) N cO, .func (.func 55) #[] #[.pointer (some ⟨x, 0, none⟩)]] wr fun e w' => e = .returned (.slice (some ⟨GO, 0, none⟩) m cO) ∧ ChM w w' b AL cL N (some ⟨GO, 0, none⟩) cO m ls (ids (del y s)) s g ∧ Fr (· = GO) wr w' := by
  obtain ⟨k0, hk⟩ := once_of hn hy
  have hk1 : k0 < s.length := by have := hk.1; simpa [ids] using this
  have hd := del_idx s k0 hn hk1
  rw [hk.2.1] at hd
  refine (deletef_any GO N cO w.heap.size (ids s) y k0 x wr h.o hx hne hk (by omega)).mono ?_
  rintro e w' ⟨rfl, ho, hf⟩
  have hm2 : N - 1 = m := by omega
  rw [hd, hm2] at ho
  rw [hm2]
  refine ⟨rfl, ⟨h.h.turnK (hf.mono (fun k hk => .inr (by subst hk; rfl))) h.base (fun k hk => .inl ?_), own_fr h.l hf (fun k hk hc => h.apart k hk (by subst hc; rfl)), ho⟩, hf⟩
  rcases hk with hk | hk
  · exact .inl hk
  · exact .inr hk
theorem ch_ins {w wr : World} {b : Nat} {AL AO : Option Addr} {cL N : Nat} {cO m : Nat} {ls L : List Int} {s : List (En Int)} {g x : Int} (h : ChM w wr b AL cL N AO cO m ls L s g) (vb : Nat) (hv : Blk wr vb 3 #[.int .i64 x]) (hne : ∀ k, (Value.slice AO m cO).ownBlock = some k → k ≠ vb) (k : Nat) (hk : k ≤ m) (hm : m + 1 = N) (hN : N ≤ 60) :
    Calls Try.prog 56 #[.slice AO m cO, .int .i64 k, .slice (some ⟨vb, 0, none⟩) 1 1] wr fun e w' => ∃ A' c', e = .returned (.slice A' N c') ∧ ChM w w' b AL cL N A' c' N ls (L.take k ++ x :: L.drop k) s g ∧ Fr (BlkOf (.slice AO m cO)) wr w' := by
  refine (insert_any AO m cO k vb x L wr (own_base h.o (Nat.zero_le _)) hv hne hk (by omega)).mono ?_
  rintro e w' ⟨A', c', rfl, ho, hf, hb⟩
  rw [insL_cells, hm] at ho
  rw [hm] at hb
  rw [hm]
  have hfr := h.h.fr
  refine ⟨A', c', rfl, ⟨h.h.turnK (hf.mono (fun k hk => .inr hk)) h.base (fun k hk => ?_), own_fr h.l hf (fun k hk hc => h.apart k hk hc), own_up ho (fun k hk => ?_)⟩, hf⟩
  · rcases hk with hk | hk
    · exact .inl (.inl hk)
    · rcases hb k hk with h2 | h2
      · exact .inl (.inr h2)
      · exact .inr ⟨h2, (ho.lt k hk).2⟩
  · rcases hb k hk with h2 | h2
    · exact (h.o.lt k h2).1
    · exact Nat.le_trans hfr.size h2
theorem ch_chg {w wr : World} {b : Nat} {AL AO : Option Addr} {cL N : Nat} {cO m : Nat} {ls L : List Int} {s : List (En Int)} {g : Int} (h : ChM w wr b AL cL N AO cO m ls L s g) (x y : Int) (hx : fits x) (hxs : x ∈ ids s) (hg : g < 1000000000) :
    Calls Try.prog 34 #[.pointer (some ⟨b, 0, none⟩), .int .i64 x, .int .i64 y] wr fun e w' => e = .returned (.int .i64 0) ∧ ChM w w' b AL cL N AO cO m ls L (ins ltI ⟨x, y, g⟩ (del x s)) (g + 1) := by
  refine (oChange bef_lt h.h x y hx hxs hg).mono ?_
  rintro e w' ⟨rfl, h2, hf⟩
  exact ⟨rfl, h2, own_keep h.l hf (fun k hk => .inl hk), own_keep h.o hf (fun k hk => .inr hk)⟩
theorem OwnI_downK {f : Nat} {bf : Int → Int → Bool} {w w0 w1 : World} {b : Nat} {K : Nat → Prop} {s : List (En Int)} {g : Int} (h : OwnI f bf w w1 b No s g) (hf : Fr No w0 w) (hK : ∀ k, K k → k < w.heap.size) : OwnI f bf w0 w1 b K s g := by
  obtain ⟨D, h, hd, hk, h2⟩ := h
  exact ⟨D, h, fun k hk2 => ⟨Nat.le_trans hf.size (hd k hk2).1, fun hc => absurd (hK k hc) (Nat.not_lt.2 (hd k hk2).1)⟩, fun k hk => Nat.lt_of_lt_of_le (hK k hk) h2.size, hf.then0 h2⟩
theorem u8_in {xs : List Int} (hw : ∀ x ∈ xs, 0 ≤ x ∧ x ≤ 255) {k : Nat} (hk : k < xs.length) : 0 ≤ xs.getD k 0 ∧ xs.getD k 0 ≤ 255 := by
  have : xs.getD k 0 = xs[k] := by simp [hk]
  rw [this]
  exact hw _ (List.getElem_mem _)
/-- What the loop over the order reads. -/
theorem ChS.reads {ls : List Int} {N : Nat} {s : List (En Int)} {g : Int} (h : ChS ls N s g) {i : Nat} {v : Int} {k : Nat} (hk : k < (del (100 - (i : Int)) s).length) :
    ∃ iy : Nat, iy < N ∧ 100 - ((del (100 - (i : Int)) s).getD k default).id = (iy : Int) ∧ ((del (100 - (i : Int)) s).getD k default).id = 100 - (iy : Int) ∧ (ls.set i v).getD iy 0 = ((del (100 - (i : Int)) s).getD k default).v ∧ 0 ≤ ((del (100 - (i : Int)) s).getD k default).v ∧ ((del (100 - (i : Int)) s).getD k default).v ≤ 255 := by
  have hm := at_mem hk
  generalize (del (100 - (i : Int)) s).getD k default = e at *
  obtain ⟨h1, h2⟩ := (mem_del _ _ _).1 hm
  have h3 := h.ent e h1
  have hl : (100 - e.id).toNat < ls.length := by rw [h.lsn]; omega
  have h4 := u8_in h.wf hl
  rw [← h3.1] at h4
  refine ⟨(100 - e.id).toNat, by omega, by omega, by omega, ?_, h4⟩
  rw [h3.1]
  have hne : i ≠ (100 - e.id).toNat := by omega
  simp [hne]
end Go.Proofs.Ytbndmelkdamgjaa.So
