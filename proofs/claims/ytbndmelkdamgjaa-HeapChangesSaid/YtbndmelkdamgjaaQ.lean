/- The heap of integers: Push. -/
import Derived.Test.YtbndmelkdamgjaaP
import Derived.Deep.RegionLaw
namespace Go.Proofs.Ytbndmelkdamgjaa
open Go.RowKit Go.Wk

theorem OkL.push {V : Type} {l : List (En V)} {g : Int} (h : OkL l g) {e : En V} (hf : fits e.id) (hp : e.p = g) (hg : g < 1000000000) : OkL (l ++ [e]) (g + 1) := by
  have hn := h.n
  refine ⟨fun a ha => ?_, fun a ha => ?_, fun a ha a' ha' haa => ?_, ?_, by omega⟩
  · rcases List.mem_append.1 ha with h1 | h1
    · exact h.fit a h1
    · simp at h1; subst h1; exact hf
  · rcases List.mem_append.1 ha with h1 | h1
    · have := h.lo a h1; omega
    · simp at h1; subst h1; omega
  · rcases List.mem_append.1 ha with h1 | h1 <;> rcases List.mem_append.1 ha' with h2 | h2
    · exact h.pd a h1 a' h2 haa
    · simp at h2; subst h2; have := (h.lo a h1).2; omega
    · simp at h1; subst h1; have := (h.lo a' h2).2; omega
    · simp at h1 h2; subst h1; subst h2; rfl
  · rw [List.length_append, List.length_singleton]; omega

set_option maxRecDepth 100000 in
set_option maxHeartbeats 4000000 in
theorem Push_new {f : Nat} {bf : Int → Int → Bool} (B : Bef (Value.int .i64) bf f) (b bm : Nat) (v : Value) (l s : List (En Int)) (g : Int) (x y : Int) (hx : fits x) (hxs : x ∉ ids s) (hg1 : g < 1000000000) (w : World) (h : HI f bf w b bm v l s g) :
    Calls Try.prog 32 #[.pointer (some ⟨b, 0, none⟩), .int .i64 x, .int .i64 y] w fun e w' => e = .returned (.int .i64 0) ∧ TurnI f bf w b (dom b bm v) (ins bf ⟨x, y, g⟩ s) (g + 1) w' := by
  obtain ⟨i0, hi, hz0, hz1, hz2⟩ : ∃ i, Try.prog.info? 95 = some i ∧ i.zero = some (.agg #[.int .i64 0, .int .i64 0, .int .i64 0]) ∧ i.size = 3 ∧ i.bytes = 24 := ⟨_, rfl, rfl, rfl, rfl⟩
  obtain ⟨A, c, rfl⟩ := h.at_.form
  obtain ⟨c0, c1, c2, c3⟩ := h.at_.cells
  have HV := Lib.hid (made_cell b w c0)
  have HHAS := Lib.hid (Has_in b bm _ l s g x hx w h)
  have hdx : decide (x ∈ ids s) = false := by simpa using hxs
  rw [hdx] at HHAS
  have HH := Lib.hid h
  obtain ⟨fm, hmf, hpl⟩ := h.at_.mp
  have hap := h.at_.apart
  have hn := h.at_.ok.n
  have hbl := h.at_.blk.lt
  have hfx : fm x = none := by
    have := h.has hpl x
    rw [hdx] at this
    simpa using this
  obtain ⟨n, hnn⟩ : ∃ n, n = l.length := ⟨_, rfl⟩
  have HN := Lib.hid hnn
  obtain ⟨w1, hput, M1, hf1⟩ := (hmf.fr (Fr.refl No w).drew (fun z => z)).put Try.underlying3 Try.underlying43 (by unfold maxLen; omega) hx (n : Int)
  have F1 := Lib.hid (show Fr (· = bm) w w1 from ((Fr.refl (· = bm) w).drew).trans hf1 (fun _ _ z => z))
  have PL := Lib.hid (hpl.push ⟨x, y, g⟩ hfx)
  have OKP := Lib.hid (h.at_.ok.push (e := ⟨x, y, g⟩) hx rfl hg1)
  have MM1 := Lib.hid M1
  have B1 := Lib.hid (show Blk w1 b 93 #[.func (.func f) #[] #[], .slice A n c, .map (some bm), .int .i64 g] from by rw [hnn]; exact h.at_.blk.fr F1.out (Ne.symm hap.1))
  have O1 := Lib.hid (show w1.ownsRow 0 95 3 (.slice A n c) n (ecells CI l) by rw [hnn]; exact own_fr h.at_.own F1.out (fun k hk e => hap.2.2 k hk e))
  have UP := Lib.hid (h.hp.push (bf := bf) ⟨x, y, g⟩)
  have HPL := Lib.hid (fun e => (Iff.rfl : e ∈ l ++ [(⟨x, y, g⟩ : En Int)] ↔ e ∈ l ++ [(⟨x, y, g⟩ : En Int)]))
  have HAP := Lib.hid hap
  have HB := Lib.hid B
  rw [← hnn] at c1 hn
  have hng : (n : Int) ≤ 1000000000 := by omega
  have hw1 : g + 1 ≤ 1000000000 := by omega
  have hg0 : 0 ≤ g := by omega
  have d1 := B1.out.cell 1
  have d3 := B1.out.cell 3
  have z1 := B1.out.frozen 1
  have hb1 := B1.out.lt
  simp only [List.getElem?_toArray, List.getElem?_cons_zero, List.getElem?_cons_succ] at d1 d3
  have HB1 := Lib.hid (show (n + 1) * 24 ≤ 140737488355328 by omega)
  have HB0 := Lib.hid (show n + 1 ≤ maxLen by unfold maxLen; omega)
  obtain ⟨wx, hwx⟩ : ∃ wx, wx = (w1.alloc (.cells #[.int .i64 x, .int .i64 y, .int .i64 g] 95)).drew := ⟨_, rfl⟩
  have FX := Lib.hid (show Fr No w1 wx by rw [hwx]; exact ((Fr.refl No w1).alloc _).drew)
  have HO := Lib.hid (show wx.ownsRow 0 95 3 (.slice A n c) n (ecells CI l) from own_fr O1.out FX.out (fun _ _ z => z))
  have HR := Lib.hid (show Reads wx wx.heap.size 3 (some ⟨w1.heap.size, 0, none⟩) 1 [.int .i64 x, .int .i64 y, .int .i64 g] by
    rw [hwx]; exact (reads_blk w1 95 [.int .i64 x, .int .i64 y, .int .i64 g] 1 3 rfl).drew)
  have HONE := Lib.hid (show ∀ q ∈ [Value.int .i64 x, .int .i64 y, .int .i64 g], q.oneCell' = true from fun q hq => by
    simp only [List.mem_cons, List.not_mem_nil, or_false] at hq
    rcases hq with rfl | rfl | rfl <;> rfl)
  have HWX := Lib.hid hwx
  rw [hwx] at HO HR
  have HG1 := Lib.hid hg1
  clear hwx h hmf hpl hap hf1 M1 hfx B hnn hdx
  go_enter Try.func32, Try.ntmps32
  go_wp2_with fail
  refine HV.out.mono ?_
  rintro e w0 ⟨rfl, rfl⟩
  go_wp2_with fail
  refine HHAS.out.mono ?_
  rintro e w0 ⟨rfl, rfl⟩
  go_wp2_with fail
  go_region
  clear c0 c1 c2 c3 hput
  go_wp2_with fail
  go_region_law ((refine step_append_any _ rfl (.tmp 27) (.tmp 35) 91 rfl 0 95 i0 (.agg #[.int .i64 0, .int .i64 0, .int .i64 0]) 3 24 Try.underlying91 hi hz0 hz1 hz2 rfl (by omega) (.slice A n c) n (ecells CI l) (by simp [Act.eval]) HO.out _ (some ⟨w1.heap.size, 0, none⟩) 1 1 _ (by simp [Act.eval]) HR.out HONE.out HB0.out HB1.out (Nat.zero_le _) ?_; intro v' w2 hown2 hg2 hloc2; obtain ⟨A2, q2, rfl⟩ := own_form' hown2; have F2 : Fr (fun k => (Value.slice A n c).ownBlock = some k) w1 w2 := ((Fr.refl _ w1).alloc _).drew.trans (Fr.of_grown (S := fun k => (Value.slice A n c).ownBlock = some k) hg2 (fun k hk => hk)) (fun _ _ z => z); have B2 := B1.out.fr F2 (fun e => own_blk_ne O1.out B1.out (by decide) b e rfl); have g1 := B2.cell 1; have y1 := B2.frozen 1; simp only [List.getElem?_toArray, List.getElem?_cons_zero, List.getElem?_cons_succ] at g1))
  all_goals
    have FF2 := Lib.hid F2
    have BB2 := Lib.hid B2
    have g3 := B2.cell 3
    have y3 := B2.frozen 3
    simp only [List.getElem?_toArray, List.getElem?_cons_zero, List.getElem?_cons_succ] at g3
    have OW := Lib.hid hown2
    have LOC := Lib.hid hloc2
    clear F2 B2 hown2 hg2 hloc2 d1 d3 z1
    have hsz : ∀ k, (Value.slice A2 (n + 1) q2).ownBlock = some k → (Value.slice A n c).ownBlock = some k ∨ w1.heap.size ≤ k := fun k hk => by
      rcases LOC.out with h1 | h1
      · exact .inl (by rw [← h1]; exact hk)
      · rw [h1] at hk; right; cases hk; simp
    have HSZ := Lib.hid hsz
    obtain ⟨w4, hw4⟩ : ∃ w4, w4 = (w2.setCell ⟨b, 1, none⟩ (.slice A2 (n + 1) q2)).setCell ⟨b, 3, none⟩ (.int .i64 (g + 1)) := ⟨_, rfl⟩
    have F4 := Lib.hid (show Fr (· = b) w2 w4 by rw [hw4]; exact ((Fr.refl (· = b) w2).setCell (.inr rfl) _).setCell (.inr rfl) _)
    have B4 := Lib.hid (show Blk w4 b 93 #[.func (.func f) #[] #[], .slice A2 (n + 1) q2, .map (some bm), .int .i64 (g + 1)] by
      rw [hw4]
      have := (BB2.out.set_ 1 (.slice A2 (n + 1) q2)).set_ 3 (.int .i64 (g + 1))
      simpa using this)
    have HWL := Lib.hid (show (l ++ [(⟨x, y, g⟩ : En Int)]).length = n + 1 by rw [List.length_append, List.length_singleton, HN.out])
    have hap2 : ∀ k, (Value.slice A2 (n + 1) q2).ownBlock = some k → k ≠ b := fun k hk e => by
      rcases HSZ.out k hk with h1 | h1
      · exact HAP.out.2.1 k (by rw [← HN.out]; exact h1) e
      · omega
    have H4 := Lib.hid (show AI f w4 b bm (.slice A2 (n + 1) q2) (l ++ [⟨x, y, g⟩]) (g + 1) from by
      refine ⟨B4.out, ?_, ⟨fun z => if z = x then some (n : Int) else fm z, ?_, ?_⟩, OKP.out, HH.out.at_.ne⟩
      · rw [HWL.out, ecells_app]
        exact own_fr OW.out F4.out (fun k hk e => hap2 k hk e)
      · have := (MM1.out.fr FF2.out (fun e => HAP.out.2.2 bm (by rw [← HN.out]; exact e) rfl)).fr F4.out HAP.out.1
        rwa [show (g + 1).toNat = g.toNat + 1 by omega]
      · have := PL.out
        rw [← HN.out] at this
        exact this)
    have UPC := Lib.hid (up_any f bf HB.out b bm _ _ (g + 1) w4 H4.out n (by rw [HWL.out]; omega) (by rw [HN.out]; exact UP.out))
    have HW4 := Lib.hid hw4
    clear hw4 hsz hap2
    go_wp2_with fail
    rw [← HW4.out]
    refine UPC.out.mono ?_
    rintro e w5 ⟨rfl, l5, h5⟩
    have H5 := Lib.hid h5
    clear h5
    go_wp2
    go_ret
    refine ⟨rfl, dom b bm (.slice A2 (n + 1) q2), ⟨bm, _, l5, rfl, HH.out.pushed HB.out.weak rfl H5.out.at_ H5.out.good H5.out.mem H5.out.len⟩, ?_, fun k hk => ?_⟩
    · have T : ∀ q : Nat, q < w.heap.size → dom b bm (.slice A l.length c) q → dom b bm (.slice A l.length c) q := fun _ _ z => z
      have f1 := (F1.out.mono (T := dom b bm (.slice A l.length c)) (fun k (hk : k = bm) => .inr (.inl hk))).trans (FF2.out.mono (T := dom b bm (.slice A l.length c)) (fun k hk => .inr (.inr (by rw [← HN.out]; exact hk)))) T
      refine (f1.trans (F4.out.mono (T := dom b bm (.slice A l.length c)) (fun k (hk : k = b) => .inl hk)) T).trans H5.out.fr (fun k hk1 hk2 => ?_)
      rcases hk2 with e | e | e
      · exact .inl e
      · exact .inr (.inl e)
      · rcases HSZ.out k e with h1 | h1
        · exact .inr (.inr (by rw [← HN.out]; exact h1))
        · have := F1.out.size; omega
    · rcases hk with e | e | e
      · exact .inl (.inl e)
      · exact .inl (.inr (.inl e))
      · rcases HSZ.out k e with h1 | h1
        · exact .inl (.inr (.inr (by rw [← HN.out]; exact h1)))
        · have := F1.out.size; right; omega
end Go.Proofs.Ytbndmelkdamgjaa
