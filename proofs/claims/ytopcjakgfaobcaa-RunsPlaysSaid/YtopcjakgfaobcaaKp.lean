/- RunsKeeps: the walk. -/
import Derived.Test.YtopcjakgfaobcaaKpP
namespace Go.Proofs.Ytopcjakgfaobcaa
open Go.RowKit Go.Wk

theorem RowOwn.grow {w W W' : World} {D : Nat → Prop} {A A' : Option Addr} {c c' m n : Nat} {l : List RV} {l' : List RV} (h : RowOwn w W D A c m l) (ho : W'.ownsRow w.heap.size 31 5 (.slice A' n c') n (rcells l'))
    (hl : (Value.slice A' n c').ownBlock = (Value.slice A m c).ownBlock ∨ (Value.slice A' n c').ownBlock = some W.heap.size) (hD : ∀ k, D k → k < W.heap.size) : RowOwn w W' D A' c' n l' :=
  ⟨ho, fun k hk hd => hl.elim (fun e => h.nd k (e ▸ hk) hd) (fun e => by rw [hk] at e; injection e with e; have := hD k hd; omega)⟩
theorem Own.grown {w W W' : World} {b : Nat} {D : Nat → Prop} {s : TS} {A : Option Addr} {c m : Nat} {l : List RV} (h : Own w W b D s) (hr : RowOwn w W D A c m l) (hg : W.grownBy W' (Value.slice A m c).ownBlock) : Own w W' b D s :=
  h.beside (Fr.of_grown (S := fun k => (Value.slice A m c).ownBlock = some k) hg (fun _ hk => hk)) (fun _ hk => (hr.row.lt _ hk).1) (fun k hd hk => hr.nd k hk hd)

theorem row_le {w : World} {base n c : Nat} {A : Option Addr} {e : TypeId} {size : Nat} {xs : List Value} (h : w.ownsRow base e size (.slice A n c) n xs) : n ≤ c := by
  rcases h.2 with ⟨_, h0⟩ | ⟨g, cap, cur, hv, _, _, hnc, _⟩
  · omega
  · injection hv with _ _ hq
    omega
theorem _root_.Go.Wk.Reads.take5 {w : World} {B n p : Nat} {A : Option Addr} {l : List RV} (h : Reads w B 5 A n (rcells l)) (hp : p ≤ n) : Reads w B 5 A p (rcells (l.take p)) := by
  have hl : l.length = n := by have := h.1; rw [rcells_len] at this; omega
  refine ⟨by rw [rcells_len, List.length_take]; omega, fun h0 => ?_⟩
  obtain ⟨ad, e, hb, hc⟩ := h.2 (by omega)
  refine ⟨ad, e, hb, fun j u hu => hc j u ?_⟩
  rw [rcells_take, List.getElem?_take] at hu
  split at hu
  · exact hu
  · cases hu

set_option maxRecDepth 100000 in
set_option maxHeartbeats 8000000 in
theorem runsKeeps_walk (size : Int) (A : Option Addr) (n c : Nat) (es : List (List Int)) (w : World) (h : RowF kStp 48 w A n c es) (hn : n ≤ 9223372036854775807) (hz0 : 0 ≤ size) (hz1 : size ≤ 255) :
    Calls Try.prog 5 #[.int .u8 size, .slice A n c] w fun e w' => e = .returned (.bool true) ∧ Fr No w w' := by
  obtain ⟨i0, hi, hiz0, hiz1, hiz2⟩ : ∃ i, Try.prog.info? 31 = some i ∧ i.zero = some (.agg #[.int .i64 0, .int .i64 0, .int .i64 0, .int .i64 0, .int .i64 0]) ∧ i.size = 5 ∧ i.bytes = 40 := ⟨_, rfl, rfl, rfl, rfl⟩
  have HR := Lib.hid h
  have HFL := Lib.hid h.2.2.2.1
  clear h
  by_cases b1 : 80 < n
  · go_enter Try.func5, Try.ntmps5
    go_wp2_with fail
    refine (works_any _).mono ?_
    rintro x w1 ⟨rfl, hf⟩
    go_wp2
    go_ret
    exact ⟨rfl, hf⟩
  have hzz0 : 0 ≤ size % 101 := by omega
  have hzz1 : size % 101 ≤ 100 := by omega
  go_enter Try.func5, Try.ntmps5
  go_wp2_with fail
  generalize size % 101 = z at *
  refine (new_good z _ (by omega) (by omega)).mono ?_
  rintro x w1 ⟨rfl, hc, hf⟩
  have KP := Lib.hid (show KpI w w1 w.heap.size (· = w.heap.size) (.new z) z none 0 0 from ⟨⟨hc, hf, fun k hk => by omega⟩, ⟨own_nil _ _ _ _, fun k hk => by simp [Value.ownBlock] at hk⟩, rfl, rfl⟩)
  clear hc hf hz0 hz1
  go_wp2
  go_loopw [8, 9, 10] (fun vin vl i wr => ∃ (k : Nat) (D : Nat → Prop) (s : TS) (A' : Option Addr) (c' m : Nat), vin = .slice A' m c' ∧ vl = .int .i64 s.last ∧ i = .int .i64 k ∧ k ≤ n ∧ s.last ≤ k ∧ KpI w wr w.heap.size D s z A' c' m) (fun _ _ i _ => n - (intOf i).toNat)
  case atStart => exact ⟨0, _, .new z, none, 0, 0, rfl, rfl, rfl, Nat.zero_le _, Int.le_refl _, KP.out⟩
  case round =>
    clear KP
    obtain ⟨k, D, s, A', c', m, rfl, rfl, rfl, hk, hsl, KP0⟩ := hrel
    have KP := Lib.hid KP0
    have hl1 := KP0.own.tab.ok.len
    rw [KP0.len, KP0.size] at hl1
    have hll := KP0.own.tab.ok.l0
    have HSZ := Lib.hid KP0.size
    have HLN := Lib.hid KP0.len
    have HOK := Lib.hid KP0.own.tab.ok
    clear KP0
    by_cases hlt : k < n
    · obtain ⟨xb, xo, x, hx, rfl, hxb, _, h0, h1, h2, h3, h4, h5⟩ := six HR.out hlt
      have c0 := (KP.out.own.fr.cell (p := ⟨xb, xo + k * 6, none⟩) hxb (fun x => x)).trans h0
      have c1 := (KP.out.own.fr.cell (p := ⟨xb, xo + k * 6 + 1, none⟩) hxb (fun x => x)).trans h1
      have c2 := (KP.out.own.fr.cell (p := ⟨xb, xo + k * 6 + 2, none⟩) hxb (fun x => x)).trans h2
      have c3 := (KP.out.own.fr.cell (p := ⟨xb, xo + k * 6 + 3, none⟩) hxb (fun x => x)).trans h3
      have c4 := (KP.out.own.fr.cell (p := ⟨xb, xo + k * 6 + 4, none⟩) hxb (fun x => x)).trans h4
      have c5 := (KP.out.own.fr.cell (p := ⟨xb, xo + k * 6 + 5, none⟩) hxb (fun x => x)).trans h5
      clear h0 h1 h2 h3 h4 h5 hx
      have HNX := Lib.hid (show ¬ D wr.heap.size from fun a => by have := KP.out.own.tab.lt a; omega)
      generalize x.d = dd at *
      have HB := Lib.hid (Blk.new wr 42 #[.int .i64 dd, .int .i64 x.job, .int .i64 x.due, .int .i64 x.att, .int .i64 x.now, .int .i64 x.run])
      replace KP := Lib.hid (KP.out.fr0 ((Fr.refl No wr).alloc (.cells #[.int .i64 dd, .int .i64 x.job, .int .i64 x.due, .int .i64 x.att, .int .i64 x.now, .int .i64 x.run] 42)))
      by_cases hd : dd = 1
      · subst hd
        obtain ⟨x0, x1, x2, x3, x4, x5⟩ := cells6 HB.out
        go_wp2
        clear x0 x1 x2 x3 x4 x5 c0 c1 c2 c3 c4 c5
        go_loopw [12, 13] (fun at_ q wq => ∃ qn : Nat, q = .int .i64 qn ∧ qn ≤ m ∧ at_ = .int .i64 (atk s.live x.run qn) ∧ KpI w wq w.heap.size D s z A' c' m ∧ Blk wq wr.heap.size 42 #[.int .i64 1, .int .i64 x.job, .int .i64 x.due, .int .i64 x.att, .int .i64 x.now, .int .i64 x.run]) (fun _ q _ => m - (intOf q).toNat)
        case atStart => exact ⟨0, rfl, Nat.zero_le _, rfl, KP.out, HB.out⟩
        case round =>
          clear KP HB
          obtain ⟨q, rfl, hq, rfl, KP0, HB0⟩ := hrel
          have HB := Lib.hid HB0
          have KP := Lib.hid KP0
          obtain ⟨x0, x1, x2, x3, x4, x5⟩ := cells6 HB0
          clear HB0
          by_cases hqm : q < m
          · have HAK := Lib.hid (show atk s.live x.run (q + 1) = if (s.live.getD q RV.zero).id = x.run then (q : Int) else atk s.live x.run q from rfl)
            obtain ⟨g, off, rfl, _, _, a0, _, _, _, _⟩ := reads_run KP0.row.rd hqm
            clear KP0
            generalize s.live.getD q RV.zero = y at *
            by_cases hid' : y.id = x.run
            · rw [if_pos hid'] at HAK
              go_wp2
              go_quiet (fail)
              go_wp2
              go_roundw
              case rel => exact ⟨q + 1, by go_num, by omega, vi HAK.out.symm, KP.out.fr0 ((Fr.refl No _).drewN _), HB.out.drewN _⟩
              case measure => simp [intOf]; omega
            · rw [if_neg hid'] at HAK
              go_wp2
              go_quiet (fail)
              go_wp2
              go_roundw
              case rel => exact ⟨q + 1, by go_num, by omega, vi HAK.out.symm, KP.out.fr0 ((Fr.refl No _).drewN _), HB.out.drewN _⟩
              case measure => simp [intOf]; omega
          · clear KP0
            have hqe : q = m := by omega
            cases hp : s.pos x.run with
            | none =>
              have e1 : atk s.live x.run q = -1 := atk_none hp q (by rw [HLN.out]; omega)
              rw [e1]
              clear e1
              go_wp2_with fail
              refine (finish_none _ D s _ x.run KP.out.own.tab hp).mono ?_
              rintro e w7 ⟨rfl, hf⟩
              rw [zero_agg]
              have F1 := hf.alloc (.cells #[.int .i64 0, .int .i64 0, .int .i64 0, .int .i64 0, .int .i64 0] 31)
              obtain ⟨e0, e1, e2, e3, e4⟩ := cells5 (Blk.new w7 31 #[.int .i64 0, .int .i64 0, .int .i64 0, .int .i64 0, .int .i64 0])
              replace KP := Lib.hid (KP.out.fr0 F1)
              clear F1 hf x0 x1 x2 x3 x4 x5 HB HNX
              go_wp2
              go_roundw
              case rel => exact ⟨k + 1, D, s, A', c', m, rfl, rfl, by go_num, by omega, by omega, KP.out⟩
              case measure => simp [intOf]; omega
            | some p =>
              obtain ⟨hpl, hpi⟩ := pos_lt hp
              have hpm : p < m := by rw [← HLN.out]; exact hpl
              have e1 : atk s.live x.run q = p := by rw [atk_some HOK.out hp q (by rw [HLN.out]; omega), if_pos (by omega)]
              rw [e1]
              clear e1 hpi hpl
              go_wp2_with fail
              refine (finish_some _ D s _ x.run p KP.out.own.tab hp).mono ?_
              rintro e w7 ⟨rfl, ht, hf⟩
              unfold RV.agg
              have HROW := Lib.hid (KP.out.row.next hf (fun k hk => .inl hk))
              have HOWN := Lib.hid (KP.out.own.next ht hf (fun k hk => .inl hk))
              clear ht hf x0 x1 x2 x3 x4 x5 HB HNX KP
              obtain ⟨y, hy⟩ : ∃ y, y = s.live.getD p RV.zero := ⟨_, rfl⟩
              rw [← hy]
              have F1 := (Fr.refl No w7).alloc (.cells #[.int .i64 y.id, .int .i64 y.job, .int .i64 y.due, .int .i64 y.att, .int .i64 y.start] 31)
              obtain ⟨e0, e1, e2, e3, e4⟩ := cells5 (Blk.new w7 31 #[.int .i64 y.id, .int .i64 y.job, .int .i64 y.due, .int .i64 y.att, .int .i64 y.start])
              replace HROW := Lib.hid (HROW.out.fr0 F1)
              replace HOWN := Lib.hid (HOWN.out.fr0 F1)
              obtain ⟨g, off, rfl, _, _, a0, a1, a2, a3, a4⟩ := reads_run HROW.out.rd hpm
              rw [← hy] at a0 a1 a2 a3 a4
              clear hy F1
              go_wp2
              go_quiet (fail)
              go_wp2_with fail
              replace HROW := Lib.hid (HROW.out.fr0 ((Fr.refl No _).drewN nq))
              replace HOWN := Lib.hid (HOWN.out.fr0 ((Fr.refl No _).drewN nq))
              generalize (w7.alloc (.cells #[.int .i64 y.id, .int .i64 y.job, .int .i64 y.due, .int .i64 y.att, .int .i64 y.start] 31)).drewN nq = wk at *
              clear e0 e1 e2 e3 e4 a0 a1 a2 a3 a4
              obtain ⟨g', cap, hform, hgb, hgl⟩ := HROW.out.row.form (by omega)
              injection hform with hf1 _ hf2
              injection hf1 with hf1
              injection hf1 with hf1 hf3
              subst hf1
              subst hf2
              subst hf3
              have hmc : m ≤ c' := row_le HROW.out.row
              have HRD := Lib.hid HROW.out.rd
              have O1 := Lib.hid (show (wk.drew.alloc (.cells #[] 31)).ownsRow wk.heap.size 31 5 (.slice (some ⟨wk.heap.size, 0, none⟩) 0 0) 0 [] from ⟨rfl, .inr ⟨wk.heap.size, 0, #[], rfl, Nat.le_refl _, Blk.new wk.drew 31 #[], Nat.le_refl _, Nat.zero_le _, rfl, rfl⟩⟩)
              have R1 := Lib.hid (((HRD.out.take5 (show p ≤ m by omega)).drew).alloc (w := wk.drew) (Nat.le_refl _) (.cells #[] 31))
              have HB0 := Lib.hid (show 0 + p ≤ maxLen by unfold maxLen; omega)
              have HB1 := Lib.hid (show (0 + p) * 40 ≤ 140737488355328 by omega)
              have HB2 := Lib.hid (show 0 + p + (m - (p + 1)) ≤ maxLen by unfold maxLen; omega)
              have HB3 := Lib.hid (show (0 + p + (m - (p + 1))) * 40 ≤ 140737488355328 by omega)
              have HBS := Lib.hid (show wk.heap.size ≤ (wk.drew.alloc (.cells #[] 31)).heap.size by simp)
              have FA := Lib.hid ((Fr.refl No wk).drew.alloc (.cells #[] 31))
              have hic : p ≤ c' := by omega
              have hic1 : p + 1 ≤ c' := by omega
              have hic2 : p + 1 ≤ m := by omega
              have hic3 : (0 : Int) ≤ (p : Int) + 1 := by omega
              have hic4 : (p : Int) + 1 ≤ (m : Int) := by omega
              have hic5 : (p : Int) ≤ (c' : Int) := by omega
              have hic6 : (m : Int) ≤ (c' : Int) := by omega
              have hwr : IntKind.i64.wrap ((p : Int) + 1) = (p : Int) + 1 := by simp only [IntKind.wrap_i64]; omega
              have hto : ((p : Int) + 1).toNat = p + 1 := by omega
              by_cases hci : c' = p + 1
              · have R2 := Lib.hid (show Reads wk wk.heap.size 5 (some ⟨g, 0, none⟩) (m - (p + 1)) (rcells (s.live.drop (p + 1))) from by
                  have := HRD.out.cut (k := p + 1) (cap := c') (by omega) hmc
                  rw [← rcells_drop] at this
                  simpa [hci, add_plain] using this)
                have hct : (c' = p + 1) = True := by simpa using hci
                have HCI := Lib.hid hci
                clear hci
                go_region_law ((first
                  | (refine step_append_any (wk.drew.alloc (.cells #[] 31)) rfl (.tmp 93) (.tmp 96) 37 rfl wk.heap.size 31 i0 (.agg #[.int .i64 0, .int .i64 0, .int .i64 0, .int .i64 0, .int .i64 0]) 5 40 Try.underlying37 hi hiz0 hiz1 hiz2 rfl (by omega) (.slice (some ⟨wk.heap.size, 0, none⟩) 0 0) 0 [] (by simp [Act.eval]) O1.out wk.heap.size (some ⟨g, 0, none⟩) p c' (rcells (s.live.take p)) (by simp [Act.eval]) R1.out (rcells_one _) HB0.out HB1.out HBS.out ?_; intro v2 w2 ho2 hg2 hl2; obtain ⟨A2, q2, rfl⟩ := own_form' ho2; have F2 := Lib.hid (FA.out.ownS (Fr.of_grown (S := (· = wk.heap.size)) hg2 (fun k hk => by simpa [Value.ownBlock] using hk.symm)) (fun k hk => Nat.le_of_eq hk.symm)); have HO2 := Lib.hid ho2; have HBS2 := Lib.hid F2.out.size; clear ho2 hg2 hl2)
                  | (refine step_append_any w2 rfl (.tmp 97) (.tmp 101) 37 rfl wk.heap.size 31 i0 (.agg #[.int .i64 0, .int .i64 0, .int .i64 0, .int .i64 0, .int .i64 0]) 5 40 Try.underlying37 hi hiz0 hiz1 hiz2 rfl (by omega) (.slice A2 (0 + p) q2) (0 + p) ([] ++ rcells (s.live.take p)) (by simp [Act.eval]) HO2.out wk.heap.size (some ⟨g, 0, none⟩) (m - (p + 1)) (c' - (p + 1)) (rcells (s.live.drop (p + 1))) (by simp [Act.eval]) (R2.out.fr F2.out (Nat.le_refl _) (fun _ _ x => x)) (rcells_one _) HB2.out HB3.out HBS2.out ?_; intro v3 w3 ho3 hg3 hl3; obtain ⟨A3, q3, rfl⟩ := own_form' ho3; have F3 := Lib.hid (F2.out.ownS (Fr.of_grown (S := fun k => (Value.slice A2 (0 + p) q2).ownBlock = some k) hg3 (fun k hk => hk)) (fun k hk => (HO2.out.lt k hk).1)); have HO3 := Lib.hid ho3; clear ho3 hg3 hl3)))
                all_goals
                  go_wp2
                  go_roundw
                  case measure => simp [intOf]; omega
                  case rel =>
                    refine ⟨k + 1, D, s.del p, A3, q3, 0 + p + (m - (p + 1)), by first | rfl | simp, rfl, by go_num, by omega, (show s.last ≤ ((k + 1 : Nat) : Int) by omega), HOWN.out.fr0 F3.out, ⟨?_, fun j hj hD => ?_⟩, ?_, HSZ.out⟩
                    · have := own_base HO3.out HOWN.out.fr.size
                      rw [List.nil_append, ← rcells_app] at this
                      have he : (s.del p).live = s.live.take p ++ s.live.drop (p + 1) := List.eraseIdx_eq_take_drop_succ _ _
                      rw [he]
                      exact this
                    · have h1 := (HO3.out.lt j hj).1
                      have h2 := HOWN.out.tab.lt hD
                      omega
                    · show (s.live.eraseIdx p).length = _
                      rw [List.length_eraseIdx_of_lt (by rw [HLN.out]; omega), HLN.out]
                      omega
              · have R2 := Lib.hid (show Reads wk wk.heap.size 5 (some ⟨g, (p + 1) * 5, none⟩) (m - (p + 1)) (rcells (s.live.drop (p + 1))) from by
                  have := HRD.out.cut (k := p + 1) (cap := c') (by omega) hmc
                  rw [← rcells_drop] at this
                  simpa [hci, add_plain] using this)
                go_region_law ((first
                  | (refine step_append_any (wk.drew.alloc (.cells #[] 31)) rfl (.tmp 93) (.tmp 96) 37 rfl wk.heap.size 31 i0 (.agg #[.int .i64 0, .int .i64 0, .int .i64 0, .int .i64 0, .int .i64 0]) 5 40 Try.underlying37 hi hiz0 hiz1 hiz2 rfl (by omega) (.slice (some ⟨wk.heap.size, 0, none⟩) 0 0) 0 [] (by simp [Act.eval]) O1.out wk.heap.size (some ⟨g, 0, none⟩) p c' (rcells (s.live.take p)) (by simp [Act.eval]) R1.out (rcells_one _) HB0.out HB1.out HBS.out ?_; intro v2 w2 ho2 hg2 hl2; obtain ⟨A2, q2, rfl⟩ := own_form' ho2; have F2 := Lib.hid (FA.out.ownS (Fr.of_grown (S := (· = wk.heap.size)) hg2 (fun k hk => by simpa [Value.ownBlock] using hk.symm)) (fun k hk => Nat.le_of_eq hk.symm)); have HO2 := Lib.hid ho2; have HBS2 := Lib.hid F2.out.size; clear ho2 hg2 hl2)
                  | (refine step_append_any w2 rfl (.tmp 97) (.tmp 101) 37 rfl wk.heap.size 31 i0 (.agg #[.int .i64 0, .int .i64 0, .int .i64 0, .int .i64 0, .int .i64 0]) 5 40 Try.underlying37 hi hiz0 hiz1 hiz2 rfl (by omega) (.slice A2 (0 + p) q2) (0 + p) ([] ++ rcells (s.live.take p)) (by simp [Act.eval]) HO2.out wk.heap.size (some ⟨g, (p + 1) * 5, none⟩) (m - (p + 1)) (c' - (p + 1)) (rcells (s.live.drop (p + 1))) (by simp [Act.eval]) (R2.out.fr F2.out (Nat.le_refl _) (fun _ _ x => x)) (rcells_one _) HB2.out HB3.out HBS2.out ?_; intro v3 w3 ho3 hg3 hl3; obtain ⟨A3, q3, rfl⟩ := own_form' ho3; have F3 := Lib.hid (F2.out.ownS (Fr.of_grown (S := fun k => (Value.slice A2 (0 + p) q2).ownBlock = some k) hg3 (fun k hk => hk)) (fun k hk => (HO2.out.lt k hk).1)); have HO3 := Lib.hid ho3; clear ho3 hg3 hl3)))
                all_goals
                  go_wp2
                  go_roundw
                  case measure => simp [intOf]; omega
                  case rel =>
                    refine ⟨k + 1, D, s.del p, A3, q3, 0 + p + (m - (p + 1)), by first | rfl | simp, rfl, by go_num, by omega, (show s.last ≤ ((k + 1 : Nat) : Int) by omega), HOWN.out.fr0 F3.out, ⟨?_, fun j hj hD => ?_⟩, ?_, HSZ.out⟩
                    · have := own_base HO3.out HOWN.out.fr.size
                      rw [List.nil_append, ← rcells_app] at this
                      have he : (s.del p).live = s.live.take p ++ s.live.drop (p + 1) := List.eraseIdx_eq_take_drop_succ _ _
                      rw [he]
                      exact this
                    · have h1 := (HO3.out.lt j hj).1
                      have h2 := HOWN.out.tab.lt hD
                      omega
                    · show (s.live.eraseIdx p).length = _
                      rw [List.length_eraseIdx_of_lt (by rw [HLN.out]; omega), HLN.out]
                      omega
      · obtain ⟨x0, x1, x2, x3, x4, x5⟩ := cells6 HB.out
        cases hA : okA x.job x.att with
        | false =>
          have HRT := Lib.hid (fun w => right_any dd x.job x.due x.att x.now x.run w)
          go_wp2_with fail
          refine (start_arg _ D s _ x.job x.due x.att x.now KP.out.own.tab hA).mono ?_
          rintro e w7 ⟨rfl, rfl⟩
          clear x0 x1 x2 x3 x4 x5 c0 c1 c2 c3 c4 c5
          obtain ⟨x0, x1, x2, x3, x4, x5⟩ := cells6 HB.out
          rw [hA, Bool.false_and] at HRT
          go_wp2_with fail
          refine (HRT.out _).mono ?_
          rintro e w8 ⟨rfl, hf⟩
          replace KP := Lib.hid (KP.out.fr0 hf)
          replace HB := Lib.hid (HB.out.fr0' hf)
          clear hf x0 x1 x2 x3 x4 x5
          obtain ⟨x0, x1, x2, x3, x4, x5⟩ := cells6 HB.out
          clear x0 x1 x2 x3 x4 x5 HB
          go_wp2_with fail
          refine (live_any _ _ s _ KP.out.own.tab).mono ?_
          rintro e w20 ⟨A5, c5, rfl, ho, hf⟩
          replace KP := Lib.hid (KP.out.fr0 hf)
          have HN := Lib.hid (Reads.of_own ho)
          clear ho hf
          have hlq := KP.out.len
          rw [hlq] at HN ⊢
          clear hlq
          go_wp2_with fail
          refine (same_yes _ _ _ _ _ _ _ s.live _ (by omega) HN.out KP.out.row.rd).mono ?_
          rintro e w21 ⟨rfl, hf⟩
          replace KP := Lib.hid (KP.out.fr0 hf)
          clear HN hf
          go_wp2_with fail
          refine (len_any _ _ s _ KP.out.own.tab).mono ?_
          rintro e _ ⟨rfl, rfl⟩
          rw [KP.out.len]
          go_wp2_with fail
          refine (last_any _ _ s _ KP.out.own.tab).mono ?_
          rintro e _ ⟨rfl, rfl⟩
          have hsls : (s.last != s.last) = false := by simp
          go_wp2
          go_roundw
          case measure => simp [intOf]; omega
          case rel => exact ⟨k + 1, D, s, A', c', m, rfl, rfl, by go_num, by omega, by omega, KP.out⟩
        | true =>
          cases hT : okT x.due x.now with
          | false =>
            have HRT := Lib.hid (fun w => right_any dd x.job x.due x.att x.now x.run w)
            go_wp2_with fail
            refine (start_time _ D s _ x.job x.due x.att x.now KP.out.own.tab hA hT).mono ?_
            rintro e w7 ⟨rfl, rfl⟩
            clear x0 x1 x2 x3 x4 x5 c0 c1 c2 c3 c4 c5
            obtain ⟨x0, x1, x2, x3, x4, x5⟩ := cells6 HB.out
            rw [hA, hT, Bool.and_false] at HRT
            go_wp2_with fail
            refine (HRT.out _).mono ?_
            rintro e w8 ⟨rfl, hf⟩
            replace KP := Lib.hid (KP.out.fr0 hf)
            replace HB := Lib.hid (HB.out.fr0' hf)
            clear hf x0 x1 x2 x3 x4 x5
            obtain ⟨x0, x1, x2, x3, x4, x5⟩ := cells6 HB.out
            clear x0 x1 x2 x3 x4 x5 HB
            go_wp2_with fail
            refine (live_any _ _ s _ KP.out.own.tab).mono ?_
            rintro e w20 ⟨A5, c5, rfl, ho, hf⟩
            replace KP := Lib.hid (KP.out.fr0 hf)
            have HN := Lib.hid (Reads.of_own ho)
            clear ho hf
            have hlq := KP.out.len
            rw [hlq] at HN ⊢
            clear hlq
            go_wp2_with fail
            refine (same_yes _ _ _ _ _ _ _ s.live _ (by omega) HN.out KP.out.row.rd).mono ?_
            rintro e w21 ⟨rfl, hf⟩
            replace KP := Lib.hid (KP.out.fr0 hf)
            clear HN hf
            go_wp2_with fail
            refine (len_any _ _ s _ KP.out.own.tab).mono ?_
            rintro e _ ⟨rfl, rfl⟩
            rw [KP.out.len]
            go_wp2_with fail
            refine (last_any _ _ s _ KP.out.own.tab).mono ?_
            rintro e _ ⟨rfl, rfl⟩
            have hsls : (s.last != s.last) = false := by simp
            go_wp2
            go_roundw
            case measure => simp [intOf]; omega
            case rel => exact ⟨k + 1, D, s, A', c', m, rfl, rfl, by go_num, by omega, by omega, KP.out⟩
          | true =>
            cases hR : s.room with
            | false =>
              have hmz : ¬ (m : Int) < z := by
                have h1 : ¬ (s.live.length : Int) < s.size := by simpa [TS.room] using hR
                rw [HLN.out, HSZ.out] at h1
                exact h1
              have HRT := Lib.hid (fun w => right_any dd x.job x.due x.att x.now x.run w)
              go_wp2_with fail
              refine (start_full _ D s _ x.job x.due x.att x.now KP.out.own.tab hA hT hR).mono ?_
              rintro e w7 ⟨rfl, hf⟩
              replace KP := Lib.hid (KP.out.fr0 hf)
              replace HB := Lib.hid (HB.out.fr0' hf)
              clear hf
              clear x0 x1 x2 x3 x4 x5 c0 c1 c2 c3 c4 c5
              obtain ⟨x0, x1, x2, x3, x4, x5⟩ := cells6 HB.out
              rw [hA, hT, Bool.and_true] at HRT
              go_wp2_with fail
              refine (HRT.out _).mono ?_
              rintro e w8 ⟨rfl, hf⟩
              replace KP := Lib.hid (KP.out.fr0 hf)
              replace HB := Lib.hid (HB.out.fr0' hf)
              clear hf x0 x1 x2 x3 x4 x5
              obtain ⟨x0, x1, x2, x3, x4, x5⟩ := cells6 HB.out
              go_wp2_with fail
              refine (HRT.out _).mono ?_
              rintro e w9 ⟨rfl, hf⟩
              replace KP := Lib.hid (KP.out.fr0 hf)
              clear hf
              clear x0 x1 x2 x3 x4 x5 HB
              go_wp2_with fail
              refine (live_any _ _ s _ KP.out.own.tab).mono ?_
              rintro e w20 ⟨A5, c5, rfl, ho, hf⟩
              replace KP := Lib.hid (KP.out.fr0 hf)
              have HN := Lib.hid (Reads.of_own ho)
              clear ho hf
              have hlq := KP.out.len
              rw [hlq] at HN ⊢
              clear hlq
              go_wp2_with fail
              refine (same_yes _ _ _ _ _ _ _ s.live _ (by omega) HN.out KP.out.row.rd).mono ?_
              rintro e w21 ⟨rfl, hf⟩
              replace KP := Lib.hid (KP.out.fr0 hf)
              clear HN hf
              go_wp2_with fail
              refine (len_any _ _ s _ KP.out.own.tab).mono ?_
              rintro e _ ⟨rfl, rfl⟩
              rw [KP.out.len]
              go_wp2_with fail
              refine (last_any _ _ s _ KP.out.own.tab).mono ?_
              rintro e _ ⟨rfl, rfl⟩
              have hsls : (s.last != s.last) = false := by simp
              go_wp2
              go_roundw
              case measure => simp [intOf]; omega
              case rel => exact ⟨k + 1, D, s, A', c', m, rfl, rfl, by go_num, by omega, by omega, KP.out⟩
            | true =>
              have hmz : (m : Int) < z := by
                have h1 : (s.live.length : Int) < s.size := by simpa [TS.room] using hR
                rw [HLN.out, HSZ.out] at h1
                exact h1
              have HRT := Lib.hid (fun w => right_any dd x.job x.due x.att x.now x.run w)
              go_wp2_with fail
              refine (start_ok _ D s _ x.job x.due x.att x.now KP.out.own.tab hA hT hR (by omega)).mono ?_
              rintro e w7 ⟨rfl, D', ht, hf, hdd⟩
              obtain ⟨sp, hsp⟩ : ∃ sp, sp = s.push x.job x.due x.att x.now := ⟨_, rfl⟩
              rw [← hsp] at ht
              have hspl : sp.last = s.last + 1 := by rw [hsp]; rfl
              obtain ⟨y, hy⟩ : ∃ y : RV, y = ⟨s.last + 1, x.job, x.due, x.att, x.now⟩ := ⟨_, rfl⟩
              have HSPV := Lib.hid (show sp.live = s.live ++ [y] by rw [hsp, hy]; rfl)
              have HSPZ := Lib.hid (show sp.size = z by rw [hsp]; exact HSZ.out)
              have HY := Lib.hid hy
              have HROW := Lib.hid (KP.out.row.next hf hdd)
              have HOWN := Lib.hid (KP.out.own.next ht hf hdd)
              replace HB := Lib.hid (HB.out.fr hf HNX.out)
              clear ht hf hdd hsp hy KP x0 x1 x2 x3 x4 x5 c0 c1 c2 c3 c4 c5
              obtain ⟨x0, x1, x2, x3, x4, x5⟩ := cells6 HB.out
              rw [hA, hT, Bool.and_true] at HRT
              go_wp2_with fail
              refine (HRT.out _).mono ?_
              rintro e w8 ⟨rfl, hf⟩
              replace HROW := Lib.hid (HROW.out.fr0 hf)
              replace HOWN := Lib.hid (HOWN.out.fr0 hf)
              replace HB := Lib.hid (HB.out.fr0' hf)
              clear hf x0 x1 x2 x3 x4 x5
              obtain ⟨x0, x1, x2, x3, x4, x5⟩ := cells6 HB.out
              obtain ⟨wa, hwa⟩ : ∃ wa, wa = w8.alloc (.cells #[.int .i64 (s.last + 1), .int .i64 x.job, .int .i64 x.due, .int .i64 x.att, .int .i64 x.now] 31) := ⟨_, rfl⟩
              have FA : Fr No w8 wa := by rw [hwa]; exact (Fr.refl No w8).alloc _
              have NEW : Blk wa w8.heap.size 31 #[.int .i64 (s.last + 1), .int .i64 x.job, .int .i64 x.due, .int .i64 x.att, .int .i64 x.now] := by rw [hwa]; exact Blk.new w8 31 _
              have HNR := Lib.hid (show Reads wa wa.heap.size 5 (some ⟨w8.heap.size, 0, none⟩) 1 (rcells [y]) from ⟨rfl, fun _ => ⟨_, rfl, NEW.lt, fun j u hu => by rw [add_plain, Nat.zero_add, NEW.cell, List.getElem?_toArray, ← hu, HY.out]; rfl⟩⟩)
              replace HROW := Lib.hid (HROW.out.fr0 FA)
              replace HOWN := Lib.hid (HOWN.out.fr0 FA)
              have HBS := Lib.hid HOWN.out.fr.size
              have HB0 := Lib.hid (show m + 1 ≤ maxLen by unfold maxLen; omega)
              have HB1 := Lib.hid (show (m + 1) * 40 ≤ 140737488355328 by omega)
              have HWA := Lib.hid hwa
              rw [hwa] at HNR HROW HBS
              clear FA NEW hwa HB HNX
              go_wp2_with (at_builtin; refine wpList_append_any (w8.alloc (.cells #[.int .i64 (s.last + 1), .int .i64 x.job, .int .i64 x.due, .int .i64 x.att, .int .i64 x.now] 31)) rfl (.tmp 157) (.tmp 168) 37 rfl w.heap.size 31 i0 (.agg #[.int .i64 0, .int .i64 0, .int .i64 0, .int .i64 0, .int .i64 0]) 5 40 Try.underlying37 hi hiz0 hiz1 hiz2 rfl (by omega) (.slice A' m c') m (rcells s.live) rfl HROW.out.row _ (some ⟨w8.heap.size, 0, none⟩) 1 1 (rcells [y]) rfl HNR.out (rcells_one _) HB0.out HB1.out HBS.out ?_; intro v' w10 ho10 hg10 hl10; obtain ⟨A6, q6, rfl⟩ := own_form' ho10; have HO10 := Lib.hid ho10; have HG10 := Lib.hid hg10; have HL10 := Lib.hid hl10; clear ho10 hg10 hl10)
              rw [← HWA.out] at HROW HG10 HL10
              have KP : Hid (KpI w _ w.heap.size D' sp z A6 q6 (m + 1)) := Lib.hid ⟨HOWN.out.grown HROW.out HG10.out, HROW.out.grow (by rw [HSPV.out, rcells_app]; exact HO10.out) HL10.out (fun k hk => HOWN.out.tab.lt hk), by rw [HSPV.out, List.length_append, HLN.out]; rfl, HSPZ.out⟩
              clear HO10 HG10 HL10 HOWN HROW HNR HWA x0 x1 x2 x3 x4 x5
              go_wp2_with fail
              refine (live_any _ _ sp _ KP.out.own.tab).mono ?_
              rintro e w20 ⟨A5, c5, rfl, ho, hf⟩
              replace KP := Lib.hid (KP.out.fr0 hf)
              have HN := Lib.hid (Reads.of_own ho)
              clear ho hf
              have hlq := KP.out.len
              rw [hlq] at HN ⊢
              clear hlq
              go_wp2_with fail
              refine (same_yes _ _ _ _ _ _ _ sp.live _ (by omega) HN.out KP.out.row.rd).mono ?_
              rintro e w21 ⟨rfl, hf⟩
              replace KP := Lib.hid (KP.out.fr0 hf)
              clear HN hf
              go_wp2_with fail
              refine (len_any _ _ sp _ KP.out.own.tab).mono ?_
              rintro e _ ⟨rfl, rfl⟩
              rw [KP.out.len]
              go_wp2_with fail
              refine (last_any _ _ sp _ KP.out.own.tab).mono ?_
              rintro e _ ⟨rfl, rfl⟩
              rw [hspl]
              have hsls : (s.last + 1 != s.last + 1) = false := by simp
              go_wp2
              go_roundw
              case measure => simp [intOf]; omega
              case rel => exact ⟨k + 1, D', sp, A6, q6, m + 1, rfl, by rw [hspl], by go_num, by omega, by omega, KP.out⟩
    · clear hsl
      go_wp2
      go_loopw [18] (fun i wq => ∃ q : Nat, i = .int .i64 q ∧ q ≤ m ∧ KpI w wq w.heap.size D s z A' c' m) (fun i _ => m - (intOf i).toNat)
      case atStart => exact ⟨0, rfl, Nat.zero_le _, KP.out⟩
      case round =>
        clear KP
        obtain ⟨q, rfl, hq, KP0⟩ := hrel
        have KP := Lib.hid KP0
        by_cases hqm : q < m
        · obtain ⟨g, off, rfl, _, _, a0, a1, a2, a3, a4⟩ := reads_run KP0.row.rd hqm
          obtain ⟨q1, q2⟩ := pos_of_mem HOK.out (mem_getD (l := s.live) (i := q) (by rw [HLN.out]; exact hqm))
          clear KP0
          obtain ⟨y, hy⟩ : ∃ y, y = s.live.getD q RV.zero := ⟨_, rfl⟩
          rw [← hy] at a0 a1 a2 a3 a4 q1 q2
          have HY := Lib.hid hy
          clear hy
          go_wp2_with fail
          refine (get_any _ D s _ y.id KP.out.own.tab).mono ?_
          rintro e w7 ⟨rfl, hf⟩
          rw [q1, q2]
          unfold RV.agg
          have F1 := hf.alloc (.cells #[.int .i64 y.id, .int .i64 y.job, .int .i64 y.due, .int .i64 y.att, .int .i64 y.start] 31)
          obtain ⟨e0, e1, e2, e3, e4⟩ := cells5 (Blk.new w7 31 #[.int .i64 y.id, .int .i64 y.job, .int .i64 y.due, .int .i64 y.att, .int .i64 y.start])
          replace KP := Lib.hid (KP.out.fr0 F1)
          obtain ⟨g', off', hgg, _, _, b0, b1, b2, b3, b4⟩ := reads_run KP.out.row.rd hqm
          injection hgg with hgg
          injection hgg with hg1 hg2
          subst hg1
          subst hg2
          rw [← HY.out] at b0 b1 b2 b3 b4
          clear q1 q2 a0 a1 a2 a3 a4 hf F1
          go_wp2
          go_quiet (fail)
          go_wp2
          go_roundw
          case rel => exact ⟨q + 1, by go_num, by omega, KP.out.fr0 ((Fr.refl No _).drewN _)⟩
          case measure => simp [intOf]; omega
        · clear KP0
          go_wp2_with fail
          refine (works_any _).mono ?_
          rintro e w7 ⟨rfl, hf⟩
          go_wp2
          go_ret
          exact ⟨rfl, KP.out.own.fr.then0 hf⟩
end Go.Proofs.Ytopcjakgfaobcaa
