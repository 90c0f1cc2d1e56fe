/-
  WALK: law.blockAt (16).
-/
import Derived.Test.YgcsabCutRun
import Derived.Test.YgcsabCutDoes
import Derived.Test.YgcsabCutHeads
import Derived.Deep.RegionHeld3
import Derived.Deep.LoopGhost
import Derived.Test.YgcsabCutBlk
import Derived.WalkSpells
namespace Go.Proofs.Ygcsab.Cut
open Go.RowKit Go.Great Go.Proofs.Ygcsab.Dest
set_option linter.unusedVariables false
set_option linter.unusedSimpArgs false

theorem size48 : (Sabg.prog.info? 48).map (·.size) = some 5 := by kernel_rfl
theorem res16 (tmps : Array Value) (w : World) (g : Nat) (cs : List Value) (hp : tmps.getD 6 undef = .pointer (some ⟨g, 0, none⟩)) (hg : Blk w g 48 cs) (hl : cs.length = 5) :
    (results Sabg.f16 tmps).run Sabg.prog w = .ok (.agg cs.toArray) w :=
  results_cell_row (P := Sabg.prog) (fn := Sabg.f16) (p := 6) (ty := 48) rfl tmps w g 48 cs.toArray (0, 0) _ hp hg Sabg.underlying48 rfl (by simp [hl, size48])
theorem take_snoc5 (l : List Int) (k : Nat) (h : k < l.length) : l.take (k + 1) = l.take k ++ [l.getD k 0] := by
  rw [List.take_succ_eq_append_getElem h, getD_in l k h]
theorem wrap_gas (g s : Int) (g0 : 0 ≤ g) (g1 : g ≤ 32000 * 512) (s0 : 0 ≤ s) (s1 : s ≤ 32000) : IntKind.u32.wrap (g + IntKind.u32.wrap s) = g + s := by
  rw [IntKind.wrap_u32, IntKind.wrap_u32]; omega
set_option maxHeartbeats 4000000 in
theorem blockAt_any (a : Option Addr) (n cap : Nat) (l : List Int) (w : World) (hn : l.length = n) (hr : RowAt w a l cap) (hdg : Dig l) (hs : n ≤ 512) (gm : Nat) (hgm : Blk w gm 4 (marks l n)) (h : Nat) (os : List Int) (k : Nat) (hrun : Run l h os k) :
    Calls Sabg.prog 16 #[.slice a n cap, .slice (some ⟨gm, 0, none⟩) n n, .int .i64 h] w fun e w' => e = .returned (.agg (blkOf h os).toArray) ∧ Below w.heap.size w w' := by
  have HR : Hid (RowAt w a l cap) := hr
  have HN : Hid (l.length = n) := hn
  have HRUN : Hid (Run l h os k) := hrun
  have hhn : h < n := by
    obtain ⟨h1, h2, _⟩ := hrun
    match os, h1, h2 with
    | o :: r, _, h2 => rw [← hn]; exact h2.1
  have hgl := hgm.lt
  obtain ⟨i0, hi, hz0, hz1, hz2⟩ := info_parts info5
  clear hr hn hrun
  go_enter Sabg.func16, Sabg.ntmps16
  go_wp2
  go_loopw [8, 9] (fun v i wr => ∃ (os1 os2 : List Int) (pc : Nat), i = .int .i64 pc ∧ pc ≤ n + 40 ∧ os1.length ≤ 512 ∧ Hid (os = os1 ++ os2 ∧ Seg l h os1 pc) ∧ wr.ownsRow (w.heap.size + 2) 5 1 v os1.length (bs os1) ∧
    Blk wr w.heap.size 48 (blk5 0 0 0 0 0) ∧ Blk wr (w.heap.size + 1) 48 (blk5 h (lastP h os1) 0 0 (gasOf os1)) ∧ Below w.heap.size w wr) (fun _ i _ => n + 40 - (intOf i).toNat)
  case atStart =>
    refine ⟨[], os, h, rfl, by omega, by simp, ⟨rfl, rfl⟩, World.ownsRow_nil _ _ _ _, ?_, ?_, ((Below.refl _ _).alloc (Nat.le_refl _) _).alloc (by simp) _⟩
    · exact (Blk.new w (blk5 0 0 0 0 0) 48).alloc _
    · have := Blk.new (w.alloc (.cells (blk5 0 0 0 0 0).toArray 48)) (blk5 h 0 0 0 0) 48
      rw [World.size_alloc] at this
      exact this
  case round =>
    obtain ⟨os1, os2, pc, rfl, hpc, hol, hD, hown, hB0, hB1, hbel⟩ := hrel
    match os2, hD with
    | [], hD =>
      have hos : os = os1 := by have := hD.out.1; simpa using this
      subst hos
      have hsk := HRUN.out.2.1
      obtain rfl := Seg.det hD.out.2 hsk
      have hdo := hsk.in_code hdg
      have hne := List.length_pos_iff.2 HRUN.out.1
      have hle := hsk.le
      obtain ⟨oa, ocap, rfl, hrow⟩ := rowAt_own hown
      have HDO : Hid (Dig os) := hdo
      have hst := stk_bd os hdo
      have hnb := hst.2.1
      have hn0 := hst.1
      clear hrow hdo
      have htest : (n ≤ pc) ∨ ((pc : Int) < (n : Int) ∧ ((pc : Int) == (h : Int)) = false ∧ hd l pc = true) := by
        rcases HRUN.out.2.2.2 with h1 | h1
        · rw [HN.out] at h1
          exact Or.inl (by omega)
        · by_cases h2 : pc < n
          · exact Or.inr ⟨by omega, by simp; omega, h1⟩
          · exact Or.inl (by omega)
      clear hle hsk
      obtain ⟨N, hN⟩ : ∃ N : Nat, (stk os).need = N := ⟨(stk os).need.toNat, by omega⟩
      have HNE : Hid ((stk os).need = N) := hN
      rw [hN] at hnb hn0
      clear hN hst
      generalize hL : os.length = m at *
      have HL : Hid (os.length = m) := hL
      clear hL
      have hB1' : Blk wr (w.heap.size + 1) 48 (blk5 h (lastP h os) ((0 : Nat) : Int) 0 (gasOf os)) := hB1
      clear hB1
      rcases htest with ht | ⟨ht, ht2, hh⟩
      · have ht' : decide ((pc : Int) < (n : Int)) = false := decide_eq_false (by omega)
        go_wp2
        go_loopg [] N (fun g wz => ∃ q : Nat, q + g = N ∧ Blk wz w.heap.size 48 (blk5 0 0 0 0 0) ∧ Blk wz (w.heap.size + 1) 48 (blk5 h (lastP h os) q 0 (gasOf os)) ∧ wz.ownsRow (w.heap.size + 2) 5 1 (.slice oa m ocap) m (bs os) ∧ Below w.heap.size w wz)
        case atStart => exact ⟨0, by omega, hB0, hB1', hown, hbel⟩
        case round =>
          clear hown hB0 hB1' hbel
          obtain ⟨q, hq, hC0, hC1, hrow, hbz⟩ := hrel
          have c2 : _ = some (Value.int .u16 q) := hC1.cell 2
          have f2 := hC1.free 2
          by_cases hqN : q < N
          · go_wp2_with (go_at_call 28; refine (does_any oa m ocap os q _ HL.out (rowAt_own' hrow) HDO.out (by omega) (by omega) (by omega)).mono ?_; rintro e w5 ⟨rfl, hw5⟩; rw [doesF_need os q (by omega), HNE.out, decide_eq_false (by omega)]; have hC15 := hC1.below hw5 hC1.lt; have c25 : w5.cell? ⟨w.heap.size + 1, 2, none⟩ = some (.int .u16 q) := hC15.cell 2; have f25 := hC15.free 2)
            go_roundg (gk - 1)
            case measure => omega
            case rel =>
              have hC05 := hC0.below hw5 hC0.lt
              have hb5 := hbz.trans (hw5.mono hbz.size)
              refine ⟨q + 1, by omega, hC05.other (by simp) _, ?_, ownsRow_setCell_below (own_below hrow hw5) (by simp) _, hb5.setCell (by simp) _⟩
              exact hC15.set 2 (.int .u16 ((q : Int) + 1))
          obtain rfl : q = N := by omega
          by_cases hlt : q < 17 * m
          · go_wp2_with (go_at_call 28; refine (does_any oa m ocap os q _ HL.out (rowAt_own' hrow) HDO.out (by omega) (by omega) (by omega)).mono ?_; rintro e w5 ⟨rfl, hw5⟩; rw [doesF_need os q (by omega), HNE.out, decide_eq_true (by omega)])
            have hC05 := hC0.below hw5 hC0.lt
            have hC15 := hC1.below hw5 hC1.lt
            have hrow5 := own_below hrow hw5
            have hb5 := hbz.trans (hw5.mono hbz.size)
            go_loopw [10, 84] (fun hv i wy => ∃ j : Nat, j ≤ m ∧ i = .int .i64 j ∧ hv = .int .i64 (stk (os.take j)).height ∧ Blk wy w.heap.size 48 (blk5 0 0 0 0 0) ∧ Blk wy (w.heap.size + 1) 48 (blk5 h (lastP h os) q (stk (os.take j)).rise (gasOf os)) ∧ wy.ownsRow (w.heap.size + 2) 5 1 (.slice oa m ocap) m (bs os) ∧ Below w.heap.size w wy) (fun _ i _ => m - (intOf i).toNat)
            case atStart => exact ⟨0, by omega, rfl, rfl, hC05, hC15, hrow5, hb5⟩
            case round =>
              clear hrow hC0 hC1 hbz hC05 hC15 hrow5 hb5 hw5 c2 f2
              obtain ⟨j, hj, rfl, rfl, hC0, hC1, hrow, hbz⟩ := hrel
              by_cases hjm : j < m
              · have hjl : j < os.length := by rw [HL.out]; exact hjm
                obtain ⟨b2, off2, rfl, hlt2, hcs2⟩ := (rowAt_own' hrow).2.2 (by omega)
                have hcj := hcs2 j hjl
                clear hcs2
                have hxb := HDO.out.getD j
                have hstep : stk (os.take (j + 1)) = stkStep (stk (os.take j)) (os.getD j 0) := by rw [← stk_snoc, ← take_snoc5 os j hjl]
                have hok := stk_bd (os.take j) (HDO.out.take j)
                have hjt : (os.take j).length = j := by simp; omega
                rw [hjt] at hok
                obtain ⟨_, _, hr0, hr1, hh0, hh1⟩ := hok
                generalize hX : os.getD j 0 = x at hcj hxb hstep
                have HST : Hid (stk (os.take (j + 1)) = stkStep (stk (os.take j)) x) := hstep
                clear hX hstep
                generalize hS : stk (os.take j) = s at *
                have HS : Hid (stk (os.take j) = s) := hS
                clear hS
                obtain ⟨sn, sr, sh⟩ := s
                simp only at hr0 hr1 hh0 hh1 hC1
                have tb := tk_bd x hxb.1 hxb.2
                have gb := gv_bd x hxb.1 hxb.2
                have hat := fun w => at_takes x w hxb.1 hxb.2
                have hag := fun w => at_gives x w hxb.1 hxb.2
                generalize hTT : tk x = t at tb hat
                generalize hGG : gv x = g at gb hag
                have HTT : Hid (tk x = t) := hTT
                have HGG : Hid (gv x = g) := hGG
                clear hTT hGG
                have hbd : Below w.heap.size w wr.drew := hbz.drew
                have hyd : Below wr.heap.size wr wr.drew := (Below.refl _ _).drew
                go_wp2
                go_region_held3 (fun w' => True) (trivial)
                  (first
                    | (go_at_call 29; refine (givesList_c _).mono ?_; rintro e w6 ⟨rfl, hw6⟩; have hb6 : Below wr.heap.size wr w6 := hyd.trans hw6)
                    | (go_at_call 30; refine (takesList_c _).mono ?_; rintro e w7 ⟨rfl, hw7⟩; have hb7 : Below wr.heap.size wr w7 := hb6.trans (hw7.mono hb6.size)))
                all_goals
                  rw [wrap_lift sh g t (by omega) (by omega) gb.1 gb.2 tb.1 tb.2]
                  have hC17 := hC1.below hb7 hC1.lt
                  have hC07 := hC0.below hb7 hC0.lt
                  have hrow7 := own_below hrow hb7
                  have hbz7 := hbz.trans (hb7.mono hbz.size)
                  have c3 : w7.cell? ⟨w.heap.size + 1, 3, none⟩ = some (.int .u16 sr) := hC17.cell 3
                  have f3 := hC17.free 3
                  go_wp2
                  go_roundw
                  case rel =>
                    have h0 := HST.out
                    refine ⟨j + 1, by omega, by go_num, ?_, hC07.other (by simp) _, ?_, ownsRow_setCell_below hrow7 (by simp) _, hbz7.setCell (by simp) _⟩
                    · rw [h0]; simp only [stkStep, HTT.out, HGG.out]
                    · have hmx : max sr (max 0 (sh + (g - t))) = (stk (os.take (j + 1))).rise := by
                        rw [h0]; simp only [stkStep, HTT.out, HGG.out]
                        split <;> omega
                      rw [← hmx]
                      exact hC17.set 3 _
                  case measure => simp [intOf]; omega
              · obtain rfl : j = m := by omega
                rw [List.take_of_length_le (by rw [HL.out]; exact Nat.le_refl _)] at hC1
                have hne' := HNE.out
                rw [← hne'] at hC1
                go_wp2_with (first | (refine wpList_load_blk rfl 48 _ rfl (w.heap.size + 1) rfl 48 _ _ hC1 Sabg.underlying48 rfl size48 ?_) | (refine wpList_store_blk rfl 48 _ _ rfl w.heap.size (blkOf h os) rfl rfl 48 (blk5 0 0 0 0 0) hC0 size48 rfl (blk5_one _ _ _ _ _) ?_))
                intro w8 hb8 ho8
                go_wp2
                exact bodyPost_ret (v := .agg (blkOf h os).toArray) (res16 _ w8 w.heap.size (blkOf h os) rfl hb8 rfl) rfl ⟨rfl, hbz.trans (ho8.below (Nat.le_refl _))⟩
          · have ht2 : decide ((q : Int) < 17 * (m : Int)) = false := decide_eq_false (by omega)
            go_wp2
            go_loopw [10, 84] (fun hv i wy => ∃ j : Nat, j ≤ m ∧ i = .int .i64 j ∧ hv = .int .i64 (stk (os.take j)).height ∧ Blk wy w.heap.size 48 (blk5 0 0 0 0 0) ∧ Blk wy (w.heap.size + 1) 48 (blk5 h (lastP h os) q (stk (os.take j)).rise (gasOf os)) ∧ wy.ownsRow (w.heap.size + 2) 5 1 (.slice oa m ocap) m (bs os) ∧ Below w.heap.size w wy) (fun _ i _ => m - (intOf i).toNat)
            case atStart => exact ⟨0, by omega, rfl, rfl, hC0, hC1, hrow, hbz⟩
            case round =>
              clear hrow hC0 hC1 hbz
              obtain ⟨j, hj, rfl, rfl, hC0, hC1, hrow, hbz⟩ := hrel
              by_cases hjm : j < m
              · have hjl : j < os.length := by rw [HL.out]; exact hjm
                obtain ⟨b2, off2, rfl, hlt2, hcs2⟩ := (rowAt_own' hrow).2.2 (by omega)
                have hcj := hcs2 j hjl
                clear hcs2
                have hxb := HDO.out.getD j
                have hstep : stk (os.take (j + 1)) = stkStep (stk (os.take j)) (os.getD j 0) := by rw [← stk_snoc, ← take_snoc5 os j hjl]
                have hok := stk_bd (os.take j) (HDO.out.take j)
                have hjt : (os.take j).length = j := by simp; omega
                rw [hjt] at hok
                obtain ⟨_, _, hr0, hr1, hh0, hh1⟩ := hok
                generalize hX : os.getD j 0 = x at hcj hxb hstep
                have HST : Hid (stk (os.take (j + 1)) = stkStep (stk (os.take j)) x) := hstep
                clear hX hstep
                generalize hS : stk (os.take j) = s at *
                have HS : Hid (stk (os.take j) = s) := hS
                clear hS
                obtain ⟨sn, sr, sh⟩ := s
                simp only at hr0 hr1 hh0 hh1 hC1
                have tb := tk_bd x hxb.1 hxb.2
                have gb := gv_bd x hxb.1 hxb.2
                have hat := fun w => at_takes x w hxb.1 hxb.2
                have hag := fun w => at_gives x w hxb.1 hxb.2
                generalize hTT : tk x = t at tb hat
                generalize hGG : gv x = g at gb hag
                have HTT : Hid (tk x = t) := hTT
                have HGG : Hid (gv x = g) := hGG
                clear hTT hGG
                have hbd : Below w.heap.size w wr.drew := hbz.drew
                have hyd : Below wr.heap.size wr wr.drew := (Below.refl _ _).drew
                go_wp2
                go_region_held3 (fun w' => True) (trivial)
                  (first
                    | (go_at_call 29; refine (givesList_c _).mono ?_; rintro e w6 ⟨rfl, hw6⟩; have hb6 : Below wr.heap.size wr w6 := hyd.trans hw6)
                    | (go_at_call 30; refine (takesList_c _).mono ?_; rintro e w7 ⟨rfl, hw7⟩; have hb7 : Below wr.heap.size wr w7 := hb6.trans (hw7.mono hb6.size)))
                all_goals
                  rw [wrap_lift sh g t (by omega) (by omega) gb.1 gb.2 tb.1 tb.2]
                  have hC17 := hC1.below hb7 hC1.lt
                  have hC07 := hC0.below hb7 hC0.lt
                  have hrow7 := own_below hrow hb7
                  have hbz7 := hbz.trans (hb7.mono hbz.size)
                  have c3 : w7.cell? ⟨w.heap.size + 1, 3, none⟩ = some (.int .u16 sr) := hC17.cell 3
                  have f3 := hC17.free 3
                  go_wp2
                  go_roundw
                  case rel =>
                    have h0 := HST.out
                    refine ⟨j + 1, by omega, by go_num, ?_, hC07.other (by simp) _, ?_, ownsRow_setCell_below hrow7 (by simp) _, hbz7.setCell (by simp) _⟩
                    · rw [h0]; simp only [stkStep, HTT.out, HGG.out]
                    · have hmx : max sr (max 0 (sh + (g - t))) = (stk (os.take (j + 1))).rise := by
                        rw [h0]; simp only [stkStep, HTT.out, HGG.out]
                        split <;> omega
                      rw [← hmx]
                      exact hC17.set 3 _
                  case measure => simp [intOf]; omega
              · obtain rfl : j = m := by omega
                rw [List.take_of_length_le (by rw [HL.out]; exact Nat.le_refl _)] at hC1
                have hne' := HNE.out
                rw [← hne'] at hC1
                go_wp2_with (first | (refine wpList_load_blk rfl 48 _ rfl (w.heap.size + 1) rfl 48 _ _ hC1 Sabg.underlying48 rfl size48 ?_) | (refine wpList_store_blk rfl 48 _ _ rfl w.heap.size (blkOf h os) rfl rfl 48 (blk5 0 0 0 0 0) hC0 size48 rfl (blk5_one _ _ _ _ _) ?_))
                intro w8 hb8 ho8
                go_wp2
                exact bodyPost_ret (v := .agg (blkOf h os).toArray) (res16 _ w8 w.heap.size (blkOf h os) rfl hb8 rfl) rfl ⟨rfl, hbz.trans (ho8.below (Nat.le_refl _))⟩
      · have hmk := (hgm.below hbel hgl).cell pc
        rw [marks_at l n pc (by omega), hh] at hmk
        go_wp2
        clear hmk
        go_loopg [] N (fun g wz => ∃ q : Nat, q + g = N ∧ Blk wz w.heap.size 48 (blk5 0 0 0 0 0) ∧ Blk wz (w.heap.size + 1) 48 (blk5 h (lastP h os) q 0 (gasOf os)) ∧ wz.ownsRow (w.heap.size + 2) 5 1 (.slice oa m ocap) m (bs os) ∧ Below w.heap.size w wz)
        case atStart => exact ⟨0, by omega, hB0, hB1', hown, hbel⟩
        case round =>
          clear hown hB0 hB1' hbel
          obtain ⟨q, hq, hC0, hC1, hrow, hbz⟩ := hrel
          have c2 : _ = some (Value.int .u16 q) := hC1.cell 2
          have f2 := hC1.free 2
          by_cases hqN : q < N
          · go_wp2_with (go_at_call 28; refine (does_any oa m ocap os q _ HL.out (rowAt_own' hrow) HDO.out (by omega) (by omega) (by omega)).mono ?_; rintro e w5 ⟨rfl, hw5⟩; rw [doesF_need os q (by omega), HNE.out, decide_eq_false (by omega)]; have hC15 := hC1.below hw5 hC1.lt; have c25 : w5.cell? ⟨w.heap.size + 1, 2, none⟩ = some (.int .u16 q) := hC15.cell 2; have f25 := hC15.free 2)
            go_roundg (gk - 1)
            case measure => omega
            case rel =>
              have hC05 := hC0.below hw5 hC0.lt
              have hb5 := hbz.trans (hw5.mono hbz.size)
              refine ⟨q + 1, by omega, hC05.other (by simp) _, ?_, ownsRow_setCell_below (own_below hrow hw5) (by simp) _, hb5.setCell (by simp) _⟩
              exact hC15.set 2 (.int .u16 ((q : Int) + 1))
          obtain rfl : q = N := by omega
          by_cases hlt : q < 17 * m
          · go_wp2_with (go_at_call 28; refine (does_any oa m ocap os q _ HL.out (rowAt_own' hrow) HDO.out (by omega) (by omega) (by omega)).mono ?_; rintro e w5 ⟨rfl, hw5⟩; rw [doesF_need os q (by omega), HNE.out, decide_eq_true (by omega)])
            have hC05 := hC0.below hw5 hC0.lt
            have hC15 := hC1.below hw5 hC1.lt
            have hrow5 := own_below hrow hw5
            have hb5 := hbz.trans (hw5.mono hbz.size)
            go_loopw [10, 84] (fun hv i wy => ∃ j : Nat, j ≤ m ∧ i = .int .i64 j ∧ hv = .int .i64 (stk (os.take j)).height ∧ Blk wy w.heap.size 48 (blk5 0 0 0 0 0) ∧ Blk wy (w.heap.size + 1) 48 (blk5 h (lastP h os) q (stk (os.take j)).rise (gasOf os)) ∧ wy.ownsRow (w.heap.size + 2) 5 1 (.slice oa m ocap) m (bs os) ∧ Below w.heap.size w wy) (fun _ i _ => m - (intOf i).toNat)
            case atStart => exact ⟨0, by omega, rfl, rfl, hC05, hC15, hrow5, hb5⟩
            case round =>
              clear hrow hC0 hC1 hbz hC05 hC15 hrow5 hb5 hw5 c2 f2
              obtain ⟨j, hj, rfl, rfl, hC0, hC1, hrow, hbz⟩ := hrel
              by_cases hjm : j < m
              · have hjl : j < os.length := by rw [HL.out]; exact hjm
                obtain ⟨b2, off2, rfl, hlt2, hcs2⟩ := (rowAt_own' hrow).2.2 (by omega)
                have hcj := hcs2 j hjl
                clear hcs2
                have hxb := HDO.out.getD j
                have hstep : stk (os.take (j + 1)) = stkStep (stk (os.take j)) (os.getD j 0) := by rw [← stk_snoc, ← take_snoc5 os j hjl]
                have hok := stk_bd (os.take j) (HDO.out.take j)
                have hjt : (os.take j).length = j := by simp; omega
                rw [hjt] at hok
                obtain ⟨_, _, hr0, hr1, hh0, hh1⟩ := hok
                generalize hX : os.getD j 0 = x at hcj hxb hstep
                have HST : Hid (stk (os.take (j + 1)) = stkStep (stk (os.take j)) x) := hstep
                clear hX hstep
                generalize hS : stk (os.take j) = s at *
                have HS : Hid (stk (os.take j) = s) := hS
                clear hS
                obtain ⟨sn, sr, sh⟩ := s
                simp only at hr0 hr1 hh0 hh1 hC1
                have tb := tk_bd x hxb.1 hxb.2
                have gb := gv_bd x hxb.1 hxb.2
                have hat := fun w => at_takes x w hxb.1 hxb.2
                have hag := fun w => at_gives x w hxb.1 hxb.2
                generalize hTT : tk x = t at tb hat
                generalize hGG : gv x = g at gb hag
                have HTT : Hid (tk x = t) := hTT
                have HGG : Hid (gv x = g) := hGG
                clear hTT hGG
                have hbd : Below w.heap.size w wr.drew := hbz.drew
                have hyd : Below wr.heap.size wr wr.drew := (Below.refl _ _).drew
                go_wp2
                go_region_held3 (fun w' => True) (trivial)
                  (first
                    | (go_at_call 29; refine (givesList_c _).mono ?_; rintro e w6 ⟨rfl, hw6⟩; have hb6 : Below wr.heap.size wr w6 := hyd.trans hw6)
                    | (go_at_call 30; refine (takesList_c _).mono ?_; rintro e w7 ⟨rfl, hw7⟩; have hb7 : Below wr.heap.size wr w7 := hb6.trans (hw7.mono hb6.size)))
                all_goals
                  rw [wrap_lift sh g t (by omega) (by omega) gb.1 gb.2 tb.1 tb.2]
                  have hC17 := hC1.below hb7 hC1.lt
                  have hC07 := hC0.below hb7 hC0.lt
                  have hrow7 := own_below hrow hb7
                  have hbz7 := hbz.trans (hb7.mono hbz.size)
                  have c3 : w7.cell? ⟨w.heap.size + 1, 3, none⟩ = some (.int .u16 sr) := hC17.cell 3
                  have f3 := hC17.free 3
                  go_wp2
                  go_roundw
                  case rel =>
                    have h0 := HST.out
                    refine ⟨j + 1, by omega, by go_num, ?_, hC07.other (by simp) _, ?_, ownsRow_setCell_below hrow7 (by simp) _, hbz7.setCell (by simp) _⟩
                    · rw [h0]; simp only [stkStep, HTT.out, HGG.out]
                    · have hmx : max sr (max 0 (sh + (g - t))) = (stk (os.take (j + 1))).rise := by
                        rw [h0]; simp only [stkStep, HTT.out, HGG.out]
                        split <;> omega
                      rw [← hmx]
                      exact hC17.set 3 _
                  case measure => simp [intOf]; omega
              · obtain rfl : j = m := by omega
                rw [List.take_of_length_le (by rw [HL.out]; exact Nat.le_refl _)] at hC1
                have hne' := HNE.out
                rw [← hne'] at hC1
                go_wp2_with (first | (refine wpList_load_blk rfl 48 _ rfl (w.heap.size + 1) rfl 48 _ _ hC1 Sabg.underlying48 rfl size48 ?_) | (refine wpList_store_blk rfl 48 _ _ rfl w.heap.size (blkOf h os) rfl rfl 48 (blk5 0 0 0 0 0) hC0 size48 rfl (blk5_one _ _ _ _ _) ?_))
                intro w8 hb8 ho8
                go_wp2
                exact bodyPost_ret (v := .agg (blkOf h os).toArray) (res16 _ w8 w.heap.size (blkOf h os) rfl hb8 rfl) rfl ⟨rfl, hbz.trans (ho8.below (Nat.le_refl _))⟩
          · have ht2 : decide ((q : Int) < 17 * (m : Int)) = false := decide_eq_false (by omega)
            go_wp2
            go_loopw [10, 84] (fun hv i wy => ∃ j : Nat, j ≤ m ∧ i = .int .i64 j ∧ hv = .int .i64 (stk (os.take j)).height ∧ Blk wy w.heap.size 48 (blk5 0 0 0 0 0) ∧ Blk wy (w.heap.size + 1) 48 (blk5 h (lastP h os) q (stk (os.take j)).rise (gasOf os)) ∧ wy.ownsRow (w.heap.size + 2) 5 1 (.slice oa m ocap) m (bs os) ∧ Below w.heap.size w wy) (fun _ i _ => m - (intOf i).toNat)
            case atStart => exact ⟨0, by omega, rfl, rfl, hC0, hC1, hrow, hbz⟩
            case round =>
              clear hrow hC0 hC1 hbz
              obtain ⟨j, hj, rfl, rfl, hC0, hC1, hrow, hbz⟩ := hrel
              by_cases hjm : j < m
              · have hjl : j < os.length := by rw [HL.out]; exact hjm
                obtain ⟨b2, off2, rfl, hlt2, hcs2⟩ := (rowAt_own' hrow).2.2 (by omega)
                have hcj := hcs2 j hjl
                clear hcs2
                have hxb := HDO.out.getD j
                have hstep : stk (os.take (j + 1)) = stkStep (stk (os.take j)) (os.getD j 0) := by rw [← stk_snoc, ← take_snoc5 os j hjl]
                have hok := stk_bd (os.take j) (HDO.out.take j)
                have hjt : (os.take j).length = j := by simp; omega
                rw [hjt] at hok
                obtain ⟨_, _, hr0, hr1, hh0, hh1⟩ := hok
                generalize hX : os.getD j 0 = x at hcj hxb hstep
                have HST : Hid (stk (os.take (j + 1)) = stkStep (stk (os.take j)) x) := hstep
                clear hX hstep
                generalize hS : stk (os.take j) = s at *
                have HS : Hid (stk (os.take j) = s) := hS
                clear hS
                obtain ⟨sn, sr, sh⟩ := s
                simp only at hr0 hr1 hh0 hh1 hC1
                have tb := tk_bd x hxb.1 hxb.2
                have gb := gv_bd x hxb.1 hxb.2
                have hat := fun w => at_takes x w hxb.1 hxb.2
                have hag := fun w => at_gives x w hxb.1 hxb.2
                generalize hTT : tk x = t at tb hat
                generalize hGG : gv x = g at gb hag
                have HTT : Hid (tk x = t) := hTT
                have HGG : Hid (gv x = g) := hGG
                clear hTT hGG
                have hbd : Below w.heap.size w wr.drew := hbz.drew
                have hyd : Below wr.heap.size wr wr.drew := (Below.refl _ _).drew
                go_wp2
                go_region_held3 (fun w' => True) (trivial)
                  (first
                    | (go_at_call 29; refine (givesList_c _).mono ?_; rintro e w6 ⟨rfl, hw6⟩; have hb6 : Below wr.heap.size wr w6 := hyd.trans hw6)
                    | (go_at_call 30; refine (takesList_c _).mono ?_; rintro e w7 ⟨rfl, hw7⟩; have hb7 : Below wr.heap.size wr w7 := hb6.trans (hw7.mono hb6.size)))
                all_goals
                  rw [wrap_lift sh g t (by omega) (by omega) gb.1 gb.2 tb.1 tb.2]
                  have hC17 := hC1.below hb7 hC1.lt
                  have hC07 := hC0.below hb7 hC0.lt
                  have hrow7 := own_below hrow hb7
                  have hbz7 := hbz.trans (hb7.mono hbz.size)
                  have c3 : w7.cell? ⟨w.heap.size + 1, 3, none⟩ = some (.int .u16 sr) := hC17.cell 3
                  have f3 := hC17.free 3
                  go_wp2
                  go_roundw
                  case rel =>
                    have h0 := HST.out
                    refine ⟨j + 1, by omega, by go_num, ?_, hC07.other (by simp) _, ?_, ownsRow_setCell_below hrow7 (by simp) _, hbz7.setCell (by simp) _⟩
                    · rw [h0]; simp only [stkStep, HTT.out, HGG.out]
                    · have hmx : max sr (max 0 (sh + (g - t))) = (stk (os.take (j + 1))).rise := by
                        rw [h0]; simp only [stkStep, HTT.out, HGG.out]
                        split <;> omega
                      rw [← hmx]
                      exact hC17.set 3 _
                  case measure => simp [intOf]; omega
              · obtain rfl : j = m := by omega
                rw [List.take_of_length_le (by rw [HL.out]; exact Nat.le_refl _)] at hC1
                have hne' := HNE.out
                rw [← hne'] at hC1
                go_wp2_with (first | (refine wpList_load_blk rfl 48 _ rfl (w.heap.size + 1) rfl 48 _ _ hC1 Sabg.underlying48 rfl size48 ?_) | (refine wpList_store_blk rfl 48 _ _ rfl w.heap.size (blkOf h os) rfl rfl 48 (blk5 0 0 0 0 0) hC0 size48 rfl (blk5_one _ _ _ _ _) ?_))
                intro w8 hb8 ho8
                go_wp2
                exact bodyPost_ret (v := .agg (blkOf h os).toArray) (res16 _ w8 w.heap.size (blkOf h os) rfl hb8 rfl) rfl ⟨rfl, hbz.trans (ho8.below (Nat.le_refl _))⟩
    | o :: os2, hD =>
      obtain ⟨m, hs1, hs2⟩ := Seg.split (by rw [← hD.out.1]; exact HRUN.out.2.1)
      obtain rfl := Seg.det hD.out.2 hs1
      obtain ⟨hpl, hpo, hs2⟩ := hs2
      have hpn : pc < n := by rw [← HN.out]; exact hpl
      obtain ⟨b, off, rfl, hlt, hcs⟩ := HR.out.2.2 (by omega)
      have hc0 := hcs pc hpl
      rw [hpo] at hc0
      clear hcs
      have hob := hdg.getD pc
      rw [hpo] at hob
      have HC0 : Hid (w.cell? ⟨b, off + pc, none⟩ = some (.int .u8 o)) := hc0
      have hcx := keepCell hlt hc0 hbel
      have hmk := (hgm.below hbel hgl).cell pc
      rw [marks_at l n pc hpn] at hmk
      clear hc0
      have hgas := gasOf_bd os1 (hs1.in_code hdg)
      have hsg := sg_bd o hob.1 hob.2
      have hgo : (os1.length : Int) ≤ 512 := by omega
      have htest : ((pc : Int) == (h : Int)) = true ∨ ((pc : Int) == (h : Int)) = false ∧ hd l pc = false := by
        by_cases h1 : os1 = []
        · subst h1
          obtain rfl : h = pc := hs1
          exact Or.inl (by simp)
        · refine Or.inr ⟨?_, HRUN.out.2.2.1 os1 (o :: os2) pc hD.out.1 h1 (by simp) hs1⟩
          have := hs1.le
          have := List.length_pos_iff.2 h1
          simp; omega
      have HS1 : Hid (Seg l h os1 pc) := hs1
      have HS2 : Hid (Seg l (pc + 1 + imm o) os2 k) := hs2
      have HPO : Hid (l.getD pc 0 = o) := hpo
      clear hs1 hs2 hpo
      rcases htest with ht | ⟨ht, hh⟩
      · go_wp2_with (at_builtin; refine wpList_append_own _ rfl _ _ 22 rfl (w.heap.size + 2) 5 i0 (.int .u8 0) 1 1 Sabg.underlying22 hi hz0 hz1 hz2 rfl (by decide) _ _ _ rfl (hown.alloc _) ⟨wr.heap.size, 0, none⟩ 1 1 [.int .u8 o] rfl rfl (cell_one_new _ _ _) ?c2 ?c3 ?c4 ?c5 ?_)
        case c2 => intro u hu; simp at hu; subst hu; rfl
        case c3 => simp [maxLen]; omega
        case c4 => omega
        case c5 => have := hB1.lt; simp; omega
        intro v' w1 hown' hgrow _
        have hbA : Below w.heap.size w (wr.alloc (.cells #[.int .u8 o] 5)) := hbel.alloc hbel.size _
        have hb1 := below_grown hbA (hown.alloc _) hgrow hbA.size (by omega)
        have hB1' := (hB1.alloc (.cells #[.int .u8 o] 5)).grown hgrow (own_ne (hown.alloc (.cells #[.int .u8 o] 5)) (by omega))
        have hB0' := (hB0.alloc (.cells #[.int .u8 o] 5)).grown hgrow (own_ne (hown.alloc (.cells #[.int .u8 o] 5)) (by omega))
        clear hB0 hB1 hown hgrow hcx hmk hbA hbel
        have c1 : w1.cell? ⟨w.heap.size + 1, 1, none⟩ = some (.int .u16 (lastP h os1)) := hB1'.cell 1
        have f1 := hB1'.free 1
        have hB1s := hB1'.set 1 (.int .u16 pc)
        have hB0s := hB0'.other (a := ⟨w.heap.size + 1, 1, none⟩) (by simp) (.int .u16 pc)
        have hbs := hb1.setCell (p := ⟨w.heap.size + 1, 1, none⟩) (by simp) (.int .u16 pc)
        have howns := ownsRow_setCell_below hown' (a := ⟨w.heap.size + 1, 1, none⟩) (by simp) (.int .u16 pc)
        change Blk _ _ 48 (blk5 h pc 0 0 (gasOf os1)) at hB1s
        go_wp2
        generalize hW : w1.setCell ⟨w.heap.size + 1, 1, none⟩ (.int .u16 pc) = w2 at *
        clear hW c1 f1 hB1' hB0' hown' hb1
        have hcx := keepCell hlt HC0.out hbs
        have c4 : w2.cell? ⟨w.heap.size + 1, 4, none⟩ = some (.int .u32 (gasOf os1)) := hB1s.cell 4
        have f4 := hB1s.free 4
        go_region_with (first
          | (go_at_call 27; refine (staticGas_any o _ hob.1 hob.2).mono ?_; rintro e w3 ⟨rfl, hw3⟩; have hB13 := hB1s.drew.below hw3 hB1s.lt; have c43 : w3.cell? ⟨w.heap.size + 1, 4, none⟩ = some (.int .u32 (gasOf os1)) := hB13.cell 4; have f43 := hB13.free 4))
        all_goals
          rw [wrap_gas (gasOf os1) (sg o) hgas.1 (by omega) hsg.1 hsg.2]
          have hB03 := hB0s.drew.below hw3 hB0s.lt
          have hb3 : Below w.heap.size w w3 := hbs.trans (Below.mono ((Below.refl _ _).drew.trans hw3) hbs.size)
          have hown3 := own_below howns ((Below.refl _ _).drew.trans hw3)
          have hB14 := hB13.set 4 (.int .u32 (gasOf os1 + sg o))
          have hB04 := hB03.other (a := ⟨w.heap.size + 1, 4, none⟩) (by simp) (.int .u32 (gasOf os1 + sg o))
          have hb4 := hb3.setCell (p := ⟨w.heap.size + 1, 4, none⟩) (by simp) (.int .u32 (gasOf os1 + sg o))
          have hown4 := ownsRow_setCell_below hown3 (a := ⟨w.heap.size + 1, 4, none⟩) (by simp) (.int .u32 (gasOf os1 + sg o))
          change Blk _ _ 48 (blk5 h pc 0 0 (gasOf os1 + sg o)) at hB14
          generalize hW : w3.setCell ⟨w.heap.size + 1, 4, none⟩ (.int .u32 (gasOf os1 + sg o)) = w4 at *
          clear hW c43 f43 hB13 hB03 hb3 hown3 hw3 c4 f4 hcx hB1s hB0s hbs howns
          have hb4d : Below w.heap.size w w4.drew := hb4.drew
          have HI := fun w => at_imm o w hob.1 hob.2
          have him := imm_le o
          go_wp2
          go_region_held3 (fun w' => w'.cell? ⟨b, off + pc, none⟩ = some (.int .u8 o)) (exact keepCell hlt HC0.out (by assumption))
            (first
              | (go_at_call 26; refine (immList_c _).mono ?_; rintro e w5 ⟨rfl, hw5⟩; have hb5 : Below w.heap.size w w5 := hb4d.trans (hw5.mono hb4d.size); have hB05 := hB04.drew.below hw5 hB04.lt; have hB15 := hB14.drew.below hw5 hB14.lt; have hown5 := own_below hown4 ((Below.refl _ _).drew.trans hw5)))
          all_goals
            rw [wrap_step pc (imm o) (by omega) (by omega) (by omega) (by omega)]
            go_wp2
            go_roundw
            case rel =>
              have hsn := HS1.out.snoc hpl
              rw [HPO.out] at hsn
              refine ⟨os1 ++ [o], os2, pc + 1 + imm o, by go_num, by omega, ?_, ⟨by rw [hD.out.1]; simp, hsn⟩, ?_, hB05, ?_, hb5⟩
              · have := hsn.len; rw [HN.out] at this; omega
              · rw [List.length_append]; simp only [bs, List.map_append] at hown5 ⊢; exact hown5
              · rw [lastP_snoc HS1.out o, gasOf_snoc]; exact hB15
            case measure => simp [intOf]; omega
      · rw [hh] at hmk
        go_wp2_with (at_builtin; refine wpList_append_own _ rfl _ _ 22 rfl (w.heap.size + 2) 5 i0 (.int .u8 0) 1 1 Sabg.underlying22 hi hz0 hz1 hz2 rfl (by decide) _ _ _ rfl (hown.alloc _) ⟨wr.heap.size, 0, none⟩ 1 1 [.int .u8 o] rfl rfl (cell_one_new _ _ _) ?d2 ?d3 ?d4 ?d5 ?_)
        case d2 => intro u hu; simp at hu; subst hu; rfl
        case d3 => simp [maxLen]; omega
        case d4 => omega
        case d5 => have := hB1.lt; simp; omega
        intro v' w1 hown' hgrow _
        have hbA : Below w.heap.size w (wr.alloc (.cells #[.int .u8 o] 5)) := hbel.alloc hbel.size _
        have hb1 := below_grown hbA (hown.alloc _) hgrow hbA.size (by omega)
        have hB1' := (hB1.alloc (.cells #[.int .u8 o] 5)).grown hgrow (own_ne (hown.alloc (.cells #[.int .u8 o] 5)) (by omega))
        have hB0' := (hB0.alloc (.cells #[.int .u8 o] 5)).grown hgrow (own_ne (hown.alloc (.cells #[.int .u8 o] 5)) (by omega))
        clear hB0 hB1 hown hgrow hcx hmk hbA hbel
        have c1 : w1.cell? ⟨w.heap.size + 1, 1, none⟩ = some (.int .u16 (lastP h os1)) := hB1'.cell 1
        have f1 := hB1'.free 1
        have hB1s := hB1'.set 1 (.int .u16 pc)
        have hB0s := hB0'.other (a := ⟨w.heap.size + 1, 1, none⟩) (by simp) (.int .u16 pc)
        have hbs := hb1.setCell (p := ⟨w.heap.size + 1, 1, none⟩) (by simp) (.int .u16 pc)
        have howns := ownsRow_setCell_below hown' (a := ⟨w.heap.size + 1, 1, none⟩) (by simp) (.int .u16 pc)
        change Blk _ _ 48 (blk5 h pc 0 0 (gasOf os1)) at hB1s
        go_wp2
        generalize hW : w1.setCell ⟨w.heap.size + 1, 1, none⟩ (.int .u16 pc) = w2 at *
        clear hW c1 f1 hB1' hB0' hown' hb1
        have hcx := keepCell hlt HC0.out hbs
        have c4 : w2.cell? ⟨w.heap.size + 1, 4, none⟩ = some (.int .u32 (gasOf os1)) := hB1s.cell 4
        have f4 := hB1s.free 4
        go_region_with (first
          | (go_at_call 27; refine (staticGas_any o _ hob.1 hob.2).mono ?_; rintro e w3 ⟨rfl, hw3⟩; have hB13 := hB1s.drew.below hw3 hB1s.lt; have c43 : w3.cell? ⟨w.heap.size + 1, 4, none⟩ = some (.int .u32 (gasOf os1)) := hB13.cell 4; have f43 := hB13.free 4))
        all_goals
          rw [wrap_gas (gasOf os1) (sg o) hgas.1 (by omega) hsg.1 hsg.2]
          have hB03 := hB0s.drew.below hw3 hB0s.lt
          have hb3 : Below w.heap.size w w3 := hbs.trans (Below.mono ((Below.refl _ _).drew.trans hw3) hbs.size)
          have hown3 := own_below howns ((Below.refl _ _).drew.trans hw3)
          have hB14 := hB13.set 4 (.int .u32 (gasOf os1 + sg o))
          have hB04 := hB03.other (a := ⟨w.heap.size + 1, 4, none⟩) (by simp) (.int .u32 (gasOf os1 + sg o))
          have hb4 := hb3.setCell (p := ⟨w.heap.size + 1, 4, none⟩) (by simp) (.int .u32 (gasOf os1 + sg o))
          have hown4 := ownsRow_setCell_below hown3 (a := ⟨w.heap.size + 1, 4, none⟩) (by simp) (.int .u32 (gasOf os1 + sg o))
          change Blk _ _ 48 (blk5 h pc 0 0 (gasOf os1 + sg o)) at hB14
          generalize hW : w3.setCell ⟨w.heap.size + 1, 4, none⟩ (.int .u32 (gasOf os1 + sg o)) = w4 at *
          clear hW c43 f43 hB13 hB03 hb3 hown3 hw3 c4 f4 hcx hB1s hB0s hbs howns
          have hb4d : Below w.heap.size w w4.drew := hb4.drew
          have HI := fun w => at_imm o w hob.1 hob.2
          have him := imm_le o
          go_wp2
          go_region_held3 (fun w' => w'.cell? ⟨b, off + pc, none⟩ = some (.int .u8 o)) (exact keepCell hlt HC0.out (by assumption))
            (first
              | (go_at_call 26; refine (immList_c _).mono ?_; rintro e w5 ⟨rfl, hw5⟩; have hb5 : Below w.heap.size w w5 := hb4d.trans (hw5.mono hb4d.size); have hB05 := hB04.drew.below hw5 hB04.lt; have hB15 := hB14.drew.below hw5 hB14.lt; have hown5 := own_below hown4 ((Below.refl _ _).drew.trans hw5)))
          all_goals
            rw [wrap_step pc (imm o) (by omega) (by omega) (by omega) (by omega)]
            go_wp2
            go_roundw
            case rel =>
              have hsn := HS1.out.snoc hpl
              rw [HPO.out] at hsn
              refine ⟨os1 ++ [o], os2, pc + 1 + imm o, by go_num, by omega, ?_, ⟨by rw [hD.out.1]; simp, hsn⟩, ?_, hB05, ?_, hb5⟩
              · have := hsn.len; rw [HN.out] at this; omega
              · rw [List.length_append]; simp only [bs, List.map_append] at hown5 ⊢; exact hown5
              · rw [lastP_snoc HS1.out o, gasOf_snoc]; exact hB15
            case measure => simp [intOf]; omega
end Go.Proofs.Ygcsab.Cut
