/-
  WALK: block.New (6).
-/
import Derived.Test.YgcsabCutNew0
import Derived.Test.YgcsabCutBlk2
import Derived.Test.YgcsabCutHeads
namespace Go.Proofs.Ygcsab.Cut
open Go.RowKit Go.Great Go.Proofs.Ygcsab.Dest
set_option linter.unusedVariables false
set_option linter.unusedSimpArgs false

/-- What holds at the loop's head. -/
def NewRel (l : List Int) (w1 : World) (vc : Value) (k : Nat) (op : Bool) (H : Int) (wr : World) : Prop :=
  ∃ (R : List (Nat × List Int)) (S : List Nat) (v : Value) (a1 a2 : Nat) (a3 a4 a5 : Int), AtF l k (!op) ∧ Blk wr w1.heap.size 43 (cutC vc v S) ∧ wr.ownsRow (w1.heap.size + 2) 48 5 v R.length (cellsR R) ∧ Blk wr (w1.heap.size + 1) 48 (blk5 a1 a2 a3 a4 a5) ∧ Below w1.heap.size w1 wr ∧
    ((op = false ∧ Done l R S k) ∨ (op = true ∧ ∃ h os, Cur l R S h os k ∧ os ≠ [] ∧ H = (stk os).height ∧ blk5 a1 a2 a3 a4 a5 = blkOf h os))
theorem Done.len {l : List Int} {R : List (Nat × List Int)} {S : List Nat} {k : Nat} (h : Done l R S k) : R.length ≤ k := by rw [h.1]; exact cnt_le l k
theorem Cur.bd {l : List Int} {R : List (Nat × List Int)} {S : List Nat} {h k : Nat} {os : List Int} (hc : Cur l R S h os k) : h ≤ k ∧ os.length ≤ l.length ∧ R.length ≤ h := by
  have := hc.2.2.2.1.le
  exact ⟨by omega, hc.2.2.2.1.len, hc.1.len⟩
theorem blkOf_snoc {l : List Int} {h k : Nat} {os : List Int} (hs : Seg l h os k) (x : Int) :
    blkOf h (os ++ [x]) = blk5 h k (if (stk os).need < tk x - (stk os).height then tk x - (stk os).height else (stk os).need) (if (stk os).rise < (stk os).height + (gv x - tk x) then (stk os).height + (gv x - tk x) else (stk os).rise) (gasOf os + sg x) := by
  unfold blkOf
  rw [lastP_snoc hs x, stk_snoc, gasOf_snoc]
  rfl

set_option maxRecDepth 100000 in
set_option maxHeartbeats 8000000 in
theorem New_short (a : Option Addr) (n cap : Nat) (l : List Int) (w : World) (hn : l.length = n) (hr : RowAt w a l cap) (hdg : Dig l) (hcap : a = none → cap = 0) (hs : n ≤ 512) :
    Calls Sabg.prog 6 #[.slice a n cap] w fun e w' => ∃ g ca cc v R S k, e = .returned (.pointer (some ⟨g, 0, none⟩)) ∧ Blk w' g 43 (cutC (.slice ca n cc) v S) ∧ RowAt w' ca l cc ∧ w'.ownsRow (g + 2) 48 5 v R.length (cellsR R) ∧ Done l R S k ∧ n ≤ k ∧ Below w.heap.size w w' := by
  have HR : Hid (RowAt w a l cap) := hr
  have HN : Hid (l.length = n) := hn
  have hd5 : decide ((512 : Int) < (n : Int)) = false := decide_eq_false (by omega)
  go_enter Sabg.func6, Sabg.ntmps6
  go_wp2_with (at_builtin; refine wpList_append_copy rfl _ rfl a n cap l rfl hn hr hcap (by omega) ?_)
  intro ca cc w1 hrow hb1
  go_wp2_with (first
    | (refine wpList_runTo rfl (some 16) rfl (.agg (cutC (.slice ca n cc) (.slice none 0 0) (zeros 512)).toArray) w1 (by kernel_rfl) ?_)
    | (refine wpList_runTo rfl (some 17) rfl (.pointer (some ⟨w1.heap.size, 0, none⟩)) (w1.alloc (.cells (cutC (.slice ca n cc) (.slice none 0 0) (zeros 512)).toArray 43)) (by kernel_rfl) ?_))
  have hB0 : Blk (w1.alloc (.cells (cutC (.slice ca n cc) (.slice none 0 0) (zeros 512)).toArray 43)) w1.heap.size 43 (cutC (.slice ca n cc) (.slice none 0 0) (zeros 512)) := Blk.new w1 _ 43
  generalize hcells : cutC (.slice ca n cc) (.slice none 0 0) (zeros 512) = CC at *
  clear hr hn
  have HROW : Hid (RowAt w1 ca l cc) := hrow
  clear hrow
  go_loopg [5, 6, 7] (n + 40) (fun gh hv ov iv wr => ∃ (k : Nat) (op : Bool) (H : Int), k + gh = n + 40 ∧ iv = .int .i64 k ∧ ov = .bool op ∧ hv = .int .i64 H ∧ NewRel l w1 (.slice ca n cc) k op H wr)
  case atStart =>
    refine ⟨0, false, 0, by omega, rfl, rfl, rfl, [], zeros 512, .slice none 0 0, 0, 0, 0, 0, 0, AtF.zero l, ?_, World.ownsRow_nil _ _ _ _, ?_, ((Below.refl _ _).alloc (Nat.le_refl _) _).alloc (by simp) _, Or.inl ⟨rfl, Done.zero l⟩⟩
    · rw [hcells]; exact hB0.alloc _
    · have := Blk.new (w1.alloc (.cells CC.toArray 43)) (blk5 0 0 0 0 0) 48
      rw [World.size_alloc] at this
      exact this
  case round =>
    clear hB0 hcells
    obtain ⟨k, op, H, hkg, rfl, rfl, rfl, R, S, v, a1, a2, a3, a4, a5, hat, hB, hown, hBb, hbel, hcase⟩ := hrel
    have hbw : Below w.heap.size w wr := hb1.trans (hbel.mono hb1.size)
    have hbl := hBb.lt
    by_cases hkn : k < n
    · have hkl : k < l.length := by rw [HN.out]; exact hkn
      obtain ⟨b, off, rfl, hlt, hcs⟩ := HR.out.2.2 (by omega)
      have hc0 : w.cell? ⟨b, off + k, none⟩ = some (.int .u8 (l.getD k 0)) := hcs k hkl
      clear hcs
      have hxb := hdg.getD k
      have hnx := hat.next hkl
      have hhd := hat.here hkl
      generalize hX : l.getD k 0 = x at hc0 hxb hnx hhd
      have HX : Hid (l.getD k 0 = x) := hX
      have HAT : Hid (AtF l k (!op)) := hat
      have HHD : Hid (hd l k = (!op || x == 91)) := hhd
      clear hX hat hhd
      have HC0 : Hid (w.cell? ⟨b, off + k, none⟩ = some (.int .u8 x)) := hc0
      have hcx := keepCell hlt hc0 hbw
      clear hc0
      have tb := tk_bd x hxb.1 hxb.2
      have gb := gv_bd x hxb.1 hxb.2
      have sb := sg_bd x hxb.1 hxb.2
      have him := imm_le x
      rcases hcase with ⟨rfl, hdone⟩ | ⟨rfl, h, os, hcur, hne, rfl, hbeq⟩
      · have hcur : Cur l R S k [] k := Cur.head hdone (by rw [HHD.out]; rfl)
        have hrl := hdone.len
        go_wp2_with (refine wpList_store_blk rfl 48 (.tmp 4) (.tmp 42) rfl (w1.heap.size + 1) (blk5 k 0 0 0 0) rfl rfl 48 (blk5 a1 a2 a3 a4 a5) hBb size48' rfl (blk5_one _ _ _ _ _) ?_; intro w2 hb2 ho2)
        have hB2 := ho2.blk hB (by omega)
        have hown2 := own_only hown ho2 (by omega)
        have hbel2 := hbel.trans (ho2.below (Nat.le_succ _))
        clear hB hown hBb hbel ho2 hdone hcx hbw
        have him2 : (w1.heap.size : Nat) < w1.heap.size + 1 := by omega
        have hnew := blkOf_snoc hcur.2.2.2.1 x
        simp only [stk, stk0, gasOf, List.foldl_nil, List.map_nil, List.sum_nil, Int.sub_zero, Int.zero_add] at hnew
        have HNEW : Hid _ := hnew
        clear hnew
        have hcur2 := hcur.next HAT.out hkl (fun h => absurd rfl h)
        rw [HX.out] at hcur2
        have hne2 : Hid (([] : List Int) ++ [x] ≠ []) := by show _ ≠ _; simp
        have hst2 : Hid (stk (([] : List Int) ++ [x]) = stkStep (stk ([] : List Int)) x) := stk_snoc ([] : List Int) x
        generalize hT : tk x = t at *
        generalize hGv : gv x = gx at *
        generalize hSg : sg x = sx at *
        have HT : Hid (tk x = t) := hT
        have HGv : Hid (gv x = gx) := hGv
        have HSg : Hid (sg x = sx) := hSg
        clear hT hGv hSg
        have c1 : w2.cell? ⟨w1.heap.size + 1, 1, none⟩ = some (.int .u16 0) := hb2.cell 1
        have c2 : w2.cell? ⟨w1.heap.size + 1, 2, none⟩ = some (.int .u16 0) := hb2.cell 2
        have c3 : w2.cell? ⟨w1.heap.size + 1, 3, none⟩ = some (.int .u16 0) := hb2.cell 3
        have c4 : w2.cell? ⟨w1.heap.size + 1, 4, none⟩ = some (.int .u32 0) := hb2.cell 4
        have f1 := hb2.free 1
        have f2 := hb2.free 2
        have f3 := hb2.free 3
        have f4 := hb2.free 4
        refine (Info_any x _ hxb.1 hxb.2).mono ?_
        rintro e w2 ⟨rfl, rfl⟩
        unfold infoV
        rw [HT.out, HGv.out, HSg.out]
        generalize hKn : known x = kn
        have HKn : Hid (known x = kn) := hKn
        clear hKn
        by_cases hc1 : 0 < t
        · by_cases hc2 : 0 < (gx - t)
          · go_wp2_with fail
            have hBb5 := ((((hb2.set 2 (.int .u16 (t))).set 3 (.int .u16 ((gx - t)))).set 4 (.int .u32 (sx))).set 1 (.int .u16 k))
            have hB5 := ((((hB2.other (a := ⟨w1.heap.size + 1, 2, none⟩) (by simp) (.int .u16 (t))).other (a := ⟨w1.heap.size + 1, 3, none⟩) (by simp) (.int .u16 ((gx - t)))).other (a := ⟨w1.heap.size + 1, 4, none⟩) (by simp) (.int .u32 (sx))).other (a := ⟨w1.heap.size + 1, 1, none⟩) (by simp) (.int .u16 k))
            have hown5 := (ownsRow_setCell_below (ownsRow_setCell_below (ownsRow_setCell_below (ownsRow_setCell_below hown2 (a := ⟨w1.heap.size + 1, 2, none⟩) (by simp) (.int .u16 (t))) (a := ⟨w1.heap.size + 1, 3, none⟩) (by simp) (.int .u16 ((gx - t)))) (a := ⟨w1.heap.size + 1, 4, none⟩) (by simp) (.int .u32 (sx))) (a := ⟨w1.heap.size + 1, 1, none⟩) (by simp) (.int .u16 k))
            have hbel5 := ((((hbel2.setCell (p := ⟨w1.heap.size + 1, 2, none⟩) (by simp) (.int .u16 (t))).setCell (p := ⟨w1.heap.size + 1, 3, none⟩) (by simp) (.int .u16 ((gx - t)))).setCell (p := ⟨w1.heap.size + 1, 4, none⟩) (by simp) (.int .u32 (sx))).setCell (p := ⟨w1.heap.size + 1, 1, none⟩) (by simp) (.int .u16 k))
            change Blk _ _ 48 (blk5 k k (t) ((gx - t)) (sx)) at hBb5
            generalize hW : ((((w2.setCell ⟨w1.heap.size + 1, 2, none⟩ (.int .u16 (t))).setCell ⟨w1.heap.size + 1, 3, none⟩ (.int .u16 ((gx - t)))).setCell ⟨w1.heap.size + 1, 4, none⟩ (.int .u32 (sx))).setCell ⟨w1.heap.size + 1, 1, none⟩ (.int .u16 k)) = w5 at *
            clear hW c1 c2 c3 c4 f1 f2 f3 f4 hB2 hown2 hb2 hbel2
            have hbo : Hid (blk5 k k (t) ((gx - t)) (sx) = blkOf k (([] : List Int) ++ [x])) := by
              show _ = _
              rw [HNEW.out, if_pos (by omega), if_pos (by omega)]
            rw [← HKn.out]
            refine (leaves_any x _ hxb.1 hxb.2).mono ?_
            rintro e wl ⟨rfl, rfl⟩
            cases hE : ends x
            · rw [hE] at hnx
              clear hE
              go_wp2_with fail
              refine (Imm_any x _ hxb.1 hxb.2).mono ?_
              rintro e wm ⟨rfl, rfl⟩
              go_wp2
              go_roundg (gk - (1 + imm x))
              case measure => omega
              case rel =>
                refine ⟨k + 1 + imm x, true, (gx - t), by omega, by go_num, rfl, by first | rfl | go_num, R, S, v, k, k, _, _, _, hnx, hB5, hown5, hBb5, hbel5, Or.inr ⟨rfl, k, ([] : List Int) ++ [x], hcur2, hne2.out, ?_, hbo.out⟩⟩
                rw [hst2.out]; simp only [stkStep, HT.out, HGv.out]; simp [stk, stk0]
            · rw [hE] at hnx
              clear hE
              have hcb := hcur2.bd
              go_wp2_with (refine wpList_load_blk rfl 48 (.tmp 4) rfl (w1.heap.size + 1) rfl 48 _ _ hBb5 Sabg.underlying48 rfl size48' ?_)
              refine (add_any w1.heap.size R.length (w1.heap.size + 2) k k (t) ((gx - t)) (sx) (.slice ca n cc) v S (cellsR R) _ hB5 hcur2.1.2.1 (by omega) (by omega) (by omega) (by have := hBb5.lt; omega) hown5).mono ?_
              rintro e w7 ⟨gbn, capn, rfl, hB7, hown7, hkeep⟩
              have hbel7 := hbel5.trans (hkeep.below (Nat.le_refl _) (by omega))
              have hBb7 := hkeep.blk hBb5 (by omega) (by omega)
              go_wp2_with fail
              refine (Imm_any x _ hxb.1 hxb.2).mono ?_
              rintro e wm ⟨rfl, rfl⟩
              go_wp2
              go_roundg (gk - (1 + imm x))
              case measure => omega
              case rel =>
                have hstop : l.length ≤ k + 1 + imm x ∨ hd l (k + 1 + imm x) = true := by
                  by_cases hq : l.length ≤ k + 1 + imm x
                  · exact Or.inl hq
                  · exact Or.inr (by rw [hnx.here (by omega)]; rfl)
                have hdn := hcur2.close hne2.out hstop (by omega)
                rw [hbo.out, ← cellsR_snoc] at hown7
                exact ⟨k + 1 + imm x, false, (gx - t), by omega, by go_num, rfl, by first | rfl | go_num, R ++ [(k, ([] : List Int) ++ [x])], _, _, k, k, _, _, _, hnx, hB7, by rw [List.length_append]; exact hown7, hBb7, hbel7, Or.inl ⟨rfl, hdn⟩⟩
          · go_wp2_with fail
            have hBb5 := (((hb2.set 2 (.int .u16 (t))).set 4 (.int .u32 (sx))).set 1 (.int .u16 k))
            have hB5 := (((hB2.other (a := ⟨w1.heap.size + 1, 2, none⟩) (by simp) (.int .u16 (t))).other (a := ⟨w1.heap.size + 1, 4, none⟩) (by simp) (.int .u32 (sx))).other (a := ⟨w1.heap.size + 1, 1, none⟩) (by simp) (.int .u16 k))
            have hown5 := (ownsRow_setCell_below (ownsRow_setCell_below (ownsRow_setCell_below hown2 (a := ⟨w1.heap.size + 1, 2, none⟩) (by simp) (.int .u16 (t))) (a := ⟨w1.heap.size + 1, 4, none⟩) (by simp) (.int .u32 (sx))) (a := ⟨w1.heap.size + 1, 1, none⟩) (by simp) (.int .u16 k))
            have hbel5 := (((hbel2.setCell (p := ⟨w1.heap.size + 1, 2, none⟩) (by simp) (.int .u16 (t))).setCell (p := ⟨w1.heap.size + 1, 4, none⟩) (by simp) (.int .u32 (sx))).setCell (p := ⟨w1.heap.size + 1, 1, none⟩) (by simp) (.int .u16 k))
            change Blk _ _ 48 (blk5 k k (t) (0) (sx)) at hBb5
            generalize hW : (((w2.setCell ⟨w1.heap.size + 1, 2, none⟩ (.int .u16 (t))).setCell ⟨w1.heap.size + 1, 4, none⟩ (.int .u32 (sx))).setCell ⟨w1.heap.size + 1, 1, none⟩ (.int .u16 k)) = w5 at *
            clear hW c1 c2 c3 c4 f1 f2 f3 f4 hB2 hown2 hb2 hbel2
            have hbo : Hid (blk5 k k (t) (0) (sx) = blkOf k (([] : List Int) ++ [x])) := by
              show _ = _
              rw [HNEW.out, if_pos (by omega), if_neg (by omega)]
            rw [← HKn.out]
            refine (leaves_any x _ hxb.1 hxb.2).mono ?_
            rintro e wl ⟨rfl, rfl⟩
            cases hE : ends x
            · rw [hE] at hnx
              clear hE
              go_wp2_with fail
              refine (Imm_any x _ hxb.1 hxb.2).mono ?_
              rintro e wm ⟨rfl, rfl⟩
              go_wp2
              go_roundg (gk - (1 + imm x))
              case measure => omega
              case rel =>
                refine ⟨k + 1 + imm x, true, (gx - t), by omega, by go_num, rfl, by first | rfl | go_num, R, S, v, k, k, _, _, _, hnx, hB5, hown5, hBb5, hbel5, Or.inr ⟨rfl, k, ([] : List Int) ++ [x], hcur2, hne2.out, ?_, hbo.out⟩⟩
                rw [hst2.out]; simp only [stkStep, HT.out, HGv.out]; simp [stk, stk0]
            · rw [hE] at hnx
              clear hE
              have hcb := hcur2.bd
              go_wp2_with (refine wpList_load_blk rfl 48 (.tmp 4) rfl (w1.heap.size + 1) rfl 48 _ _ hBb5 Sabg.underlying48 rfl size48' ?_)
              refine (add_any w1.heap.size R.length (w1.heap.size + 2) k k (t) (0) (sx) (.slice ca n cc) v S (cellsR R) _ hB5 hcur2.1.2.1 (by omega) (by omega) (by omega) (by have := hBb5.lt; omega) hown5).mono ?_
              rintro e w7 ⟨gbn, capn, rfl, hB7, hown7, hkeep⟩
              have hbel7 := hbel5.trans (hkeep.below (Nat.le_refl _) (by omega))
              have hBb7 := hkeep.blk hBb5 (by omega) (by omega)
              go_wp2_with fail
              refine (Imm_any x _ hxb.1 hxb.2).mono ?_
              rintro e wm ⟨rfl, rfl⟩
              go_wp2
              go_roundg (gk - (1 + imm x))
              case measure => omega
              case rel =>
                have hstop : l.length ≤ k + 1 + imm x ∨ hd l (k + 1 + imm x) = true := by
                  by_cases hq : l.length ≤ k + 1 + imm x
                  · exact Or.inl hq
                  · exact Or.inr (by rw [hnx.here (by omega)]; rfl)
                have hdn := hcur2.close hne2.out hstop (by omega)
                rw [hbo.out, ← cellsR_snoc] at hown7
                exact ⟨k + 1 + imm x, false, (gx - t), by omega, by go_num, rfl, by first | rfl | go_num, R ++ [(k, ([] : List Int) ++ [x])], _, _, k, k, _, _, _, hnx, hB7, by rw [List.length_append]; exact hown7, hBb7, hbel7, Or.inl ⟨rfl, hdn⟩⟩
        · by_cases hc2 : 0 < (gx - t)
          · go_wp2_with fail
            have hBb5 := (((hb2.set 3 (.int .u16 ((gx - t)))).set 4 (.int .u32 (sx))).set 1 (.int .u16 k))
            have hB5 := (((hB2.other (a := ⟨w1.heap.size + 1, 3, none⟩) (by simp) (.int .u16 ((gx - t)))).other (a := ⟨w1.heap.size + 1, 4, none⟩) (by simp) (.int .u32 (sx))).other (a := ⟨w1.heap.size + 1, 1, none⟩) (by simp) (.int .u16 k))
            have hown5 := (ownsRow_setCell_below (ownsRow_setCell_below (ownsRow_setCell_below hown2 (a := ⟨w1.heap.size + 1, 3, none⟩) (by simp) (.int .u16 ((gx - t)))) (a := ⟨w1.heap.size + 1, 4, none⟩) (by simp) (.int .u32 (sx))) (a := ⟨w1.heap.size + 1, 1, none⟩) (by simp) (.int .u16 k))
            have hbel5 := (((hbel2.setCell (p := ⟨w1.heap.size + 1, 3, none⟩) (by simp) (.int .u16 ((gx - t)))).setCell (p := ⟨w1.heap.size + 1, 4, none⟩) (by simp) (.int .u32 (sx))).setCell (p := ⟨w1.heap.size + 1, 1, none⟩) (by simp) (.int .u16 k))
            change Blk _ _ 48 (blk5 k k (0) ((gx - t)) (sx)) at hBb5
            generalize hW : (((w2.setCell ⟨w1.heap.size + 1, 3, none⟩ (.int .u16 ((gx - t)))).setCell ⟨w1.heap.size + 1, 4, none⟩ (.int .u32 (sx))).setCell ⟨w1.heap.size + 1, 1, none⟩ (.int .u16 k)) = w5 at *
            clear hW c1 c2 c3 c4 f1 f2 f3 f4 hB2 hown2 hb2 hbel2
            have hbo : Hid (blk5 k k (0) ((gx - t)) (sx) = blkOf k (([] : List Int) ++ [x])) := by
              show _ = _
              rw [HNEW.out, if_neg (by omega), if_pos (by omega)]
            rw [← HKn.out]
            refine (leaves_any x _ hxb.1 hxb.2).mono ?_
            rintro e wl ⟨rfl, rfl⟩
            cases hE : ends x
            · rw [hE] at hnx
              clear hE
              go_wp2_with fail
              refine (Imm_any x _ hxb.1 hxb.2).mono ?_
              rintro e wm ⟨rfl, rfl⟩
              go_wp2
              go_roundg (gk - (1 + imm x))
              case measure => omega
              case rel =>
                refine ⟨k + 1 + imm x, true, (gx - t), by omega, by go_num, rfl, by first | rfl | go_num, R, S, v, k, k, _, _, _, hnx, hB5, hown5, hBb5, hbel5, Or.inr ⟨rfl, k, ([] : List Int) ++ [x], hcur2, hne2.out, ?_, hbo.out⟩⟩
                rw [hst2.out]; simp only [stkStep, HT.out, HGv.out]; simp [stk, stk0]
            · rw [hE] at hnx
              clear hE
              have hcb := hcur2.bd
              go_wp2_with (refine wpList_load_blk rfl 48 (.tmp 4) rfl (w1.heap.size + 1) rfl 48 _ _ hBb5 Sabg.underlying48 rfl size48' ?_)
              refine (add_any w1.heap.size R.length (w1.heap.size + 2) k k (0) ((gx - t)) (sx) (.slice ca n cc) v S (cellsR R) _ hB5 hcur2.1.2.1 (by omega) (by omega) (by omega) (by have := hBb5.lt; omega) hown5).mono ?_
              rintro e w7 ⟨gbn, capn, rfl, hB7, hown7, hkeep⟩
              have hbel7 := hbel5.trans (hkeep.below (Nat.le_refl _) (by omega))
              have hBb7 := hkeep.blk hBb5 (by omega) (by omega)
              go_wp2_with fail
              refine (Imm_any x _ hxb.1 hxb.2).mono ?_
              rintro e wm ⟨rfl, rfl⟩
              go_wp2
              go_roundg (gk - (1 + imm x))
              case measure => omega
              case rel =>
                have hstop : l.length ≤ k + 1 + imm x ∨ hd l (k + 1 + imm x) = true := by
                  by_cases hq : l.length ≤ k + 1 + imm x
                  · exact Or.inl hq
                  · exact Or.inr (by rw [hnx.here (by omega)]; rfl)
                have hdn := hcur2.close hne2.out hstop (by omega)
                rw [hbo.out, ← cellsR_snoc] at hown7
                exact ⟨k + 1 + imm x, false, (gx - t), by omega, by go_num, rfl, by first | rfl | go_num, R ++ [(k, ([] : List Int) ++ [x])], _, _, k, k, _, _, _, hnx, hB7, by rw [List.length_append]; exact hown7, hBb7, hbel7, Or.inl ⟨rfl, hdn⟩⟩
          · go_wp2_with fail
            have hBb5 := ((hb2.set 4 (.int .u32 (sx))).set 1 (.int .u16 k))
            have hB5 := ((hB2.other (a := ⟨w1.heap.size + 1, 4, none⟩) (by simp) (.int .u32 (sx))).other (a := ⟨w1.heap.size + 1, 1, none⟩) (by simp) (.int .u16 k))
            have hown5 := (ownsRow_setCell_below (ownsRow_setCell_below hown2 (a := ⟨w1.heap.size + 1, 4, none⟩) (by simp) (.int .u32 (sx))) (a := ⟨w1.heap.size + 1, 1, none⟩) (by simp) (.int .u16 k))
            have hbel5 := ((hbel2.setCell (p := ⟨w1.heap.size + 1, 4, none⟩) (by simp) (.int .u32 (sx))).setCell (p := ⟨w1.heap.size + 1, 1, none⟩) (by simp) (.int .u16 k))
            change Blk _ _ 48 (blk5 k k (0) (0) (sx)) at hBb5
            generalize hW : ((w2.setCell ⟨w1.heap.size + 1, 4, none⟩ (.int .u32 (sx))).setCell ⟨w1.heap.size + 1, 1, none⟩ (.int .u16 k)) = w5 at *
            clear hW c1 c2 c3 c4 f1 f2 f3 f4 hB2 hown2 hb2 hbel2
            have hbo : Hid (blk5 k k (0) (0) (sx) = blkOf k (([] : List Int) ++ [x])) := by
              show _ = _
              rw [HNEW.out, if_neg (by omega), if_neg (by omega)]
            rw [← HKn.out]
            refine (leaves_any x _ hxb.1 hxb.2).mono ?_
            rintro e wl ⟨rfl, rfl⟩
            cases hE : ends x
            · rw [hE] at hnx
              clear hE
              go_wp2_with fail
              refine (Imm_any x _ hxb.1 hxb.2).mono ?_
              rintro e wm ⟨rfl, rfl⟩
              go_wp2
              go_roundg (gk - (1 + imm x))
              case measure => omega
              case rel =>
                refine ⟨k + 1 + imm x, true, (gx - t), by omega, by go_num, rfl, by first | rfl | go_num, R, S, v, k, k, _, _, _, hnx, hB5, hown5, hBb5, hbel5, Or.inr ⟨rfl, k, ([] : List Int) ++ [x], hcur2, hne2.out, ?_, hbo.out⟩⟩
                rw [hst2.out]; simp only [stkStep, HT.out, HGv.out]; simp [stk, stk0]
            · rw [hE] at hnx
              clear hE
              have hcb := hcur2.bd
              go_wp2_with (refine wpList_load_blk rfl 48 (.tmp 4) rfl (w1.heap.size + 1) rfl 48 _ _ hBb5 Sabg.underlying48 rfl size48' ?_)
              refine (add_any w1.heap.size R.length (w1.heap.size + 2) k k (0) (0) (sx) (.slice ca n cc) v S (cellsR R) _ hB5 hcur2.1.2.1 (by omega) (by omega) (by omega) (by have := hBb5.lt; omega) hown5).mono ?_
              rintro e w7 ⟨gbn, capn, rfl, hB7, hown7, hkeep⟩
              have hbel7 := hbel5.trans (hkeep.below (Nat.le_refl _) (by omega))
              have hBb7 := hkeep.blk hBb5 (by omega) (by omega)
              go_wp2_with fail
              refine (Imm_any x _ hxb.1 hxb.2).mono ?_
              rintro e wm ⟨rfl, rfl⟩
              go_wp2
              go_roundg (gk - (1 + imm x))
              case measure => omega
              case rel =>
                have hstop : l.length ≤ k + 1 + imm x ∨ hd l (k + 1 + imm x) = true := by
                  by_cases hq : l.length ≤ k + 1 + imm x
                  · exact Or.inl hq
                  · exact Or.inr (by rw [hnx.here (by omega)]; rfl)
                have hdn := hcur2.close hne2.out hstop (by omega)
                rw [hbo.out, ← cellsR_snoc] at hown7
                exact ⟨k + 1 + imm x, false, (gx - t), by omega, by go_num, rfl, by first | rfl | go_num, R ++ [(k, ([] : List Int) ++ [x])], _, _, k, k, _, _, _, hnx, hB7, by rw [List.length_append]; exact hown7, hBb7, hbel7, Or.inl ⟨rfl, hdn⟩⟩
      · rw [hbeq] at hBb
        by_cases hx : x = 91
        · have hx' : (x == 91) = true := by simp [hx]
          clear hx hbeq
          have hcb := hcur.bd
          have hdn := hcur.close hne (Or.inr (by rw [HHD.out, hx']; rfl)) (by omega)
          go_wp2_with (refine wpList_load_blk rfl 48 (.tmp 4) rfl (w1.heap.size + 1) rfl 48 _ _ hBb Sabg.underlying48 rfl size48' ?_)
          refine (add_any w1.heap.size R.length (w1.heap.size + 2) h (lastP h os) (stk os).need (stk os).rise (gasOf os) (.slice ca n cc) v S (cellsR R) _ hB hcur.1.2.1 (by omega) (by omega) (by omega) (by omega) hown).mono ?_
          rintro e w7 ⟨gbn, capn, rfl, hB7, hown7, hkeep⟩
          have hbel7 := hbel.trans (hkeep.below (Nat.le_refl _) (by omega))
          have hBb7 := hkeep.blk hBb (by omega) (by omega)
          have hown7' : w7.ownsRow (w1.heap.size + 2) 48 5 (.slice (some ⟨gbn, 0, none⟩) (R.length + 1) capn) (R ++ [(h, os)]).length (cellsR (R ++ [(h, os)])) := by
            rw [cellsR_snoc, List.length_append]; exact hown7
          clear hown7 hkeep hB hown hBb hbel hcx hbw hcur hne
          generalize hR' : R ++ [(h, os)] = R' at *
          generalize hS' : S.set h (R.length + 1) = S' at *
          generalize hv' : Value.slice (some ⟨gbn, 0, none⟩) (R.length + 1) capn = v' at *
          clear hR' hS' hv' hcb
          have hrl := hdn.len
          have hcur9 : Cur l R' S' k [] k := Cur.head hdn (by rw [HHD.out, hx']; rfl)
          go_wp2_with (refine wpList_store_blk rfl 48 (.tmp 4) (.tmp 42) rfl (w1.heap.size + 1) (blk5 k 0 0 0 0) rfl rfl 48 (blkOf h os) hBb7 size48' rfl (blk5_one _ _ _ _ _) ?_; intro w9 hb9 ho9)
          have hB9 := ho9.blk hB7 (by omega)
          have hown9 := own_only hown7' ho9 (by omega)
          have hbel9 := hbel7.trans (ho9.below (Nat.le_succ _))
          clear hB7 hown7' hBb7 hbel7 ho9 hdn
          have him2 : (w1.heap.size : Nat) < w1.heap.size + 1 := by omega
          have hnew := blkOf_snoc hcur9.2.2.2.1 x
          simp only [stk, stk0, gasOf, List.foldl_nil, List.map_nil, List.sum_nil, Int.sub_zero, Int.zero_add] at hnew
          have HNEW : Hid _ := hnew
          clear hnew
          have hcur2 := hcur9.next HAT.out hkl (fun h => absurd rfl h)
          rw [HX.out] at hcur2
          have hne2 : Hid (([] : List Int) ++ [x] ≠ []) := by show _ ≠ _; simp
          have hst2 : Hid (stk (([] : List Int) ++ [x]) = stkStep (stk ([] : List Int)) x) := stk_snoc ([] : List Int) x
          generalize hT : tk x = t at *
          generalize hGv : gv x = gx at *
          generalize hSg : sg x = sx at *
          have HT : Hid (tk x = t) := hT
          have HGv : Hid (gv x = gx) := hGv
          have HSg : Hid (sg x = sx) := hSg
          clear hT hGv hSg
          have c1 : w9.cell? ⟨w1.heap.size + 1, 1, none⟩ = some (.int .u16 0) := hb9.cell 1
          have c2 : w9.cell? ⟨w1.heap.size + 1, 2, none⟩ = some (.int .u16 0) := hb9.cell 2
          have c3 : w9.cell? ⟨w1.heap.size + 1, 3, none⟩ = some (.int .u16 0) := hb9.cell 3
          have c4 : w9.cell? ⟨w1.heap.size + 1, 4, none⟩ = some (.int .u32 0) := hb9.cell 4
          have f1 := hb9.free 1
          have f2 := hb9.free 2
          have f3 := hb9.free 3
          have f4 := hb9.free 4
          refine (Info_any x _ hxb.1 hxb.2).mono ?_
          rintro e w9 ⟨rfl, rfl⟩
          unfold infoV
          rw [HT.out, HGv.out, HSg.out]
          generalize hKn : known x = kn
          have HKn : Hid (known x = kn) := hKn
          clear hKn
          by_cases hc1 : 0 < t
          · by_cases hc2 : 0 < (gx - t)
            · go_wp2_with fail
              have hBb5 := ((((hb9.set 2 (.int .u16 (t))).set 3 (.int .u16 ((gx - t)))).set 4 (.int .u32 (sx))).set 1 (.int .u16 k))
              have hB5 := ((((hB9.other (a := ⟨w1.heap.size + 1, 2, none⟩) (by simp) (.int .u16 (t))).other (a := ⟨w1.heap.size + 1, 3, none⟩) (by simp) (.int .u16 ((gx - t)))).other (a := ⟨w1.heap.size + 1, 4, none⟩) (by simp) (.int .u32 (sx))).other (a := ⟨w1.heap.size + 1, 1, none⟩) (by simp) (.int .u16 k))
              have hown5 := (ownsRow_setCell_below (ownsRow_setCell_below (ownsRow_setCell_below (ownsRow_setCell_below hown9 (a := ⟨w1.heap.size + 1, 2, none⟩) (by simp) (.int .u16 (t))) (a := ⟨w1.heap.size + 1, 3, none⟩) (by simp) (.int .u16 ((gx - t)))) (a := ⟨w1.heap.size + 1, 4, none⟩) (by simp) (.int .u32 (sx))) (a := ⟨w1.heap.size + 1, 1, none⟩) (by simp) (.int .u16 k))
              have hbel5 := ((((hbel9.setCell (p := ⟨w1.heap.size + 1, 2, none⟩) (by simp) (.int .u16 (t))).setCell (p := ⟨w1.heap.size + 1, 3, none⟩) (by simp) (.int .u16 ((gx - t)))).setCell (p := ⟨w1.heap.size + 1, 4, none⟩) (by simp) (.int .u32 (sx))).setCell (p := ⟨w1.heap.size + 1, 1, none⟩) (by simp) (.int .u16 k))
              change Blk _ _ 48 (blk5 k k (t) ((gx - t)) (sx)) at hBb5
              generalize hW : ((((w9.setCell ⟨w1.heap.size + 1, 2, none⟩ (.int .u16 (t))).setCell ⟨w1.heap.size + 1, 3, none⟩ (.int .u16 ((gx - t)))).setCell ⟨w1.heap.size + 1, 4, none⟩ (.int .u32 (sx))).setCell ⟨w1.heap.size + 1, 1, none⟩ (.int .u16 k)) = w5 at *
              clear hW c1 c2 c3 c4 f1 f2 f3 f4 hB9 hown9 hb9 hbel9
              have hbo : Hid (blk5 k k (t) ((gx - t)) (sx) = blkOf k (([] : List Int) ++ [x])) := by
                show _ = _
                rw [HNEW.out, if_pos (by omega), if_pos (by omega)]
              rw [← HKn.out]
              refine (leaves_any x _ hxb.1 hxb.2).mono ?_
              rintro e wl ⟨rfl, rfl⟩
              cases hE : ends x
              · rw [hE] at hnx
                clear hE
                go_wp2_with fail
                refine (Imm_any x _ hxb.1 hxb.2).mono ?_
                rintro e wm ⟨rfl, rfl⟩
                go_wp2
                go_roundg (gk - (1 + imm x))
                case measure => omega
                case rel =>
                  refine ⟨k + 1 + imm x, true, (gx - t), by omega, by go_num, rfl, by first | rfl | go_num, R', S', v', k, k, _, _, _, hnx, hB5, hown5, hBb5, hbel5, Or.inr ⟨rfl, k, ([] : List Int) ++ [x], hcur2, hne2.out, ?_, hbo.out⟩⟩
                  rw [hst2.out]; simp only [stkStep, HT.out, HGv.out]; simp [stk, stk0]
              · rw [hE] at hnx
                clear hE
                have hcb := hcur2.bd
                go_wp2_with (refine wpList_load_blk rfl 48 (.tmp 4) rfl (w1.heap.size + 1) rfl 48 _ _ hBb5 Sabg.underlying48 rfl size48' ?_)
                refine (add_any w1.heap.size R'.length (w1.heap.size + 2) k k (t) ((gx - t)) (sx) (.slice ca n cc) v' S' (cellsR R') _ hB5 hcur2.1.2.1 (by omega) (by omega) (by omega) (by have := hBb5.lt; omega) hown5).mono ?_
                rintro e w7 ⟨gbn, capn, rfl, hB7, hown7, hkeep⟩
                have hbel7 := hbel5.trans (hkeep.below (Nat.le_refl _) (by omega))
                have hBb7 := hkeep.blk hBb5 (by omega) (by omega)
                go_wp2_with fail
                refine (Imm_any x _ hxb.1 hxb.2).mono ?_
                rintro e wm ⟨rfl, rfl⟩
                go_wp2
                go_roundg (gk - (1 + imm x))
                case measure => omega
                case rel =>
                  have hstop : l.length ≤ k + 1 + imm x ∨ hd l (k + 1 + imm x) = true := by
                    by_cases hq : l.length ≤ k + 1 + imm x
                    · exact Or.inl hq
                    · exact Or.inr (by rw [hnx.here (by omega)]; rfl)
                  have hdn := hcur2.close hne2.out hstop (by omega)
                  rw [hbo.out, ← cellsR_snoc] at hown7
                  exact ⟨k + 1 + imm x, false, (gx - t), by omega, by go_num, rfl, by first | rfl | go_num, R' ++ [(k, ([] : List Int) ++ [x])], _, _, k, k, _, _, _, hnx, hB7, by rw [List.length_append]; exact hown7, hBb7, hbel7, Or.inl ⟨rfl, hdn⟩⟩
            · go_wp2_with fail
              have hBb5 := (((hb9.set 2 (.int .u16 (t))).set 4 (.int .u32 (sx))).set 1 (.int .u16 k))
              have hB5 := (((hB9.other (a := ⟨w1.heap.size + 1, 2, none⟩) (by simp) (.int .u16 (t))).other (a := ⟨w1.heap.size + 1, 4, none⟩) (by simp) (.int .u32 (sx))).other (a := ⟨w1.heap.size + 1, 1, none⟩) (by simp) (.int .u16 k))
              have hown5 := (ownsRow_setCell_below (ownsRow_setCell_below (ownsRow_setCell_below hown9 (a := ⟨w1.heap.size + 1, 2, none⟩) (by simp) (.int .u16 (t))) (a := ⟨w1.heap.size + 1, 4, none⟩) (by simp) (.int .u32 (sx))) (a := ⟨w1.heap.size + 1, 1, none⟩) (by simp) (.int .u16 k))
              have hbel5 := (((hbel9.setCell (p := ⟨w1.heap.size + 1, 2, none⟩) (by simp) (.int .u16 (t))).setCell (p := ⟨w1.heap.size + 1, 4, none⟩) (by simp) (.int .u32 (sx))).setCell (p := ⟨w1.heap.size + 1, 1, none⟩) (by simp) (.int .u16 k))
              change Blk _ _ 48 (blk5 k k (t) (0) (sx)) at hBb5
              generalize hW : (((w9.setCell ⟨w1.heap.size + 1, 2, none⟩ (.int .u16 (t))).setCell ⟨w1.heap.size + 1, 4, none⟩ (.int .u32 (sx))).setCell ⟨w1.heap.size + 1, 1, none⟩ (.int .u16 k)) = w5 at *
              clear hW c1 c2 c3 c4 f1 f2 f3 f4 hB9 hown9 hb9 hbel9
              have hbo : Hid (blk5 k k (t) (0) (sx) = blkOf k (([] : List Int) ++ [x])) := by
                show _ = _
                rw [HNEW.out, if_pos (by omega), if_neg (by omega)]
              rw [← HKn.out]
              refine (leaves_any x _ hxb.1 hxb.2).mono ?_
              rintro e wl ⟨rfl, rfl⟩
              cases hE : ends x
              · rw [hE] at hnx
                clear hE
                go_wp2_with fail
                refine (Imm_any x _ hxb.1 hxb.2).mono ?_
                rintro e wm ⟨rfl, rfl⟩
                go_wp2
                go_roundg (gk - (1 + imm x))
                case measure => omega
                case rel =>
                  refine ⟨k + 1 + imm x, true, (gx - t), by omega, by go_num, rfl, by first | rfl | go_num, R', S', v', k, k, _, _, _, hnx, hB5, hown5, hBb5, hbel5, Or.inr ⟨rfl, k, ([] : List Int) ++ [x], hcur2, hne2.out, ?_, hbo.out⟩⟩
                  rw [hst2.out]; simp only [stkStep, HT.out, HGv.out]; simp [stk, stk0]
              · rw [hE] at hnx
                clear hE
                have hcb := hcur2.bd
                go_wp2_with (refine wpList_load_blk rfl 48 (.tmp 4) rfl (w1.heap.size + 1) rfl 48 _ _ hBb5 Sabg.underlying48 rfl size48' ?_)
                refine (add_any w1.heap.size R'.length (w1.heap.size + 2) k k (t) (0) (sx) (.slice ca n cc) v' S' (cellsR R') _ hB5 hcur2.1.2.1 (by omega) (by omega) (by omega) (by have := hBb5.lt; omega) hown5).mono ?_
                rintro e w7 ⟨gbn, capn, rfl, hB7, hown7, hkeep⟩
                have hbel7 := hbel5.trans (hkeep.below (Nat.le_refl _) (by omega))
                have hBb7 := hkeep.blk hBb5 (by omega) (by omega)
                go_wp2_with fail
                refine (Imm_any x _ hxb.1 hxb.2).mono ?_
                rintro e wm ⟨rfl, rfl⟩
                go_wp2
                go_roundg (gk - (1 + imm x))
                case measure => omega
                case rel =>
                  have hstop : l.length ≤ k + 1 + imm x ∨ hd l (k + 1 + imm x) = true := by
                    by_cases hq : l.length ≤ k + 1 + imm x
                    · exact Or.inl hq
                    · exact Or.inr (by rw [hnx.here (by omega)]; rfl)
                  have hdn := hcur2.close hne2.out hstop (by omega)
                  rw [hbo.out, ← cellsR_snoc] at hown7
                  exact ⟨k + 1 + imm x, false, (gx - t), by omega, by go_num, rfl, by first | rfl | go_num, R' ++ [(k, ([] : List Int) ++ [x])], _, _, k, k, _, _, _, hnx, hB7, by rw [List.length_append]; exact hown7, hBb7, hbel7, Or.inl ⟨rfl, hdn⟩⟩
          · by_cases hc2 : 0 < (gx - t)
            · go_wp2_with fail
              have hBb5 := (((hb9.set 3 (.int .u16 ((gx - t)))).set 4 (.int .u32 (sx))).set 1 (.int .u16 k))
              have hB5 := (((hB9.other (a := ⟨w1.heap.size + 1, 3, none⟩) (by simp) (.int .u16 ((gx - t)))).other (a := ⟨w1.heap.size + 1, 4, none⟩) (by simp) (.int .u32 (sx))).other (a := ⟨w1.heap.size + 1, 1, none⟩) (by simp) (.int .u16 k))
              have hown5 := (ownsRow_setCell_below (ownsRow_setCell_below (ownsRow_setCell_below hown9 (a := ⟨w1.heap.size + 1, 3, none⟩) (by simp) (.int .u16 ((gx - t)))) (a := ⟨w1.heap.size + 1, 4, none⟩) (by simp) (.int .u32 (sx))) (a := ⟨w1.heap.size + 1, 1, none⟩) (by simp) (.int .u16 k))
              have hbel5 := (((hbel9.setCell (p := ⟨w1.heap.size + 1, 3, none⟩) (by simp) (.int .u16 ((gx - t)))).setCell (p := ⟨w1.heap.size + 1, 4, none⟩) (by simp) (.int .u32 (sx))).setCell (p := ⟨w1.heap.size + 1, 1, none⟩) (by simp) (.int .u16 k))
              change Blk _ _ 48 (blk5 k k (0) ((gx - t)) (sx)) at hBb5
              generalize hW : (((w9.setCell ⟨w1.heap.size + 1, 3, none⟩ (.int .u16 ((gx - t)))).setCell ⟨w1.heap.size + 1, 4, none⟩ (.int .u32 (sx))).setCell ⟨w1.heap.size + 1, 1, none⟩ (.int .u16 k)) = w5 at *
              clear hW c1 c2 c3 c4 f1 f2 f3 f4 hB9 hown9 hb9 hbel9
              have hbo : Hid (blk5 k k (0) ((gx - t)) (sx) = blkOf k (([] : List Int) ++ [x])) := by
                show _ = _
                rw [HNEW.out, if_neg (by omega), if_pos (by omega)]
              rw [← HKn.out]
              refine (leaves_any x _ hxb.1 hxb.2).mono ?_
              rintro e wl ⟨rfl, rfl⟩
              cases hE : ends x
              · rw [hE] at hnx
                clear hE
                go_wp2_with fail
                refine (Imm_any x _ hxb.1 hxb.2).mono ?_
                rintro e wm ⟨rfl, rfl⟩
                go_wp2
                go_roundg (gk - (1 + imm x))
                case measure => omega
                case rel =>
                  refine ⟨k + 1 + imm x, true, (gx - t), by omega, by go_num, rfl, by first | rfl | go_num, R', S', v', k, k, _, _, _, hnx, hB5, hown5, hBb5, hbel5, Or.inr ⟨rfl, k, ([] : List Int) ++ [x], hcur2, hne2.out, ?_, hbo.out⟩⟩
                  rw [hst2.out]; simp only [stkStep, HT.out, HGv.out]; simp [stk, stk0]
              · rw [hE] at hnx
                clear hE
                have hcb := hcur2.bd
                go_wp2_with (refine wpList_load_blk rfl 48 (.tmp 4) rfl (w1.heap.size + 1) rfl 48 _ _ hBb5 Sabg.underlying48 rfl size48' ?_)
                refine (add_any w1.heap.size R'.length (w1.heap.size + 2) k k (0) ((gx - t)) (sx) (.slice ca n cc) v' S' (cellsR R') _ hB5 hcur2.1.2.1 (by omega) (by omega) (by omega) (by have := hBb5.lt; omega) hown5).mono ?_
                rintro e w7 ⟨gbn, capn, rfl, hB7, hown7, hkeep⟩
                have hbel7 := hbel5.trans (hkeep.below (Nat.le_refl _) (by omega))
                have hBb7 := hkeep.blk hBb5 (by omega) (by omega)
                go_wp2_with fail
                refine (Imm_any x _ hxb.1 hxb.2).mono ?_
                rintro e wm ⟨rfl, rfl⟩
                go_wp2
                go_roundg (gk - (1 + imm x))
                case measure => omega
                case rel =>
                  have hstop : l.length ≤ k + 1 + imm x ∨ hd l (k + 1 + imm x) = true := by
                    by_cases hq : l.length ≤ k + 1 + imm x
                    · exact Or.inl hq
                    · exact Or.inr (by rw [hnx.here (by omega)]; rfl)
                  have hdn := hcur2.close hne2.out hstop (by omega)
                  rw [hbo.out, ← cellsR_snoc] at hown7
                  exact ⟨k + 1 + imm x, false, (gx - t), by omega, by go_num, rfl, by first | rfl | go_num, R' ++ [(k, ([] : List Int) ++ [x])], _, _, k, k, _, _, _, hnx, hB7, by rw [List.length_append]; exact hown7, hBb7, hbel7, Or.inl ⟨rfl, hdn⟩⟩
            · go_wp2_with fail
              have hBb5 := ((hb9.set 4 (.int .u32 (sx))).set 1 (.int .u16 k))
              have hB5 := ((hB9.other (a := ⟨w1.heap.size + 1, 4, none⟩) (by simp) (.int .u32 (sx))).other (a := ⟨w1.heap.size + 1, 1, none⟩) (by simp) (.int .u16 k))
              have hown5 := (ownsRow_setCell_below (ownsRow_setCell_below hown9 (a := ⟨w1.heap.size + 1, 4, none⟩) (by simp) (.int .u32 (sx))) (a := ⟨w1.heap.size + 1, 1, none⟩) (by simp) (.int .u16 k))
              have hbel5 := ((hbel9.setCell (p := ⟨w1.heap.size + 1, 4, none⟩) (by simp) (.int .u32 (sx))).setCell (p := ⟨w1.heap.size + 1, 1, none⟩) (by simp) (.int .u16 k))
              change Blk _ _ 48 (blk5 k k (0) (0) (sx)) at hBb5
              generalize hW : ((w9.setCell ⟨w1.heap.size + 1, 4, none⟩ (.int .u32 (sx))).setCell ⟨w1.heap.size + 1, 1, none⟩ (.int .u16 k)) = w5 at *
              clear hW c1 c2 c3 c4 f1 f2 f3 f4 hB9 hown9 hb9 hbel9
              have hbo : Hid (blk5 k k (0) (0) (sx) = blkOf k (([] : List Int) ++ [x])) := by
                show _ = _
                rw [HNEW.out, if_neg (by omega), if_neg (by omega)]
              rw [← HKn.out]
              refine (leaves_any x _ hxb.1 hxb.2).mono ?_
              rintro e wl ⟨rfl, rfl⟩
              cases hE : ends x
              · rw [hE] at hnx
                clear hE
                go_wp2_with fail
                refine (Imm_any x _ hxb.1 hxb.2).mono ?_
                rintro e wm ⟨rfl, rfl⟩
                go_wp2
                go_roundg (gk - (1 + imm x))
                case measure => omega
                case rel =>
                  refine ⟨k + 1 + imm x, true, (gx - t), by omega, by go_num, rfl, by first | rfl | go_num, R', S', v', k, k, _, _, _, hnx, hB5, hown5, hBb5, hbel5, Or.inr ⟨rfl, k, ([] : List Int) ++ [x], hcur2, hne2.out, ?_, hbo.out⟩⟩
                  rw [hst2.out]; simp only [stkStep, HT.out, HGv.out]; simp [stk, stk0]
              · rw [hE] at hnx
                clear hE
                have hcb := hcur2.bd
                go_wp2_with (refine wpList_load_blk rfl 48 (.tmp 4) rfl (w1.heap.size + 1) rfl 48 _ _ hBb5 Sabg.underlying48 rfl size48' ?_)
                refine (add_any w1.heap.size R'.length (w1.heap.size + 2) k k (0) (0) (sx) (.slice ca n cc) v' S' (cellsR R') _ hB5 hcur2.1.2.1 (by omega) (by omega) (by omega) (by have := hBb5.lt; omega) hown5).mono ?_
                rintro e w7 ⟨gbn, capn, rfl, hB7, hown7, hkeep⟩
                have hbel7 := hbel5.trans (hkeep.below (Nat.le_refl _) (by omega))
                have hBb7 := hkeep.blk hBb5 (by omega) (by omega)
                go_wp2_with fail
                refine (Imm_any x _ hxb.1 hxb.2).mono ?_
                rintro e wm ⟨rfl, rfl⟩
                go_wp2
                go_roundg (gk - (1 + imm x))
                case measure => omega
                case rel =>
                  have hstop : l.length ≤ k + 1 + imm x ∨ hd l (k + 1 + imm x) = true := by
                    by_cases hq : l.length ≤ k + 1 + imm x
                    · exact Or.inl hq
                    · exact Or.inr (by rw [hnx.here (by omega)]; rfl)
                  have hdn := hcur2.close hne2.out hstop (by omega)
                  rw [hbo.out, ← cellsR_snoc] at hown7
                  exact ⟨k + 1 + imm x, false, (gx - t), by omega, by go_num, rfl, by first | rfl | go_num, R' ++ [(k, ([] : List Int) ++ [x])], _, _, k, k, _, _, _, hnx, hB7, by rw [List.length_append]; exact hown7, hBb7, hbel7, Or.inl ⟨rfl, hdn⟩⟩
        · have hx2 : (x == 91) = false := by simpa using hx
          clear hx hbeq
          have hcb := hcur.bd
          have hdo := hcur.2.2.2.1.in_code hdg
          have hok := stk_bd os hdo
          have hgb := gasOf_bd os hdo
          obtain ⟨hn0, hn1, hr0, hr1, hh0, hh1⟩ := hok
          have hol : (os.length : Int) ≤ 512 := by have := HN.out; omega
          clear hdo
          go_wp2_with fail
          have him2 : (w1.heap.size : Nat) < w1.heap.size + 1 := by omega
          have hnew := blkOf_snoc hcur.2.2.2.1 x
          skip
          have HNEW : Hid _ := hnew
          clear hnew
          have hcur2 := hcur.next HAT.out hkl (fun _ => by rw [HHD.out, hx2]; rfl)
          rw [HX.out] at hcur2
          have hne2 : Hid (os ++ [x] ≠ []) := by show _ ≠ _; simp
          have hst2 : Hid (stk (os ++ [x]) = stkStep (stk os) x) := stk_snoc os x
          generalize hT : tk x = t at *
          generalize hGv : gv x = gx at *
          generalize hSg : sg x = sx at *
          have HT : Hid (tk x = t) := hT
          have HGv : Hid (gv x = gx) := hGv
          have HSg : Hid (sg x = sx) := hSg
          clear hT hGv hSg
          have c1 : wr.cell? ⟨w1.heap.size + 1, 1, none⟩ = some (.int .u16 (lastP h os)) := hBb.cell 1
          have c2 : wr.cell? ⟨w1.heap.size + 1, 2, none⟩ = some (.int .u16 (stk os).need) := hBb.cell 2
          have c3 : wr.cell? ⟨w1.heap.size + 1, 3, none⟩ = some (.int .u16 (stk os).rise) := hBb.cell 3
          have c4 : wr.cell? ⟨w1.heap.size + 1, 4, none⟩ = some (.int .u32 (gasOf os)) := hBb.cell 4
          have f1 := hBb.free 1
          have f2 := hBb.free 2
          have f3 := hBb.free 3
          have f4 := hBb.free 4
          refine (Info_any x _ hxb.1 hxb.2).mono ?_
          rintro e wr ⟨rfl, rfl⟩
          unfold infoV
          rw [HT.out, HGv.out, HSg.out]
          generalize hKn : known x = kn
          have HKn : Hid (known x = kn) := hKn
          clear hKn
          by_cases hc1 : (stk os).need < (t - (stk os).height)
          · by_cases hc2 : (stk os).rise < ((stk os).height + (gx - t))
            · go_wp2_with fail
              have hBb5 := ((((hBb.set 2 (.int .u16 ((t - (stk os).height)))).set 3 (.int .u16 (((stk os).height + (gx - t))))).set 4 (.int .u32 ((gasOf os + sx)))).set 1 (.int .u16 k))
              have hB5 := ((((hB.other (a := ⟨w1.heap.size + 1, 2, none⟩) (by simp) (.int .u16 ((t - (stk os).height)))).other (a := ⟨w1.heap.size + 1, 3, none⟩) (by simp) (.int .u16 (((stk os).height + (gx - t))))).other (a := ⟨w1.heap.size + 1, 4, none⟩) (by simp) (.int .u32 ((gasOf os + sx)))).other (a := ⟨w1.heap.size + 1, 1, none⟩) (by simp) (.int .u16 k))
              have hown5 := (ownsRow_setCell_below (ownsRow_setCell_below (ownsRow_setCell_below (ownsRow_setCell_below hown (a := ⟨w1.heap.size + 1, 2, none⟩) (by simp) (.int .u16 ((t - (stk os).height)))) (a := ⟨w1.heap.size + 1, 3, none⟩) (by simp) (.int .u16 (((stk os).height + (gx - t))))) (a := ⟨w1.heap.size + 1, 4, none⟩) (by simp) (.int .u32 ((gasOf os + sx)))) (a := ⟨w1.heap.size + 1, 1, none⟩) (by simp) (.int .u16 k))
              have hbel5 := ((((hbel.setCell (p := ⟨w1.heap.size + 1, 2, none⟩) (by simp) (.int .u16 ((t - (stk os).height)))).setCell (p := ⟨w1.heap.size + 1, 3, none⟩) (by simp) (.int .u16 (((stk os).height + (gx - t))))).setCell (p := ⟨w1.heap.size + 1, 4, none⟩) (by simp) (.int .u32 ((gasOf os + sx)))).setCell (p := ⟨w1.heap.size + 1, 1, none⟩) (by simp) (.int .u16 k))
              change Blk _ _ 48 (blk5 h k ((t - (stk os).height)) (((stk os).height + (gx - t))) ((gasOf os + sx))) at hBb5
              generalize hW : ((((wr.setCell ⟨w1.heap.size + 1, 2, none⟩ (.int .u16 ((t - (stk os).height)))).setCell ⟨w1.heap.size + 1, 3, none⟩ (.int .u16 (((stk os).height + (gx - t))))).setCell ⟨w1.heap.size + 1, 4, none⟩ (.int .u32 ((gasOf os + sx)))).setCell ⟨w1.heap.size + 1, 1, none⟩ (.int .u16 k)) = w5 at *
              clear hW c1 c2 c3 c4 f1 f2 f3 f4 hB hown hBb hbel hcx hbw
              have hbo : Hid (blk5 h k ((t - (stk os).height)) (((stk os).height + (gx - t))) ((gasOf os + sx)) = blkOf h (os ++ [x])) := by
                show _ = _
                rw [HNEW.out, if_pos (by omega), if_pos (by omega)]
              rw [← HKn.out]
              refine (leaves_any x _ hxb.1 hxb.2).mono ?_
              rintro e wl ⟨rfl, rfl⟩
              cases hE : ends x
              · rw [hE] at hnx
                clear hE
                go_wp2_with fail
                refine (Imm_any x _ hxb.1 hxb.2).mono ?_
                rintro e wm ⟨rfl, rfl⟩
                go_wp2
                go_roundg (gk - (1 + imm x))
                case measure => omega
                case rel =>
                  refine ⟨k + 1 + imm x, true, ((stk os).height + (gx - t)), by omega, by go_num, rfl, by first | rfl | go_num, R, S, v, h, k, _, _, _, hnx, hB5, hown5, hBb5, hbel5, Or.inr ⟨rfl, h, os ++ [x], hcur2, hne2.out, ?_, hbo.out⟩⟩
                  rw [hst2.out]; simp only [stkStep, HT.out, HGv.out]
              · rw [hE] at hnx
                clear hE
                have hcb := hcur2.bd
                go_wp2_with (refine wpList_load_blk rfl 48 (.tmp 4) rfl (w1.heap.size + 1) rfl 48 _ _ hBb5 Sabg.underlying48 rfl size48' ?_)
                refine (add_any w1.heap.size R.length (w1.heap.size + 2) h k ((t - (stk os).height)) (((stk os).height + (gx - t))) ((gasOf os + sx)) (.slice ca n cc) v S (cellsR R) _ hB5 hcur2.1.2.1 (by omega) (by omega) (by omega) (by have := hBb5.lt; omega) hown5).mono ?_
                rintro e w7 ⟨gbn, capn, rfl, hB7, hown7, hkeep⟩
                have hbel7 := hbel5.trans (hkeep.below (Nat.le_refl _) (by omega))
                have hBb7 := hkeep.blk hBb5 (by omega) (by omega)
                go_wp2_with fail
                refine (Imm_any x _ hxb.1 hxb.2).mono ?_
                rintro e wm ⟨rfl, rfl⟩
                go_wp2
                go_roundg (gk - (1 + imm x))
                case measure => omega
                case rel =>
                  have hstop : l.length ≤ k + 1 + imm x ∨ hd l (k + 1 + imm x) = true := by
                    by_cases hq : l.length ≤ k + 1 + imm x
                    · exact Or.inl hq
                    · exact Or.inr (by rw [hnx.here (by omega)]; rfl)
                  have hdn := hcur2.close hne2.out hstop (by omega)
                  rw [hbo.out, ← cellsR_snoc] at hown7
                  exact ⟨k + 1 + imm x, false, ((stk os).height + (gx - t)), by omega, by go_num, rfl, by first | rfl | go_num, R ++ [(h, os ++ [x])], _, _, h, k, _, _, _, hnx, hB7, by rw [List.length_append]; exact hown7, hBb7, hbel7, Or.inl ⟨rfl, hdn⟩⟩
            · go_wp2_with fail
              have hBb5 := (((hBb.set 2 (.int .u16 ((t - (stk os).height)))).set 4 (.int .u32 ((gasOf os + sx)))).set 1 (.int .u16 k))
              have hB5 := (((hB.other (a := ⟨w1.heap.size + 1, 2, none⟩) (by simp) (.int .u16 ((t - (stk os).height)))).other (a := ⟨w1.heap.size + 1, 4, none⟩) (by simp) (.int .u32 ((gasOf os + sx)))).other (a := ⟨w1.heap.size + 1, 1, none⟩) (by simp) (.int .u16 k))
              have hown5 := (ownsRow_setCell_below (ownsRow_setCell_below (ownsRow_setCell_below hown (a := ⟨w1.heap.size + 1, 2, none⟩) (by simp) (.int .u16 ((t - (stk os).height)))) (a := ⟨w1.heap.size + 1, 4, none⟩) (by simp) (.int .u32 ((gasOf os + sx)))) (a := ⟨w1.heap.size + 1, 1, none⟩) (by simp) (.int .u16 k))
              have hbel5 := (((hbel.setCell (p := ⟨w1.heap.size + 1, 2, none⟩) (by simp) (.int .u16 ((t - (stk os).height)))).setCell (p := ⟨w1.heap.size + 1, 4, none⟩) (by simp) (.int .u32 ((gasOf os + sx)))).setCell (p := ⟨w1.heap.size + 1, 1, none⟩) (by simp) (.int .u16 k))
              change Blk _ _ 48 (blk5 h k ((t - (stk os).height)) ((stk os).rise) ((gasOf os + sx))) at hBb5
              generalize hW : (((wr.setCell ⟨w1.heap.size + 1, 2, none⟩ (.int .u16 ((t - (stk os).height)))).setCell ⟨w1.heap.size + 1, 4, none⟩ (.int .u32 ((gasOf os + sx)))).setCell ⟨w1.heap.size + 1, 1, none⟩ (.int .u16 k)) = w5 at *
              clear hW c1 c2 c3 c4 f1 f2 f3 f4 hB hown hBb hbel hcx hbw
              have hbo : Hid (blk5 h k ((t - (stk os).height)) ((stk os).rise) ((gasOf os + sx)) = blkOf h (os ++ [x])) := by
                show _ = _
                rw [HNEW.out, if_pos (by omega), if_neg (by omega)]
              rw [← HKn.out]
              refine (leaves_any x _ hxb.1 hxb.2).mono ?_
              rintro e wl ⟨rfl, rfl⟩
              cases hE : ends x
              · rw [hE] at hnx
                clear hE
                go_wp2_with fail
                refine (Imm_any x _ hxb.1 hxb.2).mono ?_
                rintro e wm ⟨rfl, rfl⟩
                go_wp2
                go_roundg (gk - (1 + imm x))
                case measure => omega
                case rel =>
                  refine ⟨k + 1 + imm x, true, ((stk os).height + (gx - t)), by omega, by go_num, rfl, by first | rfl | go_num, R, S, v, h, k, _, _, _, hnx, hB5, hown5, hBb5, hbel5, Or.inr ⟨rfl, h, os ++ [x], hcur2, hne2.out, ?_, hbo.out⟩⟩
                  rw [hst2.out]; simp only [stkStep, HT.out, HGv.out]
              · rw [hE] at hnx
                clear hE
                have hcb := hcur2.bd
                go_wp2_with (refine wpList_load_blk rfl 48 (.tmp 4) rfl (w1.heap.size + 1) rfl 48 _ _ hBb5 Sabg.underlying48 rfl size48' ?_)
                refine (add_any w1.heap.size R.length (w1.heap.size + 2) h k ((t - (stk os).height)) ((stk os).rise) ((gasOf os + sx)) (.slice ca n cc) v S (cellsR R) _ hB5 hcur2.1.2.1 (by omega) (by omega) (by omega) (by have := hBb5.lt; omega) hown5).mono ?_
                rintro e w7 ⟨gbn, capn, rfl, hB7, hown7, hkeep⟩
                have hbel7 := hbel5.trans (hkeep.below (Nat.le_refl _) (by omega))
                have hBb7 := hkeep.blk hBb5 (by omega) (by omega)
                go_wp2_with fail
                refine (Imm_any x _ hxb.1 hxb.2).mono ?_
                rintro e wm ⟨rfl, rfl⟩
                go_wp2
                go_roundg (gk - (1 + imm x))
                case measure => omega
                case rel =>
                  have hstop : l.length ≤ k + 1 + imm x ∨ hd l (k + 1 + imm x) = true := by
                    by_cases hq : l.length ≤ k + 1 + imm x
                    · exact Or.inl hq
                    · exact Or.inr (by rw [hnx.here (by omega)]; rfl)
                  have hdn := hcur2.close hne2.out hstop (by omega)
                  rw [hbo.out, ← cellsR_snoc] at hown7
                  exact ⟨k + 1 + imm x, false, ((stk os).height + (gx - t)), by omega, by go_num, rfl, by first | rfl | go_num, R ++ [(h, os ++ [x])], _, _, h, k, _, _, _, hnx, hB7, by rw [List.length_append]; exact hown7, hBb7, hbel7, Or.inl ⟨rfl, hdn⟩⟩
          · by_cases hc2 : (stk os).rise < ((stk os).height + (gx - t))
            · go_wp2_with fail
              have hBb5 := (((hBb.set 3 (.int .u16 (((stk os).height + (gx - t))))).set 4 (.int .u32 ((gasOf os + sx)))).set 1 (.int .u16 k))
              have hB5 := (((hB.other (a := ⟨w1.heap.size + 1, 3, none⟩) (by simp) (.int .u16 (((stk os).height + (gx - t))))).other (a := ⟨w1.heap.size + 1, 4, none⟩) (by simp) (.int .u32 ((gasOf os + sx)))).other (a := ⟨w1.heap.size + 1, 1, none⟩) (by simp) (.int .u16 k))
              have hown5 := (ownsRow_setCell_below (ownsRow_setCell_below (ownsRow_setCell_below hown (a := ⟨w1.heap.size + 1, 3, none⟩) (by simp) (.int .u16 (((stk os).height + (gx - t))))) (a := ⟨w1.heap.size + 1, 4, none⟩) (by simp) (.int .u32 ((gasOf os + sx)))) (a := ⟨w1.heap.size + 1, 1, none⟩) (by simp) (.int .u16 k))
              have hbel5 := (((hbel.setCell (p := ⟨w1.heap.size + 1, 3, none⟩) (by simp) (.int .u16 (((stk os).height + (gx - t))))).setCell (p := ⟨w1.heap.size + 1, 4, none⟩) (by simp) (.int .u32 ((gasOf os + sx)))).setCell (p := ⟨w1.heap.size + 1, 1, none⟩) (by simp) (.int .u16 k))
              change Blk _ _ 48 (blk5 h k ((stk os).need) (((stk os).height + (gx - t))) ((gasOf os + sx))) at hBb5
              generalize hW : (((wr.setCell ⟨w1.heap.size + 1, 3, none⟩ (.int .u16 (((stk os).height + (gx - t))))).setCell ⟨w1.heap.size + 1, 4, none⟩ (.int .u32 ((gasOf os + sx)))).setCell ⟨w1.heap.size + 1, 1, none⟩ (.int .u16 k)) = w5 at *
              clear hW c1 c2 c3 c4 f1 f2 f3 f4 hB hown hBb hbel hcx hbw
              have hbo : Hid (blk5 h k ((stk os).need) (((stk os).height + (gx - t))) ((gasOf os + sx)) = blkOf h (os ++ [x])) := by
                show _ = _
                rw [HNEW.out, if_neg (by omega), if_pos (by omega)]
              rw [← HKn.out]
              refine (leaves_any x _ hxb.1 hxb.2).mono ?_
              rintro e wl ⟨rfl, rfl⟩
              cases hE : ends x
              · rw [hE] at hnx
                clear hE
                go_wp2_with fail
                refine (Imm_any x _ hxb.1 hxb.2).mono ?_
                rintro e wm ⟨rfl, rfl⟩
                go_wp2
                go_roundg (gk - (1 + imm x))
                case measure => omega
                case rel =>
                  refine ⟨k + 1 + imm x, true, ((stk os).height + (gx - t)), by omega, by go_num, rfl, by first | rfl | go_num, R, S, v, h, k, _, _, _, hnx, hB5, hown5, hBb5, hbel5, Or.inr ⟨rfl, h, os ++ [x], hcur2, hne2.out, ?_, hbo.out⟩⟩
                  rw [hst2.out]; simp only [stkStep, HT.out, HGv.out]
              · rw [hE] at hnx
                clear hE
                have hcb := hcur2.bd
                go_wp2_with (refine wpList_load_blk rfl 48 (.tmp 4) rfl (w1.heap.size + 1) rfl 48 _ _ hBb5 Sabg.underlying48 rfl size48' ?_)
                refine (add_any w1.heap.size R.length (w1.heap.size + 2) h k ((stk os).need) (((stk os).height + (gx - t))) ((gasOf os + sx)) (.slice ca n cc) v S (cellsR R) _ hB5 hcur2.1.2.1 (by omega) (by omega) (by omega) (by have := hBb5.lt; omega) hown5).mono ?_
                rintro e w7 ⟨gbn, capn, rfl, hB7, hown7, hkeep⟩
                have hbel7 := hbel5.trans (hkeep.below (Nat.le_refl _) (by omega))
                have hBb7 := hkeep.blk hBb5 (by omega) (by omega)
                go_wp2_with fail
                refine (Imm_any x _ hxb.1 hxb.2).mono ?_
                rintro e wm ⟨rfl, rfl⟩
                go_wp2
                go_roundg (gk - (1 + imm x))
                case measure => omega
                case rel =>
                  have hstop : l.length ≤ k + 1 + imm x ∨ hd l (k + 1 + imm x) = true := by
                    by_cases hq : l.length ≤ k + 1 + imm x
                    · exact Or.inl hq
                    · exact Or.inr (by rw [hnx.here (by omega)]; rfl)
                  have hdn := hcur2.close hne2.out hstop (by omega)
                  rw [hbo.out, ← cellsR_snoc] at hown7
                  exact ⟨k + 1 + imm x, false, ((stk os).height + (gx - t)), by omega, by go_num, rfl, by first | rfl | go_num, R ++ [(h, os ++ [x])], _, _, h, k, _, _, _, hnx, hB7, by rw [List.length_append]; exact hown7, hBb7, hbel7, Or.inl ⟨rfl, hdn⟩⟩
            · go_wp2_with fail
              have hBb5 := ((hBb.set 4 (.int .u32 ((gasOf os + sx)))).set 1 (.int .u16 k))
              have hB5 := ((hB.other (a := ⟨w1.heap.size + 1, 4, none⟩) (by simp) (.int .u32 ((gasOf os + sx)))).other (a := ⟨w1.heap.size + 1, 1, none⟩) (by simp) (.int .u16 k))
              have hown5 := (ownsRow_setCell_below (ownsRow_setCell_below hown (a := ⟨w1.heap.size + 1, 4, none⟩) (by simp) (.int .u32 ((gasOf os + sx)))) (a := ⟨w1.heap.size + 1, 1, none⟩) (by simp) (.int .u16 k))
              have hbel5 := ((hbel.setCell (p := ⟨w1.heap.size + 1, 4, none⟩) (by simp) (.int .u32 ((gasOf os + sx)))).setCell (p := ⟨w1.heap.size + 1, 1, none⟩) (by simp) (.int .u16 k))
              change Blk _ _ 48 (blk5 h k ((stk os).need) ((stk os).rise) ((gasOf os + sx))) at hBb5
              generalize hW : ((wr.setCell ⟨w1.heap.size + 1, 4, none⟩ (.int .u32 ((gasOf os + sx)))).setCell ⟨w1.heap.size + 1, 1, none⟩ (.int .u16 k)) = w5 at *
              clear hW c1 c2 c3 c4 f1 f2 f3 f4 hB hown hBb hbel hcx hbw
              have hbo : Hid (blk5 h k ((stk os).need) ((stk os).rise) ((gasOf os + sx)) = blkOf h (os ++ [x])) := by
                show _ = _
                rw [HNEW.out, if_neg (by omega), if_neg (by omega)]
              rw [← HKn.out]
              refine (leaves_any x _ hxb.1 hxb.2).mono ?_
              rintro e wl ⟨rfl, rfl⟩
              cases hE : ends x
              · rw [hE] at hnx
                clear hE
                go_wp2_with fail
                refine (Imm_any x _ hxb.1 hxb.2).mono ?_
                rintro e wm ⟨rfl, rfl⟩
                go_wp2
                go_roundg (gk - (1 + imm x))
                case measure => omega
                case rel =>
                  refine ⟨k + 1 + imm x, true, ((stk os).height + (gx - t)), by omega, by go_num, rfl, by first | rfl | go_num, R, S, v, h, k, _, _, _, hnx, hB5, hown5, hBb5, hbel5, Or.inr ⟨rfl, h, os ++ [x], hcur2, hne2.out, ?_, hbo.out⟩⟩
                  rw [hst2.out]; simp only [stkStep, HT.out, HGv.out]
              · rw [hE] at hnx
                clear hE
                have hcb := hcur2.bd
                go_wp2_with (refine wpList_load_blk rfl 48 (.tmp 4) rfl (w1.heap.size + 1) rfl 48 _ _ hBb5 Sabg.underlying48 rfl size48' ?_)
                refine (add_any w1.heap.size R.length (w1.heap.size + 2) h k ((stk os).need) ((stk os).rise) ((gasOf os + sx)) (.slice ca n cc) v S (cellsR R) _ hB5 hcur2.1.2.1 (by omega) (by omega) (by omega) (by have := hBb5.lt; omega) hown5).mono ?_
                rintro e w7 ⟨gbn, capn, rfl, hB7, hown7, hkeep⟩
                have hbel7 := hbel5.trans (hkeep.below (Nat.le_refl _) (by omega))
                have hBb7 := hkeep.blk hBb5 (by omega) (by omega)
                go_wp2_with fail
                refine (Imm_any x _ hxb.1 hxb.2).mono ?_
                rintro e wm ⟨rfl, rfl⟩
                go_wp2
                go_roundg (gk - (1 + imm x))
                case measure => omega
                case rel =>
                  have hstop : l.length ≤ k + 1 + imm x ∨ hd l (k + 1 + imm x) = true := by
                    by_cases hq : l.length ≤ k + 1 + imm x
                    · exact Or.inl hq
                    · exact Or.inr (by rw [hnx.here (by omega)]; rfl)
                  have hdn := hcur2.close hne2.out hstop (by omega)
                  rw [hbo.out, ← cellsR_snoc] at hown7
                  exact ⟨k + 1 + imm x, false, ((stk os).height + (gx - t)), by omega, by go_num, rfl, by first | rfl | go_num, R ++ [(h, os ++ [x])], _, _, h, k, _, _, _, hnx, hB7, by rw [List.length_append]; exact hown7, hBb7, hbel7, Or.inl ⟨rfl, hdn⟩⟩
    · rcases hcase with ⟨rfl, hdone⟩ | ⟨rfl, h, os, hcur, hne, rfl, hbeq⟩
      · go_wp2
        go_ret
        exact ⟨w1.heap.size, ca, cc, v, R, S, k, rfl, hB, HROW.out.below hbel, hown, hdone, by omega, hbw⟩
      · rw [hbeq] at hBb
        clear hbeq
        have hcb := hcur.bd
        have hdn := hcur.close hne (Or.inl (by rw [HN.out]; omega))
        have hhn : h < 512 := by
          have h1 := hcur.2.2.2.1
          match os, hne, h1 with
          | o :: r, _, h1 => have := h1.1; have := HN.out; omega
        go_wp2_with (refine wpList_load_blk rfl 48 (.tmp 4) rfl (w1.heap.size + 1) rfl 48 _ _ hBb Sabg.underlying48 rfl size48' ?_)
        refine (add_any w1.heap.size R.length (w1.heap.size + 2) h (lastP h os) (stk os).need (stk os).rise (gasOf os) (.slice ca n cc) v S (cellsR R) _ hB hcur.1.2.1 hhn (by omega) (by omega) (by omega) hown).mono ?_
        rintro e w7 ⟨gbn, capn, rfl, hB7, hown7, hkeep⟩
        have hbel7 := hbel.trans (hkeep.below (Nat.le_refl _) (by omega))
        have hown7' : w7.ownsRow (w1.heap.size + 2) 48 5 (.slice (some ⟨gbn, 0, none⟩) (R.length + 1) capn) (R ++ [(h, os)]).length (cellsR (R ++ [(h, os)])) := by
          rw [cellsR_snoc, List.length_append]; exact hown7
        go_wp2
        go_ret
        exact ⟨w1.heap.size, ca, cc, _, _, _, k, rfl, hB7, HROW.out.below hbel7, hown7', hdn hhn, by omega, hb1.trans (hbel7.mono hb1.size)⟩
end Go.Proofs.Ygcsab.Cut
