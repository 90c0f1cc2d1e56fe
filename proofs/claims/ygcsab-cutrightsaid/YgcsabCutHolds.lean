/-
  WALK: law.cutHolds (5).
-/
import Derived.Test.YgcsabCutNew
import Derived.Test.YgcsabCutBytes
import Derived.Test.YgcsabCutBlockAt
import Derived.Laws.StructEq
import Derived.Deep.RegionHeld3
namespace Go.Proofs.Ygcsab.Cut
open Go.RowKit Go.Great Go.Proofs.Ygcsab.Dest
set_option linter.unusedVariables false
set_option linter.unusedSimpArgs false

theorem eq48 (a1 a2 a3 a4 a5 : Int) (w : World) : (Op.equalIn 10000 48 (.agg #[.int .u16 a1, .int .u16 a2, .int .u16 a3, .int .u16 a4, .int .u32 a5]) (.agg #[.int .u16 a1, .int .u16 a2, .int .u16 a3, .int .u16 a4, .int .u32 a5])).run Sabg.prog w = .ok true w := by
  simp [run_equalIn_agg, go_sem]
theorem blockAt_lit (a : Option Addr) (n cap : Nat) (l : List Int) (w : World) (hn : l.length = n) (hr : RowAt w a l cap) (hdg : Dig l) (hs : n ≤ 512) (gm : Nat) (hgm : Blk w gm 4 (marks l n)) (h : Nat) (os : List Int) (k : Nat) (hrun : Run l h os k) :
    Calls Sabg.prog 16 #[.slice a n cap, .slice (some ⟨gm, 0, none⟩) n n, .int .i64 h] w fun e w' => e = .returned (.agg #[.int .u16 h, .int .u16 (lastP h os), .int .u16 (stk os).need, .int .u16 (stk os).rise, .int .u32 (gasOf os)]) ∧ Below w.heap.size w w' :=
  blockAt_any a n cap l w hn hr hdg hs gm hgm h os k hrun
theorem Find_lit (g p q L bcap gb at_ last : Nat) (need rise gas : Int) (vc : Value) (S : List Nat) (w : World) (hB : Blk w g 43 (cutC vc (.slice (some ⟨gb, 0, none⟩) L bcap) S)) (hl : S.length = 512) (hp : p < 512) (h0 : S.getD p 0 = q + 1) (hq : q < L) (hL : L ≤ 512) (hgb : gb < w.heap.size)
    (hcs : ∀ i, i < 5 → w.cell? ⟨gb, q * 5 + i, none⟩ = (blk5 at_ last need rise gas)[i]?) :
    Calls Sabg.prog 15 #[.pointer (some ⟨g, 0, none⟩), .int .u16 p] w fun e w' => e = .returned (.tuple #[.agg #[.int .u16 at_, .int .u16 last, .int .u16 need, .int .u16 rise, .int .u32 gas], .bool true]) ∧ Below w.heap.size w w' :=
  Find_some g p q L bcap gb at_ last need rise gas vc S w hB hl hp h0 hq hL hgb hcs
theorem Find_lit0 (g p : Nat) (vc vb : Value) (S : List Nat) (w : World) (hB : Blk w g 43 (cutC vc vb S)) (hl : S.length = 512) (hp : p < 512) (h0 : S.getD p 0 = 0) :
    Calls Sabg.prog 15 #[.pointer (some ⟨g, 0, none⟩), .int .u16 p] w fun e w' => e = .returned (.tuple #[.agg #[.int .u16 0, .int .u16 0, .int .u16 0, .int .u16 0, .int .u32 0], .bool false]) ∧ Below w.heap.size w w' :=
  Find_none g p vc vb S w hB hl hp h0

set_option maxRecDepth 100000 in
set_option maxHeartbeats 4000000 in
theorem cutHolds_short (a ca : Option Addr) (n cap cc g : Nat) (l : List Int) (w : World) (hn : l.length = n) (hr : RowAt w a l cap) (hrc : RowAt w ca l cc) (hdg : Dig l) (hs : n ≤ 512) (v : Value) (R : List (Nat × List Int)) (S : List Nat) (kk : Nat)
    (hB : Blk w g 43 (cutC (.slice ca n cc) v S)) (hown : w.ownsRow (g + 2) 48 5 v R.length (cellsR R)) (hdone : Done l R S kk) (hkk : n ≤ kk) :
    Calls Sabg.prog 5 #[.slice a n cap, .pointer (some ⟨g, 0, none⟩)] w fun e w' => e = .returned (.bool true) ∧ Below w.heap.size w w' := by
  have hd5 : decide ((512 : Int) < (n : Int)) = false := decide_eq_false (by omega)
  have c0 : w.cell? ⟨g, 0, none⟩ = some (.slice ca n cc) := hB.cell 0
  have HN : Hid (l.length = n) := hn
  have HDONE : Hid (Done l R S kk) := hdone
  have hcnt : cnt l kk = cnt l n := cnt_flat hkk fun r h1 _ => hd_len l r (by omega)
  have HRL : Hid (R.length = cnt l n) := by
    show _ = _
    rw [hdone.1, hcnt]
  clear hcnt
  go_enter Sabg.func5, Sabg.ntmps5
  go_wp2_with fail
  refine (equalBytes_same ca a n cc n cap l _ hn hrc hn hr).mono ?_
  rintro e w ⟨rfl, rfl⟩
  go_wp2_with fail
  refine (heads_any a n cap l _ hn hr hdg hs).mono ?_
  rintro e w1 ⟨rfl, hbm, hbw⟩
  have hB1 := hB.below hbw hB.lt
  have hown1 := own_below hown hbw
  have hr1 := hr.below hbw
  have hgl : g < w1.heap.size := hB1.lt
  have HB1 : Hid (Blk w1 g 43 (cutC (.slice ca n cc) v S)) := hB1
  have HOWN : Hid (w1.ownsRow (g + 2) 48 5 v R.length (cellsR R)) := hown1
  have HR1 : Hid (RowAt w1 a l cap) := hr1
  have HBM : Hid (Blk w1 w.heap.size 4 (marks l n)) := hbm
  have hml : w.heap.size < w1.heap.size := hbm.lt
  clear hB hown hr hrc hB1 hown1 hr1 hbm c0 hdone hn
  go_wp2
  go_loopw [6, 39] (fun nv i wr => ∃ k : Nat, k ≤ n ∧ i = .int .i64 k ∧ nv = .int .i64 (cnt l k) ∧ Below w1.heap.size w1 wr) (fun _ i _ => n - (intOf i).toNat)
  case atStart => exact ⟨0, by omega, rfl, rfl, Below.refl _ _⟩
  case round =>
    obtain ⟨k, hk, rfl, rfl, hbel⟩ := hrel
    have hck := cnt_le l k
    by_cases hkn : k < n
    · have hmk := (HBM.out.below hbel hml).cell k
      rw [marks_at l n k hkn] at hmk
      have hSk := HDONE.out.2.2.1 k
      cases hh : hd l k
      · rw [hh] at hmk
        rw [hh, if_neg (by simp)] at hSk
        have HSK : Hid (S.getD k 0 = 0) := hSk
        clear hSk
        have HH : Hid (hd l k = false) := hh
        clear hh
        go_wp2_with fail
        refine (Find_lit0 g k _ _ S _ (HB1.out.below hbel hgl) HDONE.out.2.1 (by omega) HSK.out).mono ?_
        rintro e w2 ⟨rfl, hw2⟩
        have hb2 := hbel.trans (hw2.mono hbel.size)
        have hs2 := (HB1.out.below hb2 hgl).cell (2 + k)
        rw [cutC_at _ _ _ _ (by rw [HDONE.out.2.1]; omega), HSK.out] at hs2
        have hgl2 : g < w2.heap.size := Nat.lt_of_lt_of_le hgl hb2.size
        go_wp2
        go_roundw
        case rel =>
          exact ⟨k + 1, by omega, by go_num, by rw [cnt_no HH.out], hb2.alloc hb2.size _⟩
        case measure => simp [intOf]; omega
      · rw [hh] at hmk
        rw [hh, if_pos ⟨by omega, rfl⟩] at hSk
        obtain ⟨os, k2, hrun, hRk⟩ := HDONE.out.2.2.2 k (by omega) hh
        have HRUN : Hid (Run l k os k2) := hrun
        have hlen := (List.getElem?_eq_some_iff.1 hRk).1
        have hRn : R.length ≤ n := by rw [HRL.out]; exact cnt_le l n
        obtain ⟨gb, bcap, hv, hgb0, hgb1⟩ := HOWN.out.form (by omega)
        subst hv
        have hcs : ∀ i, i < 5 → w1.cell? ⟨gb, cnt l k * 5 + i, none⟩ = (blkOf k os)[i]? := fun i hi => by
          rw [HOWN.out.cellAt (cnt l k * 5 + i) (by omega)]
          exact cellsR_at hRk i hi
        have HCS : Hid (∀ i, i < 5 → w1.cell? ⟨gb, cnt l k * 5 + i, none⟩ = (blkOf k os)[i]?) := hcs
        have HCN : Hid (cnt l (k + 1) = cnt l k + 1) := cnt_yes hh
        clear hcs hrun hRk hh
        generalize hq : cnt l k = q at *
        clear hq
        generalize hL : R.length = L at *
        clear hL
        have HSK : Hid (S.getD k 0 = q + 1) := hSk
        clear hSk
        have hdl : decide ((L : Int) ≤ (q : Int)) = false := decide_eq_false (by omega)
        have hdl2 : decide (L ≤ q) = false := decide_eq_false (by omega)
        have hdl3 : (q : Int) < (L : Int) := by omega
        go_wp2_with fail
        refine (Find_lit g k q L bcap gb k (lastP k os) (stk os).need (stk os).rise (gasOf os) _ S _ (HB1.out.below hbel hgl) HDONE.out.2.1 (by omega) HSK.out hlen (by omega) (Nat.lt_of_lt_of_le hgb1 hbel.size) (fun i hi => (hbel.cell (p := ⟨gb, q * 5 + i, none⟩) hgb1).trans (HCS.out i hi))).mono ?_
        rintro e w2 ⟨rfl, hw2⟩
        have hb2 := hbel.trans (hw2.mono hbel.size)
        go_wp2
        have hWb : Blk (w2.alloc (.cells (blkOf k os).toArray 48)) w2.heap.size 48 (blkOf k os) := Blk.new w2 _ 48
        have hbW : Below w1.heap.size w1 (w2.alloc (.cells (blkOf k os).toArray 48)) := hb2.alloc hb2.size _
        have hWs : w2.heap.size < (w2.alloc (.cells (blkOf k os).toArray 48)).heap.size := by simp
        change Code.wp _ _ _ _ (w2.alloc (.cells (blkOf k os).toArray 48))
        generalize hW : w2.alloc (.cells (blkOf k os).toArray 48) = W at *
        clear hW
        have hkeep : Hid (∀ w', Below W.heap.size W w' → (w'.cell? ⟨g, 1, none⟩ = some (.slice (some ⟨gb, 0, none⟩) L bcap) ∧ w'.cell? ⟨gb, q * 5, none⟩ = some (.int .u16 k) ∧ w'.cell? ⟨gb, q * 5 + 1, none⟩ = some (.int .u16 (lastP k os)) ∧ w'.cell? ⟨gb, q * 5 + 2, none⟩ = some (.int .u16 (stk os).need) ∧ w'.cell? ⟨gb, q * 5 + 3, none⟩ = some (.int .u16 (stk os).rise) ∧ w'.cell? ⟨gb, q * 5 + 4, none⟩ = some (.int .u32 (gasOf os)) ∧
            w'.cell? ⟨w2.heap.size, 0, none⟩ = some (.int .u16 k) ∧ w'.cell? ⟨w2.heap.size, 1, none⟩ = some (.int .u16 (lastP k os)) ∧ w'.cell? ⟨w2.heap.size, 2, none⟩ = some (.int .u16 (stk os).need) ∧ w'.cell? ⟨w2.heap.size, 3, none⟩ = some (.int .u16 (stk os).rise) ∧ w'.cell? ⟨w2.heap.size, 4, none⟩ = some (.int .u32 (gasOf os)))) := by
          intro w' hb
          have hbb := hbW.trans (hb.mono hbW.size)
          have hB' := HB1.out.below hbb hgl
          have hW' := hWb.below hb hWs
          have hc' := fun i hi => (hbb.cell (p := ⟨gb, q * 5 + i, none⟩) hgb1).trans (HCS.out i hi)
          exact ⟨hB'.cell 1, hc' 0 (by omega), hc' 1 (by omega), hc' 2 (by omega), hc' 3 (by omega), hc' 4 (by omega), hW'.cell 0, hW'.cell 1, hW'.cell 2, hW'.cell 3, hW'.cell 4⟩
        have hbd0 : Below W.heap.size W W.drew := (Below.refl _ _).drew
        have heq := eq48 (k : Int) (lastP k os : Int) (stk os).need (stk os).rise (gasOf os)
        go_region_held3 (fun w' => w'.cell? ⟨g, 1, none⟩ = some (.slice (some ⟨gb, 0, none⟩) L bcap) ∧ w'.cell? ⟨gb, q * 5, none⟩ = some (.int .u16 k) ∧ w'.cell? ⟨gb, q * 5 + 1, none⟩ = some (.int .u16 (lastP k os)) ∧ w'.cell? ⟨gb, q * 5 + 2, none⟩ = some (.int .u16 (stk os).need) ∧ w'.cell? ⟨gb, q * 5 + 3, none⟩ = some (.int .u16 (stk os).rise) ∧ w'.cell? ⟨gb, q * 5 + 4, none⟩ = some (.int .u32 (gasOf os)) ∧
            w'.cell? ⟨w2.heap.size, 0, none⟩ = some (.int .u16 k) ∧ w'.cell? ⟨w2.heap.size, 1, none⟩ = some (.int .u16 (lastP k os)) ∧ w'.cell? ⟨w2.heap.size, 2, none⟩ = some (.int .u16 (stk os).need) ∧ w'.cell? ⟨w2.heap.size, 3, none⟩ = some (.int .u16 (stk os).rise) ∧ w'.cell? ⟨w2.heap.size, 4, none⟩ = some (.int .u32 (gasOf os))) (exact hkeep.out _ (by assumption))
          (first
            | (go_at_call 16; refine (blockAt_lit a n cap l _ HN.out (HR1.out.below (hbW.drew)) hdg hs w.heap.size (HBM.out.below hbW.drew hml) k os k2 HRUN.out).mono ?_; rintro e w3 ⟨rfl, hw3⟩; have hb3 : Below W.heap.size W w3 := hbd0.trans hw3))
        go_wp2
        go_roundw
        case rel => exact ⟨k + 1, by omega, by go_num, by rw [HCN.out]; go_num, hbW.trans (hb3.mono hbW.size)⟩
        case measure => simp [intOf]; omega
    · obtain rfl : k = n := by omega
      have hc1 : wr.cell? ⟨g, 1, none⟩ = some v := (HB1.out.below hbel hgl).cell 1
      obtain ⟨va, vcap, hv⟩ : ∃ va vcap, v = .slice va R.length vcap := by
        rcases HOWN.out.2 with ⟨h1, h2⟩ | ⟨gb, cap', cur, h1, _⟩
        · exact ⟨none, 0, by rw [h1, h2]⟩
        · exact ⟨_, _, h1⟩
      subst hv
      rw [HRL.out] at hc1
      go_wp2
      go_ret
      exact ⟨rfl, hbw.trans (hbel.mono hbw.size)⟩
end Go.Proofs.Ygcsab.Cut
