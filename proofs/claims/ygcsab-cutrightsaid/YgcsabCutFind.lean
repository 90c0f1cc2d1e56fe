/-
  WALKS: (*block.Cut).Find (15).
-/
import Derived.Test.YgcsabCutRun
import Derived.Test.YgcsabCutBlk
import Derived.RegionTactic
import Derived.BigRegion
import Derived.Deep.QuietTactic
import Derived.BigQuiet
import Derived.Outline
namespace Go.Proofs.Ygcsab.Cut
open Go.RowKit Go.Proofs.Ygcsab.Dest
set_option linter.unusedVariables false
set_option linter.unusedSimpArgs false

/-- The cells of a Cut. -/
def cutC (vc vb : Value) (S : List Nat) : List Value := vc :: vb :: S.map (fun (x : Nat) => Value.int .u16 (x : Int))
theorem cutC_0 (vc vb : Value) (S : List Nat) : (cutC vc vb S)[0]? = some vc := rfl
theorem cutC_1 (vc vb : Value) (S : List Nat) : (cutC vc vb S)[1]? = some vb := rfl
theorem cutC_at (vc vb : Value) (S : List Nat) (p : Nat) (h : p < S.length) : (cutC vc vb S)[2 + p]? = some (.int .u16 ((S.getD p 0 : Nat) : Int)) := by
  rw [Nat.add_comm]
  simp [cutC, h]
theorem cutC_len (vc vb : Value) (S : List Nat) : (cutC vc vb S).length = 2 + S.length := by simp [cutC]; omega

theorem size48' : (Sabg.prog.info? 48).map (·.size) = some 5 := by kernel_rfl
theorem results_cell_tmp {P : Program} {fn : Func} {p t : Tmp} {ty : TypeId} (h : fn.results = #[.cell p ty, .tmp t]) (tmps : Array Value) (w : World) (g : Nat) (tt : TypeId) (cs : Array Value) (fr : Nat × Nat) (d : TypeDesc)
    (hp : tmps.getD p undef = .pointer (some ⟨g, 0, none⟩)) (hg : w.heap[g]? = some (.cells cs tt fr))
    (hu : P.underlying ty = some d) (hd : (match d with | .struct _ | .array _ _ => true | _ => false) = true) (hi : (P.info? ty).map (·.size) = some cs.size) :
    (results fn tmps).run P w = .ok (.tuple #[.agg cs, tmps.getD t undef]) w := by
  have hp' : tmps[p]?.getD undef = .pointer (some ⟨g, 0, none⟩) := by simpa using hp
  simp [results, h, hp', asAddr, run_loadVar_row w g tt ty cs fr d hg hu hd hi]
theorem res15 (tmps : Array Value) (w : World) (g : Nat) (cs : List Value) (hp : tmps.getD 4 undef = .pointer (some ⟨g, 0, none⟩)) (hg : Blk w g 48 cs) (hl : cs.length = 5) :
    (results Sabg.f15 tmps).run Sabg.prog w = .ok (.tuple #[.agg cs.toArray, tmps.getD 5 undef]) w :=
  results_cell_tmp (P := Sabg.prog) (fn := Sabg.f15) (p := 4) (t := 5) (ty := 48) rfl tmps w g 48 cs.toArray (0, 0) _ hp hg Sabg.underlying48 rfl (by simp [hl, size48'])

theorem Find_none (g p : Nat) (vc vb : Value) (S : List Nat) (w : World) (hB : Blk w g 43 (cutC vc vb S)) (hl : S.length = 512) (hp : p < 512) (h0 : S.getD p 0 = 0) :
    Calls Sabg.prog 15 #[.pointer (some ⟨g, 0, none⟩), .int .u16 p] w fun e w' => e = .returned (.tuple #[.agg (blk5 0 0 0 0 0).toArray, .bool false]) ∧ Below w.heap.size w w' := by
  have hc := hB.cell (2 + p)
  rw [cutC_at vc vb S p (by omega), h0] at hc
  have hw : IntKind.i64.wrap (p : Int) = (p : Int) := by rw [IntKind.wrap_i64]; omega
  have hd : decide ((512 : Int) ≤ (p : Int)) = false := decide_eq_false (by omega)
  have hgl := hB.lt
  have hp5 : (p : Int) < 512 := by omega
  go_enter Sabg.func15, Sabg.ntmps15
  go_wp2
  go_quiet (fail)
  have hb0 : Blk ((w.alloc (.cells (blk5 0 0 0 0 0).toArray 48)).drewN nq) w.heap.size 48 (blk5 0 0 0 0 0) := Blk.new w _ 48
  have hbl : Below w.heap.size w ((w.alloc (.cells (blk5 0 0 0 0 0).toArray 48)).drewN nq) := bdrewN ((Below.refl _ _).alloc (Nat.le_refl _) _) _
  generalize hW : (w.alloc (.cells (blk5 0 0 0 0 0).toArray 48)).drewN nq = W at hb0 hbl
  change Exit.then _ _ _ _ ((w.alloc (.cells (blk5 0 0 0 0 0).toArray 48)).drewN nq)
  rw [hW]
  clear hW hc
  go_wp2_with (refine wpList_store_blk rfl 48 _ _ rfl w.heap.size (blk5 0 0 0 0 0) rfl rfl 48 (blk5 0 0 0 0 0) hb0 size48' rfl (blk5_one _ _ _ _ _) ?_)
  intro w1 hb1 ho1
  go_wp2
  exact bodyPost_ret (v := .tuple #[.agg (blk5 0 0 0 0 0).toArray, .bool false]) (res15 _ w1 w.heap.size (blk5 0 0 0 0 0) rfl hb1 rfl) rfl ⟨rfl, hbl.trans (ho1.below (Nat.le_refl _))⟩

theorem Find_some (g p q L bcap gb at_ last : Nat) (need rise gas : Int) (vc : Value) (S : List Nat) (w : World) (hB : Blk w g 43 (cutC vc (.slice (some ⟨gb, 0, none⟩) L bcap) S)) (hl : S.length = 512) (hp : p < 512) (h0 : S.getD p 0 = q + 1) (hq : q < L) (hL : L ≤ 512) (hgb : gb < w.heap.size)
    (hcs : ∀ i, i < 5 → w.cell? ⟨gb, q * 5 + i, none⟩ = (blk5 at_ last need rise gas)[i]?) :
    Calls Sabg.prog 15 #[.pointer (some ⟨g, 0, none⟩), .int .u16 p] w fun e w' => e = .returned (.tuple #[.agg (blk5 at_ last need rise gas).toArray, .bool true]) ∧ Below w.heap.size w w' := by
  have c0 : w.cell? ⟨gb, q * 5, none⟩ = some (.int .u16 at_) := hcs 0 (by omega)
  have c1 : w.cell? ⟨gb, q * 5 + 1, none⟩ = some (.int .u16 last) := hcs 1 (by omega)
  have c2 : w.cell? ⟨gb, q * 5 + 2, none⟩ = some (.int .u16 need) := hcs 2 (by omega)
  have c3 : w.cell? ⟨gb, q * 5 + 3, none⟩ = some (.int .u16 rise) := hcs 3 (by omega)
  have c4 : w.cell? ⟨gb, q * 5 + 4, none⟩ = some (.int .u32 gas) := hcs 4 (by omega)
  clear hcs
  have hc := hB.cell (2 + p)
  rw [cutC_at vc _ S p (by omega), h0] at hc
  have hc1 := hB.cell 1
  rw [cutC_1] at hc1
  have hw : IntKind.i64.wrap (p : Int) = (p : Int) := by rw [IntKind.wrap_i64]; omega
  have hw2 : IntKind.i64.wrap ((q : Int) + 1) = (q : Int) + 1 := by rw [IntKind.wrap_i64]; omega
  have hd : decide ((512 : Int) ≤ (p : Int)) = false := decide_eq_false (by omega)
  have hd2 : decide ((L : Int) < (q : Int) + 1) = false := decide_eq_false (by omega)
  have he : (((q : Int) + 1) == 0) = false := by simp; omega
  have hq1 : (((q + 1 : Nat)) : Int) = (q : Int) + 1 := by omega
  rw [hq1] at hc
  clear hq1
  have hgl := hB.lt
  have hp5 : (p : Int) < 512 := by omega
  go_enter Sabg.func15, Sabg.ntmps15
  go_wp2
  go_quiet (fail)
  have hb0 : Blk ((w.alloc (.cells (blk5 0 0 0 0 0).toArray 48)).drewN nq) w.heap.size 48 (blk5 0 0 0 0 0) := Blk.new w _ 48
  have hbl : Below w.heap.size w ((w.alloc (.cells (blk5 0 0 0 0 0).toArray 48)).drewN nq) := bdrewN ((Below.refl _ _).alloc (Nat.le_refl _) _) _
  generalize hW : (w.alloc (.cells (blk5 0 0 0 0 0).toArray 48)).drewN nq = W at hb0 hbl
  change Exit.then _ _ _ _ ((w.alloc (.cells (blk5 0 0 0 0 0).toArray 48)).drewN nq)
  rw [hW]
  clear hW
  have d0 := (hbl.cell (p := ⟨gb, q * 5, none⟩) hgb).trans c0
  have d1 := (hbl.cell (p := ⟨gb, q * 5 + 1, none⟩) hgb).trans c1
  have d2 := (hbl.cell (p := ⟨gb, q * 5 + 2, none⟩) hgb).trans c2
  have d3 := (hbl.cell (p := ⟨gb, q * 5 + 3, none⟩) hgb).trans c3
  have d4 := (hbl.cell (p := ⟨gb, q * 5 + 4, none⟩) hgb).trans c4
  have dc := (hbl.cell (p := ⟨g, 2 + p, none⟩) hgl).trans hc
  have dc1 := (hbl.cell (p := ⟨g, 1, none⟩) hgl).trans hc1
  have e0 : W.cell? ⟨w.heap.size, 0, none⟩ = some (.int .u16 0) := hb0.cell 0
  have e1 : W.cell? ⟨w.heap.size, 1, none⟩ = some (.int .u16 0) := hb0.cell 1
  have e2 : W.cell? ⟨w.heap.size, 2, none⟩ = some (.int .u16 0) := hb0.cell 2
  have e3 : W.cell? ⟨w.heap.size, 3, none⟩ = some (.int .u16 0) := hb0.cell 3
  have e4 : W.cell? ⟨w.heap.size, 4, none⟩ = some (.int .u32 0) := hb0.cell 4
  have f0 := hb0.free 0
  have f1 := hb0.free 1
  have f2 := hb0.free 2
  have f3 := hb0.free 3
  have f4 := hb0.free 4
  clear c0 c1 c2 c3 c4 hc hc1
  go_wp2
  go_region
  go_wp2
  have hb5 := (((((hb0.set 0 (.int .u16 at_)).set 1 (.int .u16 last)).set 2 (.int .u16 need)).set 3 (.int .u16 rise)).set 4 (.int .u32 gas)).drew
  have hbl5 := (((((hbl.setCell (p := ⟨w.heap.size, 0, none⟩) (Nat.le_refl _) (.int .u16 at_)).setCell (p := ⟨w.heap.size, 1, none⟩) (Nat.le_refl _) (.int .u16 last)).setCell (p := ⟨w.heap.size, 2, none⟩) (Nat.le_refl _) (.int .u16 need)).setCell (p := ⟨w.heap.size, 3, none⟩) (Nat.le_refl _) (.int .u16 rise)).setCell (p := ⟨w.heap.size, 4, none⟩) (Nat.le_refl _) (.int .u32 gas)).drew
  change Blk _ _ 48 (blk5 at_ last need rise gas) at hb5
  exact bodyPost_ret (v := .tuple #[.agg (blk5 at_ last need rise gas).toArray, .bool true]) (res15 _ _ w.heap.size (blk5 at_ last need rise gas) rfl hb5 rfl) rfl ⟨rfl, hbl5⟩
end Go.Proofs.Ygcsab.Cut
