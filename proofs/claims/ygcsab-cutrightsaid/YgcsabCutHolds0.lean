/-
  WALK: law.cutHolds (5), a code above MaxInit.
-/
import Derived.Test.YgcsabCutNew0
import Derived.Test.YgcsabCutBytes
import Derived.Deep.MidRow
import Derived.Laws.StructEq
namespace Go.Proofs.Ygcsab.Cut
open Go.RowKit Go.Great Go.Proofs.Ygcsab.Dest
set_option linter.unusedVariables false
set_option linter.unusedSimpArgs false

/-- A guarded operation whose guard says yes: it yields v. -/
theorem wpList_runYes {P : Program} {ops : Array Oper} {rest : List Oper} {o : Oper} {a : Act} {w : World} {Q : Exit → Act → World → Prop} (hw : Region.wanted o (yielded ops a.tmps) = true) (dst : Option Tmp) (hdst : o.dst = dst)
    (v : Value) (hrun : (execOp a.eval o).run P w = .ok (.value v) w)
    (h : wpList P ops Q rest (a.put dst v) w) : wpList P ops Q (o :: rest) a w := by
  subst hdst
  refine wpList_step fun K hK => ?_
  rw [if_pos hw]
  unfold Oper.wp
  rw [hrun, Oper.upon_value]
  exact hK _ _ h
def z512 : List Value := (zeros 512).map (fun (x : Nat) => Value.int .u16 (x : Int))
theorem z512_len : z512.length = 512 := by unfold z512; rw [List.length_map, zeros_len]
theorem size41 : (Sabg.prog.info? 41).map (·.size) = some 512 := by kernel_rfl
set_option maxRecDepth 100000 in
theorem eq512 (w : World) : (Op.equalIn 10000 41 (.agg z512.toArray) (.agg z512.toArray)).run Sabg.prog w = .ok true w := by kernel_rfl
theorem exec_load_mid {P : Program} {ρ : Operand → Value} {op : Oper} {w : World} (ty : TypeId) (x : Operand) (ho : op.op = .load ty x) (b o : Nat) (hx : ρ x = .pointer (some ⟨b, o, none⟩)) (cs : List Value) (d : TypeDesc) (hc : w.rangeAt b o cs)
    (hu : P.underlying ty = some d) (hd : d.isRow = true) (hi : (P.info? ty).map (·.size) = some cs.length) : (execOp ρ op).run P w = .ok (.value (.agg cs.toArray)) w := by
  unfold execOp
  simp only [ho, hx, Instr.loadAt, Instr.sureAddr, Sem.run_bind, Sem.run_pure, Result.andThen_ok, run_loadVar_mid w b o ty cs d hc hu hd hi]
theorem range_starts {w : World} {g : Nat} {vc vb : Value} (hB : Blk w g 43 (cutC vc vb (zeros 512))) : w.rangeAt g 2 z512 := by
  intro j v hj
  rw [hB.cell (2 + j)]
  show (vc :: vb :: z512)[2 + j]? = some v
  rw [Nat.add_comm]
  simpa using hj

set_option maxRecDepth 100000 in
set_option maxHeartbeats 1000000 in
theorem cutHolds_long (a ca : Option Addr) (n cap cc g : Nat) (l : List Int) (w : World) (hn : l.length = n) (hr : RowAt w a l cap) (hrc : RowAt w ca l cc) (hs : 512 < n) (hB : Blk w g 43 (cutC (.slice ca n cc) (.slice none 0 0) (zeros 512))) :
    Calls Sabg.prog 5 #[.slice a n cap, .pointer (some ⟨g, 0, none⟩)] w fun e w' => e = .returned (.bool true) ∧ w' = w := by
  have hm : n ≤ maxLen := by have := hr.1; have := hr.2.1; omega
  unfold maxLen at hm
  have hd5 : decide ((512 : Int) < (n : Int)) = true := decide_eq_true (by omega)
  have c0 : w.cell? ⟨g, 0, none⟩ = some (.slice ca n cc) := hB.cell 0
  have c1 : w.cell? ⟨g, 1, none⟩ = some (.slice none 0 0) := hB.cell 1
  have hrng := range_starts hB
  have HRNG : Hid (w.rangeAt g 2 z512) := hrng
  clear hrng
  go_enter Sabg.func5, Sabg.ntmps5
  go_wp2_with fail
  refine (equalBytes_same ca a n cc n cap l _ hn hrc hn hr).mono ?_
  rintro e w ⟨rfl, rfl⟩
  have heq := eq512
  go_wp2_with (first
    | (refine wpList_runYes rfl (some 31) rfl (.agg z512.toArray) (exec_load_mid 41 (.tmp 30) rfl g 2 rfl z512 _ HRNG.out Sabg.underlying41 rfl (by rw [z512_len]; exact size41)) ?_)
    | (refine wpList_runYes rfl (some 32) rfl (.agg z512.toArray) (by kernel_rfl) ?_))
  go_ret
  exact ⟨rfl, rfl⟩
end Go.Proofs.Ygcsab.Cut
