/-
  WALKS: block.leaves (19), law.endsBlock (25), law.staticGas (27).
-/
import Derived.Test.YgcsabCutLists
import Derived.Outline
namespace Go.Proofs.Ygcsab.Cut
open Go.RowKit Go.Great
set_option linter.unusedVariables false
set_option linter.unusedSimpArgs false

theorem ret_b {a b : Bool} (h : a = b) : Ending.returned (.bool a) = .returned (.bool b) := by rw [h]
theorem ret_i {k : IntKind} {a b : Int} (h : a = b) : Ending.returned (.int k a) = .returned (.int k b) := by rw [h]
/-- A block ends behind a byte that is no instruction. -/
theorem ends_at {o c : Int} (h : (o == c) = true) (hc : ends c = true) : true = ends o := by
  obtain rfl := eq_of_beq h
  exact hc.symm
theorem ends_default (o : Int) (h0 : 0 ≤ o) (h1 : o ≤ 255) : (o == 0 || o == 86 || o == 87 || o == 240 || o == 241 || o == 242 || o == 243 || o == 244 || o == 245 || o == 250 || o == 253 || o == 255 || (ends o == !known o)) = true :=
  bytes_all (fun o => (o == 0 || o == 86 || o == 87 || o == 240 || o == 241 || o == 242 || o == 243 || o == 244 || o == 245 || o == 250 || o == 253 || o == 255 || (ends o == !known o))) (by decide +kernel) o h0 h1

set_option maxRecDepth 100000 in
theorem leaves_any (o : Int) (w : World) (h0 : 0 ≤ o) (h1 : o ≤ 255) :
    Calls Sabg.prog 19 #[.int .u8 o, .bool (known o)] w fun e w' => e = .returned (.bool (ends o)) ∧ w' = w := by
  have hn := ends_default o h0 h1
  have HN : Hid _ := hn
  clear hn
  generalize hk : known o = kn
  have HK : Hid (known o = kn) := hk
  clear hk
  go_enter Sabg.func19, Sabg.ntmps19
  go_wp2
  all_goals go_ret
  all_goals refine ⟨ret_b ?_, rfl⟩
  all_goals first
    | exact ends_at ‹(o == _) = true› (by decide +kernel)
    | (have hn := HN.out
       simp only [*, Bool.false_or] at hn
       rw [eq_of_beq hn, HK.out])

theorem agg5 (w : World) : (isAgg 5).run Sabg.prog w = .ok false w := by kernel_rfl
theorem agg28 (w : World) : (isAgg 28).run Sabg.prog w = .ok false w := by kernel_rfl
theorem size5' (w : World) : (sizeOf 5).run Sabg.prog w = .ok 1 w := by kernel_rfl
theorem size28' (w : World) : (sizeOf 28).run Sabg.prog w = .ok 1 w := by kernel_rfl
theorem at8 (l : List Int) (hl : l.length = 256) (o : Int) (w : World) (h0 : 0 ≤ o) (h1 : o ≤ 255) : (Instr.index 66 (.agg (b8 l).toArray) (.int .u8 o)).run Sabg.prog w = .ok (.int .u8 (l.getD o.toNat 0)) w := by
  have hc : (b8 l)[o.toNat]? = some (.int .u8 (l.getD o.toNat 0)) := by
    have : o.toNat < l.length := by omega
    simp [b8, this]
  have h2 : o < 256 := by omega
  simp [Instr.index, asIntOf, run_underlying Sabg.underlying66, h0, h2, size5', part, agg5, hc]
theorem at16 (l : List Int) (hl : l.length = 256) (o : Int) (w : World) (h0 : 0 ≤ o) (h1 : o ≤ 255) : (Instr.index 69 (.agg (b16 l).toArray) (.int .u8 o)).run Sabg.prog w = .ok (.int .u16 (l.getD o.toNat 0)) w := by
  have hc : (b16 l)[o.toNat]? = some (.int .u16 (l.getD o.toNat 0)) := by
    have : o.toNat < l.length := by omega
    simp [b16, this]
  have h2 : o < 256 := by omega
  simp [Instr.index, asIntOf, run_underlying Sabg.underlying69, h0, h2, size28', part, agg28, hc]

theorem ends_status (o : Int) (h0 : 0 ≤ o) (h1 : o ≤ 255) : (o == 0 || o == 86 || o == 87 || o == 240 || o == 241 || o == 242 || o == 243 || o == 244 || o == 245 || o == 250 || o == 253 || o == 255 || (ends o == (statusL.getD o.toNat 0 == 5))) = true :=
  bytes_all (fun o => (o == 0 || o == 86 || o == 87 || o == 240 || o == 241 || o == 242 || o == 243 || o == 244 || o == 245 || o == 250 || o == 253 || o == 255 || (ends o == (statusL.getD o.toNat 0 == 5)))) (by decide +kernel) o h0 h1

set_option maxRecDepth 100000 in
theorem endsBlock_any (o : Int) (w : World) (h0 : 0 ≤ o) (h1 : o ≤ 255) :
    Calls Sabg.prog 25 #[.int .u8 o] w fun e w' => e = .returned (.bool (ends o)) ∧ Below w.heap.size w w' := by
  have HN : Hid _ := ends_status o h0 h1
  have hat := fun w => at8 statusL rfl o w h0 h1
  generalize hs : statusL.getD o.toNat 0 = st at hat
  have HS : Hid (statusL.getD o.toNat 0 = st) := hs
  clear hs
  go_enter Sabg.func25, Sabg.ntmps25
  go_wp2_with (go_at_call 33; refine (statusList_c _).mono ?_; rintro e w' ⟨rfl, hb⟩)
  all_goals go_ret
  all_goals first
    | exact ⟨ret_b (ends_at ‹(o == _) = true› (by decide +kernel)), Below.refl _ _⟩
    | (have hn := HN.out
       simp only [*, Bool.false_or] at hn
       refine ⟨ret_b ?_, ‹_›⟩
       rw [eq_of_beq hn, HS.out])

theorem gas_at {o c : Int} {g : Int} (h : (o == c) = true) (hc : sg c = g) : g = sg o := by
  obtain rfl := eq_of_beq h
  exact hc.symm
theorem gas_list (o : Int) (h0 : 0 ≤ o) (h1 : o ≤ 255) : (o == 49 || o == 59 || o == 60 || o == 63 || o == 84 || o == 85 || o == 241 || o == 242 || o == 244 || o == 250 || o == 255 || o == 81 || o == 82 || o == 83 || (sg o == gasL.getD o.toNat 0)) = true :=
  bytes_all (fun o => (o == 49 || o == 59 || o == 60 || o == 63 || o == 84 || o == 85 || o == 241 || o == 242 || o == 244 || o == 250 || o == 255 || o == 81 || o == 82 || o == 83 || (sg o == gasL.getD o.toNat 0))) (by decide +kernel) o h0 h1
set_option maxRecDepth 100000 in
theorem staticGas_any (o : Int) (w : World) (h0 : 0 ≤ o) (h1 : o ≤ 255) :
    Calls Sabg.prog 27 #[.int .u8 o] w fun e w' => e = .returned (.int .u16 (sg o)) ∧ Below w.heap.size w w' := by
  have HN : Hid _ := gas_list o h0 h1
  have hat := fun w => at16 gasL rfl o w h0 h1
  generalize hs : gasL.getD o.toNat 0 = st at hat
  have HS : Hid (gasL.getD o.toNat 0 = st) := hs
  clear hs
  go_enter Sabg.func27, Sabg.ntmps27
  go_wp2_with (go_at_call 34; refine (gasList_c _).mono ?_; rintro e w' ⟨rfl, hb⟩)
  all_goals go_ret
  all_goals first
    | exact ⟨ret_i (gas_at ‹(o == _) = true› (by decide +kernel)), Below.refl _ _⟩
    | (have hn := HN.out
       simp only [*, Bool.false_or] at hn
       refine ⟨ret_i ?_, ‹_›⟩
       rw [eq_of_beq hn, HS.out])

theorem at_takes (x : Int) (w : World) (h0 : 0 ≤ x) (h1 : x ≤ 255) : (Instr.index 66 (.agg (b8 takesL).toArray) (.int .u8 x)).run Sabg.prog w = .ok (.int .u8 (tk x)) w := at8 takesL (by decide +kernel) x w h0 h1
theorem at_gives (x : Int) (w : World) (h0 : 0 ≤ x) (h1 : x ≤ 255) : (Instr.index 66 (.agg (b8 givesL).toArray) (.int .u8 x)).run Sabg.prog w = .ok (.int .u8 (gv x)) w := at8 givesL (by decide +kernel) x w h0 h1
theorem at_imm (x : Int) (w : World) (h0 : 0 ≤ x) (h1 : x ≤ 255) : (Instr.index 66 (.agg (b8 immL).toArray) (.int .u8 x)).run Sabg.prog w = .ok (.int .u8 (Dest.imm x : Int)) w := by
  rw [← immL_imm x h0 h1]; exact at8 immL (by decide +kernel) x w h0 h1
end Go.Proofs.Ygcsab.Cut
