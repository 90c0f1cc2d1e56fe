/-
  WALK: mach.Info (18).
-/
import Derived.Test.YgcsabProg
import Derived.Test.YgcsabCutTables
import Derived.WalkKit
import Derived.Outline
namespace Go.Proofs.Ygcsab.Cut
open Go.RowKit
set_option linter.unusedVariables false
set_option linter.unusedSimpArgs false

def infoV (o : Int) : Value := .tuple #[.int .u8 (tk o), .int .u8 (gv o), .int .u16 (sg o), .bool (known o)]
def infoIs (o a b c : Int) (d : Bool) : Bool := decide (tk o = a) && decide (gv o = b) && decide (sg o = c) && (known o == d)
theorem infoIs_ret {o a b c : Int} {d : Bool} (h : infoIs o a b c d = true) : Ending.returned (.tuple #[.int .u8 a, .int .u8 b, .int .u16 c, .bool d]) = .returned (infoV o) := by
  simp only [infoIs, Bool.and_eq_true, decide_eq_true_eq, beq_iff_eq] at h
  obtain ⟨⟨⟨rfl, rfl⟩, rfl⟩, rfl⟩ := h
  rfl
theorem infoIs_at {o c : Int} {x y z : Int} {d : Bool} (h : (o == c) = true) (hc : infoIs c x y z d = true) : Ending.returned (.tuple #[.int .u8 x, .int .u8 y, .int .u16 z, .bool d]) = .returned (infoV o) := by
  obtain rfl := eq_of_beq h
  exact infoIs_ret hc
theorem results_tmp4 {fn : Func} {s t u v : Tmp} (h : fn.results = #[.tmp s, .tmp t, .tmp u, .tmp v]) (tmps : Array Value) (P : Program) (w : World) :
    (results fn tmps).run P w = .ok (.tuple #[tmps.getD s undef, tmps.getD t undef, tmps.getD u undef, tmps.getD v undef]) w := by
  simp [results, h]

theorem none_low (o : Int) (h0 : 0 ≤ o) (h1 : o ≤ 95) : (o == 0 || o == 91 || o == 48 || o == 50 || o == 51 || o == 52 || o == 54 || o == 56 || o == 58 || o == 61 || o == 65 || o == 66 || o == 67 || o == 68 || o == 69 || o == 70 || o == 72 || o == 88 || o == 89 || o == 90 || o == 95 || o == 71 || o == 1 || o == 3 || o == 16 || o == 17 || o == 18 || o == 19 || o == 20 || o == 22 || o == 23 || o == 24 || o == 26 || o == 27 || o == 28 || o == 29 || o == 2 || o == 4 || o == 5 || o == 6 || o == 7 || o == 11 || o == 10 || o == 32 || o == 8 || o == 9 || o == 21 || o == 25 || o == 53 || o == 81 || o == 49 || o == 59 || o == 63 || o == 84 || o == 92 || o == 93 || o == 64 || o == 80 || o == 86 || o == 87 || o == 82 || o == 83 || o == 85 || o == 55 || o == 57 || o == 62 || o == 94 || o == 60 || infoIs o 0 0 0 false) = true := by
  have := bytes_all (fun o => decide (95 < o) || (o == 0 || o == 91 || o == 48 || o == 50 || o == 51 || o == 52 || o == 54 || o == 56 || o == 58 || o == 61 || o == 65 || o == 66 || o == 67 || o == 68 || o == 69 || o == 70 || o == 72 || o == 88 || o == 89 || o == 90 || o == 95 || o == 71 || o == 1 || o == 3 || o == 16 || o == 17 || o == 18 || o == 19 || o == 20 || o == 22 || o == 23 || o == 24 || o == 26 || o == 27 || o == 28 || o == 29 || o == 2 || o == 4 || o == 5 || o == 6 || o == 7 || o == 11 || o == 10 || o == 32 || o == 8 || o == 9 || o == 21 || o == 25 || o == 53 || o == 81 || o == 49 || o == 59 || o == 63 || o == 84 || o == 92 || o == 93 || o == 64 || o == 80 || o == 86 || o == 87 || o == 82 || o == 83 || o == 85 || o == 55 || o == 57 || o == 62 || o == 94 || o == 60 || infoIs o 0 0 0 false)) (by decide +kernel) o h0 (by omega)
  rwa [decide_eq_false (by omega), Bool.false_or] at this

set_option maxHeartbeats 2000000 in
set_option maxRecDepth 100000 in
theorem Info_low (o : Int) (w : World) (h0 : 0 ≤ o) (h1 : o ≤ 95) :
    Calls Sabg.prog 18 #[.int .u8 o] w fun e w' => e = .returned (infoV o) ∧ w' = w := by
  have d1 : decide ((96 : Int) ≤ o) = false := decide_eq_false (by omega)
  have d2 : decide ((128 : Int) ≤ o) = false := decide_eq_false (by omega)
  have d3 : decide ((144 : Int) ≤ o) = false := decide_eq_false (by omega)
  have d4 : decide ((160 : Int) ≤ o) = false := decide_eq_false (by omega)
  go_enter Sabg.func18, Sabg.ntmps18
  go_wp2
  all_goals refine bodyPost_ret (results_tmp4 rfl _ _ _) rfl ⟨?_, rfl⟩
  all_goals first
    | exact infoIs_at ‹(o == _) = true› (by decide +kernel)
    | (have hn := none_low o h0 h1
       simp only [*, Bool.false_or] at hn
       exact infoIs_ret hn)
end Go.Proofs.Ygcsab.Cut
