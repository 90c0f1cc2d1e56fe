/-
  WALK: mach.Info (18): the rest.
-/
import Derived.Test.YgcsabCutInfo
namespace Go.Proofs.Ygcsab.Cut
open Go.RowKit
set_option linter.unusedVariables false
set_option linter.unusedSimpArgs false

theorem none_high (o : Int) (h0 : 165 ≤ o) (h1 : o ≤ 255) : (o == 255 || o == 243 || o == 253 || o == 240 || o == 245 || o == 241 || o == 242 || o == 244 || o == 250 || infoIs o 0 0 0 false) = true := by
  have := bytes_all (fun o => decide (o < 165) || (o == 255 || o == 243 || o == 253 || o == 240 || o == 245 || o == 241 || o == 242 || o == 244 || o == 250 || infoIs o 0 0 0 false)) (by decide +kernel) o (by omega) h1
  rwa [decide_eq_false (by omega), Bool.false_or] at this

set_option maxHeartbeats 2000000 in
set_option maxRecDepth 100000 in
theorem Info_high (o : Int) (w : World) (h0 : 165 ≤ o) (h1 : o ≤ 255) :
    Calls Sabg.prog 18 #[.int .u8 o] w fun e w' => e = .returned (infoV o) ∧ w' = w := by
  go_enter Sabg.func18, Sabg.ntmps18
  go_wp2
  all_goals refine bodyPost_ret (results_tmp4 rfl _ _ _) rfl ⟨?_, rfl⟩
  all_goals first
    | exact infoIs_at ‹(o == _) = true› (by decide +kernel)
    | (have hn := none_high o h0 h1
       simp only [*, Bool.false_or] at hn
       exact infoIs_ret hn)

theorem push_is (o : Int) (h0 : 96 ≤ o) (h1 : o ≤ 127) : infoIs o 0 1 3 true = true := by
  have := bytes_all (fun o => decide (o < 96) || decide (127 < o) || infoIs o 0 1 3 true) (by decide +kernel) o (by omega) (by omega)
  rwa [decide_eq_false (by omega), decide_eq_false (by omega), Bool.false_or, Bool.false_or] at this
theorem dup_is (o : Int) (h0 : 128 ≤ o) (h1 : o ≤ 143) : infoIs o (o - 128 + 1) (o - 128 + 2) 3 true = true := by
  have := bytes_all (fun o => decide (o < 128) || decide (143 < o) || infoIs o (o - 128 + 1) (o - 128 + 2) 3 true) (by decide +kernel) o (by omega) (by omega)
  rwa [decide_eq_false (by omega), decide_eq_false (by omega), Bool.false_or, Bool.false_or] at this
theorem swap_is (o : Int) (h0 : 144 ≤ o) (h1 : o ≤ 159) : infoIs o (o - 144 + 2) (o - 144 + 2) 3 true = true := by
  have := bytes_all (fun o => decide (o < 144) || decide (159 < o) || infoIs o (o - 144 + 2) (o - 144 + 2) 3 true) (by decide +kernel) o (by omega) (by omega)
  rwa [decide_eq_false (by omega), decide_eq_false (by omega), Bool.false_or, Bool.false_or] at this
theorem log_is (o : Int) (h0 : 160 ≤ o) (h1 : o ≤ 164) : infoIs o (o - 160 + 2) 0 (375 * (o - 160 + 1)) true = true := by
  have := bytes_all (fun o => decide (o < 160) || decide (164 < o) || infoIs o (o - 160 + 2) 0 (375 * (o - 160 + 1)) true) (by decide +kernel) o (by omega) (by omega)
  rwa [decide_eq_false (by omega), decide_eq_false (by omega), Bool.false_or, Bool.false_or] at this
set_option maxRecDepth 100000 in
theorem Info_push (o : Int) (w : World) (h0 : 96 ≤ o) (h1 : o ≤ 127) :
    Calls Sabg.prog 18 #[.int .u8 o] w fun e w' => e = .returned (infoV o) ∧ w' = w := by
  go_enter Sabg.func18, Sabg.ntmps18
  go_wp2
  refine bodyPost_ret (results_tmp4 rfl _ _ _) rfl ⟨?_, rfl⟩
  exact infoIs_ret (push_is o h0 h1)
set_option maxRecDepth 100000 in
theorem Info_dup (o : Int) (w : World) (h0 : 128 ≤ o) (h1 : o ≤ 143) :
    Calls Sabg.prog 18 #[.int .u8 o] w fun e w' => e = .returned (infoV o) ∧ w' = w := by
  go_enter Sabg.func18, Sabg.ntmps18
  go_wp2
  refine bodyPost_ret (results_tmp4 rfl _ _ _) rfl ⟨?_, rfl⟩
  exact infoIs_ret (dup_is o h0 h1)
set_option maxRecDepth 100000 in
theorem Info_swap (o : Int) (w : World) (h0 : 144 ≤ o) (h1 : o ≤ 159) :
    Calls Sabg.prog 18 #[.int .u8 o] w fun e w' => e = .returned (infoV o) ∧ w' = w := by
  go_enter Sabg.func18, Sabg.ntmps18
  go_wp2
  refine bodyPost_ret (results_tmp4 rfl _ _ _) rfl ⟨?_, rfl⟩
  exact infoIs_ret (swap_is o h0 h1)
set_option maxRecDepth 100000 in
theorem Info_log (o : Int) (w : World) (h0 : 160 ≤ o) (h1 : o ≤ 164) :
    Calls Sabg.prog 18 #[.int .u8 o] w fun e w' => e = .returned (infoV o) ∧ w' = w := by
  go_enter Sabg.func18, Sabg.ntmps18
  go_wp2
  refine bodyPost_ret (results_tmp4 rfl _ _ _) rfl ⟨?_, rfl⟩
  exact infoIs_ret (log_is o h0 h1)
theorem Info_any (o : Int) (w : World) (h0 : 0 ≤ o) (h1 : o ≤ 255) :
    Calls Sabg.prog 18 #[.int .u8 o] w fun e w' => e = .returned (infoV o) ∧ w' = w := by
  by_cases h : o ≤ 95
  · exact Info_low o w h0 h
  by_cases h2 : o ≤ 127
  · exact Info_push o w (by omega) h2
  by_cases h3 : o ≤ 143
  · exact Info_dup o w (by omega) h3
  by_cases h4 : o ≤ 159
  · exact Info_swap o w (by omega) h4
  by_cases h5 : o ≤ 164
  · exact Info_log o w (by omega) h5
  · exact Info_high o w (by omega) h1
end Go.Proofs.Ygcsab.Cut
