/-
  WALK: law.CutRight (3).
-/
import Derived.Test.YgcsabCutHolds
import Derived.Test.YgcsabCutHolds0
namespace Go.Proofs.Ygcsab.Cut
open Go.RowKit Go.Great Go.Proofs.Ygcsab.Dest
set_option linter.unusedVariables false
set_option linter.unusedSimpArgs false

theorem none_zero {w : World} {a : Option Addr} {l : List Int} {n cap : Nat} (hn : l.length = n) (hr : RowAt w a l cap) (h : a = none) : n = 0 := by
  by_cases hp : 0 < l.length
  · obtain ⟨_, _, hx, _⟩ := hr.2.2 hp
    rw [h] at hx
    cases hx
  · omega

theorem CutRight_any (a : Option Addr) (n cap : Nat) (l : List Int) (w : World) (hn : l.length = n) (hr : RowAt w a l cap) (hdg : Dig l) (hb : n ≤ 140737488355328) :
    Calls Sabg.prog 3 #[.slice a n cap] w fun e w' => e = .returned (.bool true) ∧ Below w.heap.size w w' := by
  go_enter Sabg.func3, Sabg.ntmps3
  go_wp2_with fail
  refine (copyBytes_any a n cap l _ hn hr hb).mono ?_
  rintro e w1 ⟨⟨a', rfl, hr1⟩, hb1⟩
  have hz := none_zero hn hr1
  by_cases hs : n ≤ 512
  · go_wp2_with fail
    refine (New_short a' n n l _ hn hr1 hdg hz hs).mono ?_
    rintro e w2 ⟨g, ca, cc, v, R, S, k, rfl, hB, hrc, hown, hdone, hnk, hb2⟩
    have hbb := hb1.trans (hb2.mono hb1.size)
    go_wp2_with fail
    refine (cutHolds_short a ca n cap cc g l _ hn (hr.below hbb) hrc hdg hs v R S k hB hown hdone hnk).mono ?_
    rintro e w3 ⟨rfl, hb3⟩
    go_wp2
    go_ret
    exact ⟨rfl, hbb.trans (hb3.mono hbb.size)⟩
  · go_wp2_with fail
    refine (New_long a' n n l _ hn hr1 hz (by omega) hb).mono ?_
    rintro e w2 ⟨g, ca, cc, rfl, hB, hrc, hb2⟩
    have hbb := hb1.trans (hb2.mono hb1.size)
    go_wp2_with fail
    refine (cutHolds_long a ca n cap cc g l _ hn (hr.below hbb) hrc (by omega) hB).mono ?_
    rintro e w3 ⟨rfl, rfl⟩
    go_wp2
    go_ret
    exact ⟨rfl, hbb⟩
end Go.Proofs.Ygcsab.Cut
