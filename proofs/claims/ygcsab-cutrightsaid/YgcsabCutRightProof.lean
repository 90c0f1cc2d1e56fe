/-
  THE PROOF OF 'Rows.CutRightSaid' ('yellow/law.CutRight'): the shell of the seed, its hole filled by 'walk'; the builder is the sized one (the row's own bound on a slice's bytes).
-/
import Derived.Test.YgcsabRows
import Derived.WalkKit
import Derived.ProofKit
import Derived.OpenShut
import Derived.ShutString
import Derived.ChangeOld
import Derived.Below
import Derived.Test.YgcsabCutWalk
import Derived.Test.YgcsabOpen
namespace Go.Proofs.Ygcsab.cutRight
open Go.ChangeShapes Go.WideShapes Go.ChangeAt Go.RowKit
open Go.ChangeMaps (open_string shut_string)
set_option linter.unusedVariables false

theorem own : ownKnob Sabg.prog.godebug = none := by kernel_rfl
theorem laidOut : laidOutB Sabg.prog = true := by kernel_rfl

/-! ### STEP 1: THE WALK (YgcsabCutWalk.lean): the Go text returns true, and writes nothing that was there. -/
theorem walk (a0 : Option Addr) (len0 cap0 : Nat) (l : List Int) (w : World) (hl : l.length = len0) (hr : Dest.RowAt w a0 l cap0) (hd : Dest.Dig l) (hs : len0 ≤ 140737488351232) :
    Calls Sabg.prog 3 #[.slice a0 len0 cap0] w fun e w' => e = .returned (.bool true) ∧ Below w.heap.size w w' :=
  Cut.CutRight_any a0 len0 cap0 l w hl hr hd (by omega)

/-! ### THE ROW's STEP: WRITTEN OUT: LEAVE IT -/
set_option maxRecDepth 100000 in
theorem lifted (os : Os) (started : os.Started) (H : Type) (enc : TypeId × Value → H) :
    ReturnsInHanded {} Sabg.checked os 3 .any (Rows.cutRightSpec.pre6 enc Sabg.prog Sabg.f3 Rows.cutRightRow.domain false) (Rows.cutRightSpec.post enc Sabg.prog Sabg.f3 false true false false) := by
  refine returnsInHanded_of_change_sized (C := Sabg.checked) own started (by kernel_rfl) Sabg.func3
    (ChangeSpec.witness6 (enc := enc) (C := Sabg.checked) false ⟨#[], #[.slice none 0 0], []⟩ 8 (by kernel_rfl) (by kernel_rfl) (by kernel_rfl) (by kernel_rfl)) ?_
  intro W base args ds gs before hval0 hW hcnd hsz0 _
  have hsz : (DataW.weightsEach Sabg.prog (Sabg.f3.params.toList ++ Rows.cutRightSpec.plain.varTypes Sabg.prog) (ds ++ gs)).all (· ≤ reachBytes) = true := hsz0
  clear hsz0
  have hval : ∀ (j : Nat) t v, Sabg.f3.params[j]? = some t → args[j]? = some v → Value.okWide Sabg.prog W .any base t v := hval0
  have hW' := hW
  obtain ⟨p, q, hA0, hV, rfl, hfz, hnd⟩ := hW
  have hA : DataW.TrodAll enc Sabg.prog W 0 (fun _ => true) true Sabg.f3.params.toList args.toList ds p := hA0
  rw [Sabg.params3] at hA hval hsz
  obtain ⟨v0, vs0, d0, ds0, p0, q0, hargs, rfl, rfl, h0, r0⟩ := trodAll_cons hA
  obtain ⟨rfl, rfl, rfl⟩ := trodAll_nil r0
  obtain rfl : args = #[v0] := by cases args; simp_all
  obtain ⟨rfl, rfl⟩ := trodVars_none hV
  obtain ⟨a0, len0, cap0, rfl⟩ := okWide_slice Sabg.underlying22 (hval 0 22 v0 rfl rfl)
  have k0 := h0
  have lt0 : ∀ x ∈ p0, x.block < W.heap.size := by obtain ⟨m, hm⟩ := k0; exact DataW.trod_lt m _ _ _ hm
  obtain ⟨l, hl, hr, hd, hs⟩ : ∃ l : List Int, l.length = len0 ∧ Dest.RowAt W a0 l cap0 ∧ Dest.Dig l ∧ len0 ≤ 140737488351232 := by
    obtain ⟨fuel, hf⟩ := h0
    exact open_row (by simpa [Value.cells] using hf) hsz rfl rfl
  clear hA0 hval0
  refine (walk a0 len0 cap0 l W hl hr hd hs).mono fun e W' ⟨he, bel⟩ => ?_
  subst he
  exact ⟨_, rfl, _, _, _, [], _, [], hW', trodAll_mk1 (shut_bool Sabg.underlying4 _), (trodAll_cons_mk (Below.trod laidOut (by kernel_rfl) (of_decide_eq_true (by kernel_rfl)) k0 bel lt0) trodAll_mk0), rfl, bel.frame _, fun h => by cases h⟩

theorem over : Rows.cutRightRow.holds Sabg.pinned (OpenSpec.ofChange Rows.cutRightSpec) :=
  OpenClaim.holds_of_wide 3 Sabg.f3 rfl rfl rfl rfl rfl rfl rfl ⟨rfl, rfl, rfl, rfl, rfl⟩ rfl rfl rfl rfl rfl (by kernel_rfl) Sabg.func3 (by kernel_rfl)
    (of_decide_eq_true (by kernel_rfl)) (by unfold Func.isWrapper; first | (rw [if_pos (by decide +kernel)]; kernel_rfl) | (rw [if_neg (by decide +kernel)]; exact ⟨rfl, rfl⟩))
    (fun os started H enc _ => lifted os started H enc)

/-- ████ THE STATEMENT ████ -/
theorem proved : Rows.CutRightSaid := over
end Go.Proofs.Ygcsab.cutRight
