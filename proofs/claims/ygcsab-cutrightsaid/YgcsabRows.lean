/-
  No cell of these rows narrows 'for every input' (looked for: loops, veiled, ifaces, maps, wideKeys, modest, calm, conditions, laid).
  DERIVED. THE GIVEN ROWS OF THIS SEAT. 2 by the template 'for every input the law returns true; each argument reads behind the call as it read before'; 0 by the template 'total and deterministic' (their statements: YgcsabTotals.lean).
  GIVEN WITH THE SEED: the statements are not yours to turn. If you find one false, say at which input.
  Laid BY PROGRAM, IN A SANDBOX (cutbox-rows.mjs): the forced cells as the released guide's own fill.sh prints them over the translation 5000b823692875ad… (all of the seat's roots in one cut). By AI agents, Wed Nov 11 2026. No macro, syntax, notation, axiom, sorry.
-/
import Derived.Test.YgcsabChecked
import GoSem.Claim
import GoSem.ClaimJoined
import GoSem.ClaimMapViews
import Derived.JoinedTies
import Derived.KernelRfl
namespace Go.Proofs.Ygcsab
/- THE CELL 'sum', in the pinned program and in every row, IS THE sha256 OF THE DUMP (.gsa) THAT YgcsabProg.lean LOADS. Nothing in Lean hashes anything: it is a label: what it is worth is what the hold of that sum in a sandbox is worth. -/
noncomputable def Sabg.pinned : Pinned := { name := "ygcsab", sum := "5000b823692875ad5f508b7c62aa65098a1bfee0f441826e1112715d8c0a04ef", checked := Sabg.checked }
namespace Rows
def none {H : Type} : Left H := { results := [], args := [] }

/-- 'law.CutRight': WHATEVER THE INPUT: true; the input reads as it did. -/
def cutRightSpec : ChangeSpec := { name := "cutRight", fn := fun _ => fun
  | [d] => { results := [.lit (.bool true)], args := [d] }
  | _ => none }
def cutRightRow : OpenClaim := { program := "ygcsab", sum := "5000b823692875ad5f508b7c62aa65098a1bfee0f441826e1112715d8c0a04ef", func := "yellow/law.CutRight", spec := "cutRight", apart := false }
def CutRightSaid : Prop := cutRightRow.holds Sabg.pinned (OpenSpec.ofChange cutRightSpec)

/-- ITS FALSE NEIGHBOUR: 'it returns false'. Refute it at one input. -/
def cutRightWrong : ChangeSpec := { name := "cutRight", fn := fun _ => fun
  | [d] => { results := [.lit (.bool false)], args := [d] }
  | _ => none }
def CutRightWrongFalsely : Prop := cutRightRow.holds Sabg.pinned (OpenSpec.ofChange cutRightWrong)

/-- 'law.DestSame': WHATEVER THE INPUT: true; the input reads as it did. -/
def destSameSpec : ChangeSpec := { name := "destSame", fn := fun _ => fun
  | [d1, d2] => { results := [.lit (.bool true)], args := [d1, d2] }
  | _ => none }
def destSameRow : OpenClaim := { program := "ygcsab", sum := "5000b823692875ad5f508b7c62aa65098a1bfee0f441826e1112715d8c0a04ef", func := "yellow/law.DestSame", spec := "destSame", apart := false }
def DestSameSaid : Prop := destSameRow.holds Sabg.pinned (OpenSpec.ofChange destSameSpec)

/-- ITS FALSE NEIGHBOUR: 'it returns false'. Refute it at one input. -/
def destSameWrong : ChangeSpec := { name := "destSame", fn := fun _ => fun
  | [d1, d2] => { results := [.lit (.bool false)], args := [d1, d2] }
  | _ => none }
def DestSameWrongFalsely : Prop := destSameRow.holds Sabg.pinned (OpenSpec.ofChange destSameWrong)

end Rows
end Go.Proofs.Ygcsab
