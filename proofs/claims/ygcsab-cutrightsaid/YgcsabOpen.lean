/-
  A SLICE OF BYTES THAT CAME IN, OPENED INTO 'RowAt': its elements, their range, its length's bound (the form's own reach).
-/
import Derived.Test.YgcsabDestNat1
import Derived.ProofKit
import Derived.SizedLaws
import Derived.OpenShut
namespace Go.Proofs.Ygcsab
open Go.ChangeShapes Go.WideShapes Go.ChangeAt Go.RowKit
set_option linter.unusedVariables false

theorem bytes5 : Sabg.prog.bytesOf 5 = 1 := by kernel_rfl
theorem cells5 : Sabg.prog.cellsOf 5 = 1 := by kernel_rfl

theorem open_row {H : Type} {enc : TypeId × Value → H} {W : World} {a0 : Option Addr} {len0 cap0 fuel : Nat} {d0 : DataW H} {p0 : List MemPlace} {ts : List TypeId} {ds : List (DataW H)}
    (hf : DataW.trod enc Sabg.prog W 0 (fun _ => true) true fuel 22 [.slice a0 len0 cap0] = some (d0, p0))
    (hsz : (DataW.weightsEach Sabg.prog ts ds).all (· ≤ reachBytes) = true) (ht : ts[0]? = some 22) (hd : ds[0]? = some d0) :
    ∃ l, l.length = len0 ∧ Dest.RowAt W a0 l cap0 ∧ Dest.Dig l ∧ len0 ≤ 140737488351232 := by
  rcases open_ints Sabg.underlying22 Sabg.underlying5 cells5 hf with ⟨hcs, hx⟩ | ⟨x, l, c, zs, hcs, _, hl, hm, hz, hx, hcell, hwz⟩
  · simp at hcs
    obtain ⟨rfl, rfl, rfl⟩ := hcs
    exact ⟨[], rfl, ⟨Nat.le_refl _, Nat.zero_le _, fun h => absurd h (by simp)⟩, Dest.Dig.nil, Nat.zero_le _⟩
  · simp at hcs
    obtain ⟨rfl, rfl, rfl⟩ := hcs
    simp only [if_true] at hz
    have hd' : d0 = .slice (lits .u8 (zs.take len0)) (lits .u8 (zs.drop len0)) := (Prod.mk.injEq .. ▸ hx).1
    have hr := sized_slice hsz (j := 0) (t := 22) (e := 5) ht (hd.trans (by rw [hd'])) Sabg.underlying22
    rw [bytes5] at hr
    simp only [lits, List.length_map, List.length_take, List.length_drop, reachBytes] at hr
    have hll : (zs.take len0).length = len0 := by simp; omega
    refine ⟨zs.take len0, hll, ⟨by omega, hm, fun hp => ?_⟩, fun n hn => ?_, by omega⟩
    · obtain ⟨b, off, spot⟩ := x
      have h0 := hcell 0 (by omega)
      have hspot : spot = none := by simpa [Addr.add] using World.cell?_spot h0
      subst hspot
      have hlt := block_lt_of_cell h0
      simp only [Addr.add, if_true] at hlt
      refine ⟨b, off, rfl, hlt, fun i hi => ?_⟩
      have := hcell i (by omega)
      rw [add_plain] at this
      rw [this]
      have hi' : i < len0 := by omega
      simp [List.getD, hi']
    · have := hwz n (List.mem_of_mem_take hn)
      exact bounds_u8 this
end Go.Proofs.Ygcsab
