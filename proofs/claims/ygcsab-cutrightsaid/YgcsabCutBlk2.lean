/-
  BLOCKS, MORE: behind a store over a whole block.
-/
import Derived.Test.YgcsabCutBlk
namespace Go.Proofs.Ygcsab
open Go.RowKit
set_option linter.unusedVariables false
theorem own_only {w w' : World} {base g : Nat} {e : TypeId} {size : Nat} {v : Value} {n : Nat} {xs : List Value} (h : w.ownsRow base e size v n xs) (ho : Only g w w') (hg : g < base) : w'.ownsRow base e size v n xs := by
  obtain ⟨h1, h2⟩ := h
  refine ⟨h1, ?_⟩
  rcases h2 with h2 | ⟨g', cap, cur, hv, hb, hh, r⟩
  · exact Or.inl h2
  · exact Or.inr ⟨g', cap, cur, hv, hb, by rw [ho.other g' (by omega)]; exact hh, r⟩
end Go.Proofs.Ygcsab
