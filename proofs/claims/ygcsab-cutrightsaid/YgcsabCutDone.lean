/-
  PLAIN: what block.New has cut so far.
-/
import Derived.Test.YgcsabCutRun
namespace Go.Proofs.Ygcsab.Cut
open Go.RowKit Go.Proofs.Ygcsab.Dest
set_option linter.unusedVariables false
set_option linter.unusedSimpArgs false

/-- All blocks whose heads lie below k have been cut: R bears them in order, S their places. -/
def Done (l : List Int) (R : List (Nat × List Int)) (S : List Nat) (k : Nat) : Prop :=
  R.length = cnt l k ∧ S.length = 512 ∧ (∀ p, S.getD p 0 = if p < k ∧ hd l p = true then cnt l p + 1 else 0) ∧
  ∀ p, p < k → hd l p = true → ∃ os kk, Run l p os kk ∧ R[cnt l p]? = some (p, os)
def zeros (n : Nat) : List Nat := List.replicate n 0
theorem zeros_len (n : Nat) : (zeros n).length = n := List.length_replicate
theorem zeros_at (n p : Nat) : (zeros n).getD p 0 = 0 := by
  simp only [zeros, List.getD, List.getElem?_replicate]
  split <;> rfl
theorem Done.zero (l : List Int) : Done l [] (zeros 512) 0 := by
  refine ⟨rfl, zeros_len 512, fun p => ?_, fun p hp => absurd hp (by omega)⟩
  rw [if_neg (by omega), zeros_at]
/-- No head strictly between. -/
def Quiet (l : List Int) (h k : Nat) : Prop := ∀ p, h < p → p < k → hd l p = false
/-- The open block: its head h, its instructions so far os; behind them stands k. -/
def Cur (l : List Int) (R : List (Nat × List Int)) (S : List Nat) (h : Nat) (os : List Int) (k : Nat) : Prop :=
  Done l R S h ∧ hd l h = true ∧ Quiet l h k ∧ Seg l h os k ∧ (os ≠ [] → Inside l h os)
theorem Cur.head {l : List Int} {R : List (Nat × List Int)} {S : List Nat} {h : Nat} (hd0 : Done l R S h) (hh : hd l h = true) : Cur l R S h [] h :=
  ⟨hd0, hh, fun p h1 h2 => absurd h2 (by omega), rfl, fun h => absurd rfl h⟩
/-- One instruction more. -/
theorem Cur.next {l : List Int} {R : List (Nat × List Int)} {S : List Nat} {h k : Nat} {os : List Int} {f : Bool} (hc : Cur l R S h os k) (hat : AtF l k f) (hk : k < l.length) (hno : os ≠ [] → hd l k = false) :
    Cur l R S h (os ++ [l.getD k 0]) (k + 1 + imm (l.getD k 0)) := by
  obtain ⟨h1, h2, h3, h4, h5⟩ := hc
  refine ⟨h1, h2, fun p hp1 hp2 => ?_, h4.snoc hk, fun _ => ?_⟩
  · by_cases ha : p < k
    · exact h3 p hp1 ha
    · by_cases hb : p = k
      · subst hb
        refine hno fun h0 => ?_
        subst h0
        have : h = p := h4
        omega
      · exact hat.between hk (by omega) hp2
  · by_cases h0 : os = []
    · subst h0; exact Inside.one l h _
    · exact (h5 h0).snoc h4 (hno h0) _
/-- The block is closed. -/
theorem Cur.close {l : List Int} {R : List (Nat × List Int)} {S : List Nat} {h k : Nat} {os : List Int} (hc : Cur l R S h os k) (hne : os ≠ []) (hstop : l.length ≤ k ∨ hd l k = true) (h5 : h < 512) :
    Done l (R ++ [(h, os)]) (S.set h (R.length + 1)) k := by
  obtain ⟨⟨d1, d2, d3, d4⟩, hh, hq, hseg, hin⟩ := hc
  have hlt : h < k := by have := hseg.le; have := List.length_pos_iff.2 hne; omega
  have hck : cnt l k = cnt l h + 1 := by
    rw [← cnt_yes hh]
    exact cnt_flat hlt fun r h1 h2 => hq r (by omega) h2
  have hrun : Run l h os k := ⟨hne, hseg, hin hne, hstop⟩
  refine ⟨by simp [d1, hck], by simp [d2], fun p => ?_, fun p hp hhp => ?_⟩
  · by_cases hph : p = h
    · subst hph
      rw [if_pos ⟨hlt, hh⟩, d1]
      simp [List.getD, d2, h5]
    · have : (S.set h (R.length + 1)).getD p 0 = S.getD p 0 := by simp [List.getD, List.getElem?_set, Ne.symm hph]
      rw [this, d3 p]
      by_cases h1 : p < h ∧ hd l p = true
      · rw [if_pos h1, if_pos ⟨by omega, h1.2⟩]
      · rw [if_neg h1, if_neg]
        intro ⟨h2, h3⟩
        by_cases h4 : p < h
        · exact h1 ⟨h4, h3⟩
        · rw [hq p (by omega) h2] at h3
          cases h3
  · by_cases hph : p = h
    · subst hph
      refine ⟨os, k, hrun, ?_⟩
      rw [← d1]; simp
    · by_cases h4 : p < h
      · obtain ⟨os', kk, h1, h2⟩ := d4 p h4 hhp
        refine ⟨os', kk, h1, ?_⟩
        rw [List.getElem?_append_left (List.getElem?_eq_some_iff.1 h2).1]
        exact h2
      · rw [hq p (by omega) hp] at hhp
        cases hhp

/-- The cells of the blocks. -/
def cellsR : List (Nat × List Int) → List Value
  | [] => []
  | (h, os) :: r => blkOf h os ++ cellsR r
theorem cellsR_snoc (R : List (Nat × List Int)) (h : Nat) (os : List Int) : cellsR (R ++ [(h, os)]) = cellsR R ++ blkOf h os := by
  induction R with
  | nil => simp [cellsR]
  | cons x r ih => obtain ⟨h', os'⟩ := x; simp [cellsR, ih]
theorem cellsR_at {R : List (Nat × List Int)} {q h : Nat} {os : List Int} (hq : R[q]? = some (h, os)) (i : Nat) (hi : i < 5) : (cellsR R)[q * 5 + i]? = (blkOf h os)[i]? := by
  induction R generalizing q with
  | nil => simp at hq
  | cons x r ih =>
    obtain ⟨h', os'⟩ := x
    have hl : (blkOf h' os').length = 5 := rfl
    match q, hq with
    | 0, hq =>
      simp at hq
      obtain ⟨rfl, rfl⟩ := hq
      rw [cellsR, List.getElem?_append_left (by omega)]
      simp
    | q + 1, hq =>
      simp at hq
      rw [cellsR, List.getElem?_append_right (by omega), hl, show (q + 1) * 5 + i - 5 = q * 5 + i from by omega]
      exact ih hq
end Go.Proofs.Ygcsab.Cut
