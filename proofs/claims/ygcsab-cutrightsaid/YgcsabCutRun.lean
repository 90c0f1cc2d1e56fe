/-
  PLAIN: the run of instructions that makes up a block; its cells.
-/
import Derived.Test.YgcsabCutPlain
import Derived.Test.YgcsabDestNat3
namespace Go.Proofs.Ygcsab.Cut
open Go.RowKit Go.Proofs.Ygcsab.Dest
set_option linter.unusedVariables false
set_option linter.unusedSimpArgs false

/-- Where the last instruction stands. -/
def lastP : Nat → List Int → Nat
  | _, [] => 0
  | h, [_] => h
  | h, o :: o2 :: r => lastP (h + 1 + imm o) (o2 :: r)
theorem lastP_snoc {l : List Int} {h k : Nat} {os : List Int} (hs : Seg l h os k) (o : Int) : lastP h (os ++ [o]) = k := by
  induction os generalizing h with
  | nil => exact hs
  | cons x r ih =>
    have := ih hs.2.2
    match r, this with
    | [], this => exact this
    | y :: r', this => exact this

/-- No head strictly inside the run. -/
def Inside (l : List Int) (h : Nat) (os : List Int) : Prop := ∀ os1 os2 pc, os = os1 ++ os2 → os1 ≠ [] → os2 ≠ [] → Seg l h os1 pc → hd l pc = false
/-- From the head h on the block is the run os; behind it stands k. -/
def Run (l : List Int) (h : Nat) (os : List Int) (k : Nat) : Prop := os ≠ [] ∧ Seg l h os k ∧ Inside l h os ∧ (l.length ≤ k ∨ hd l k = true)
theorem Inside.one (l : List Int) (h : Nat) (o : Int) : Inside l h [o] := by
  intro os1 os2 pc he h1 h2 _
  have := congrArg List.length he
  simp at this
  have a1 : 0 < os1.length := List.length_pos_iff.2 h1
  have a2 : 0 < os2.length := List.length_pos_iff.2 h2
  omega
theorem Inside.snoc {l : List Int} {h k : Nat} {os : List Int} (hi : Inside l h os) (hs : Seg l h os k) (hk : hd l k = false) (o : Int) : Inside l h (os ++ [o]) := by
  intro os1 os2 pc he h1 h2 hpc
  rcases List.eq_nil_or_concat os2 with h0 | ⟨os3, o3, rfl⟩
  · exact absurd h0 h2
  · rw [List.concat_eq_append, ← List.append_assoc] at he
    obtain ⟨he1, _⟩ := List.append_inj' he rfl
    by_cases h3 : os3 = []
    · subst h3
      simp at he1
      subst he1
      rw [← Seg.det hs hpc]; exact hk
    · exact hi os1 os3 pc he1 h1 h3 hpc

/-- A Block's cells. -/
def blk5 (at_ last : Nat) (need rise gas : Int) : List Value := [.int .u16 at_, .int .u16 last, .int .u16 need, .int .u16 rise, .int .u32 gas]
/-- The block of the run os at h. -/
def blkOf (h : Nat) (os : List Int) : List Value := blk5 h (lastP h os) (stk os).need (stk os).rise (gasOf os)
theorem blk5_one (at_ last : Nat) (need rise gas : Int) : ∀ v ∈ blk5 at_ last need rise gas, v.oneCell' = true := by
  intro v hv
  simp [blk5] at hv
  rcases hv with rfl | rfl | rfl | rfl | rfl <;> rfl
theorem Seg.in_code {l : List Int} {h k : Nat} {os : List Int} (hs : Seg l h os k) (hd : Dig l) : Dig os := by
  induction os generalizing h with
  | nil => exact Dig.nil
  | cons o r ih =>
    intro d hdm
    rcases List.mem_cons.1 hdm with rfl | hm
    · have := hd.getD h
      rw [hs.2.1] at this
      exact this
    · exact ih hs.2.2 d hm
theorem Seg.len {l : List Int} {h k : Nat} {os : List Int} (hs : Seg l h os k) : os.length ≤ l.length := by
  have key : ∀ (os : List Int) (h k : Nat), Seg l h os k → os ≠ [] → h + os.length ≤ l.length := by
    intro os
    induction os with
    | nil => intro h k _ hne; exact absurd rfl hne
    | cons o r ih =>
      intro h k hs _
      by_cases hr : r = []
      · subst hr; have := hs.1; simp; omega
      · have := ih _ _ hs.2.2 hr
        simp; omega
  by_cases h0 : os = []
  · subst h0; simp
  · have := key os h k hs h0; omega

/-- From what a call owns to a row. -/
theorem rowAt_own {w : World} {base : Nat} {v : Value} {n : Nat} {os : List Int} (h : w.ownsRow base 5 1 v n (bs os)) : ∃ a cap, v = .slice a n cap ∧ RowAt w a os cap := by
  obtain ⟨hl, h⟩ := h
  rw [bs_len] at hl
  rcases h with ⟨rfl, rfl⟩ | ⟨g, cap, cur, rfl, hb, hh, hnc, hcm, hcs, hcur⟩
  · exact ⟨none, 0, rfl, by omega, Nat.zero_le _, fun hp => by omega⟩
  · refine ⟨some ⟨g, 0, none⟩, cap, rfl, by omega, hcm, fun hp => ⟨g, 0, rfl, lt_of_block hh, fun i hi => ?_⟩⟩
    rw [Nat.zero_add, cell_of_row w g i cur 5 _ hh]
    have h1 : (cur.toList.take (n * 1))[i]? = (bs os)[i]? := by rw [hcur]
    rw [List.getElem?_take, if_pos (by omega), bs_at os i hi] at h1
    simpa using h1
theorem rowAt_own' {w : World} {base : Nat} {a : Option Addr} {n cap : Nat} {os : List Int} (h : w.ownsRow base 5 1 (.slice a n cap) n (bs os)) : RowAt w a os cap := by
  obtain ⟨a', cap', he, hr⟩ := rowAt_own h
  injection he with h1 h2 h3
  rw [h1, h3]; exact hr
end Go.Proofs.Ygcsab.Cut
