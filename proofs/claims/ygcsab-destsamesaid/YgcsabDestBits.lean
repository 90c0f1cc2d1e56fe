/-
  THE MAP's BITS: plain laws, and the model's 'bits' on uint64 in numbers.
-/
import Derived.Test.YgcsabDestPlain
import Derived.WalkKit
import Derived.WalkSmall
namespace Go.Proofs.Ygcsab.Dest
open Go.RowKit
set_option linter.unusedVariables false
set_option linter.unusedSimpArgs false

theorem wrap_pow (i : Nat) (h : i < 64) : IntKind.u64.wrap (2 ^ i) = ((2 ^ i : Nat) : Int) := by
  have h1 : (2 : Nat) ^ i ≤ 2 ^ 63 := Nat.pow_le_pow_right (by decide) (by omega)
  have h2 : ((2 ^ i : Nat) : Int) = (2 : Int) ^ i := by simp
  rw [← h2, IntKind.wrap_u64]
  generalize 2 ^ i = y at h1
  omega
theorem or_bit (m i : Nat) (hm : m < 2 ^ 64) (h : i < 64) : bits .or .u64 (m : Int) (IntKind.u64.wrap (2 ^ i)) = ((m ||| 2 ^ i : Nat) : Int) := by
  rw [wrap_pow i h]
  exact (bits_nat .u64 64 (by decide) (fun n h0 h1 => by rw [IntKind.wrap_u64]; omega) m (2 ^ i) hm (Nat.pow_lt_pow_right (by decide) h)).2

/-- The words below 2^64; each place's bit. -/
def Bits (ws : List Nat) (l : List Int) (k : Nat) : Prop := ws.length = 8 ∧ (∀ m ∈ ws, m < 2 ^ 64) ∧ ∀ p, p < 512 → (ws.getD (p / 64) 0).testBit (p % 64) = (decide (p < k) && isD l 0 p)
def zero8 : List Nat := List.replicate 8 0
theorem natD_in (l : List Nat) (k : Nat) (h : k < l.length) : l.getD k 0 = l[k] := by simp [List.getD, h]
theorem Bits.zero (l : List Int) : Bits zero8 l 0 := ⟨by simp [zero8], fun m hm => by simp [zero8] at hm; omega, fun p hp => by
  rw [natD_in _ _ (by simp [zero8]; omega)]
  have e : zero8[p / 64]'(by simp [zero8]; omega) = 0 := List.getElem_replicate ..
  rw [e]; simp⟩
theorem Bits.word {ws : List Nat} {l : List Int} {k : Nat} (h : Bits ws l k) (i : Nat) : ws.getD i 0 < 2 ^ 64 := by
  by_cases hi : i < ws.length
  · rw [natD_in _ _ hi]; exact h.2.1 _ (List.getElem_mem hi)
  · simp [List.getD, List.getElem?_eq_none (Nat.le_of_not_lt hi)]
/-- No JUMPDEST here. -/
theorem Bits.pass {ws : List Nat} {l : List Int} {k : Nat} (h : Bits ws l k) (hat : At l k) (hk : k < l.length) (hx : l.getD k 0 ≠ 91) : Bits ws l (k + 1 + imm (l.getD k 0)) := by
  refine ⟨h.1, h.2.1, fun p hp => ?_⟩
  rw [h.2.2 p hp]
  by_cases h1 : p < k
  · rw [decide_eq_true h1, decide_eq_true (by omega : p < k + 1 + imm (l.getD k 0))]
  · by_cases h2 : p < k + 1 + imm (l.getD k 0)
    · have : isD l 0 p = false := by
        by_cases h3 : p = k
        · subst h3; rw [hat.here hk]; simpa using hx
        · exact hat.between hk (by omega) h2
      rw [this]; simp
    · rw [decide_eq_false h1, decide_eq_false h2]
/-- A JUMPDEST: its bit is set. -/
theorem Bits.mark {ws : List Nat} {l : List Int} {k : Nat} (h : Bits ws l k) (hat : At l k) (hk : k < l.length) (hk5 : k < 512) (hx : l.getD k 0 = 91) :
    Bits (ws.set (k / 64) (ws.getD (k / 64) 0 ||| 2 ^ (k % 64))) l (k + 1) := by
  have hl := h.1
  refine ⟨by simp [hl], fun m hm => ?_, fun p hp => ?_⟩
  · rcases List.mem_or_eq_of_mem_set hm with hm | rfl
    · exact h.2.1 m hm
    · exact Nat.or_lt_two_pow (h.word _) (Nat.pow_lt_pow_right (by decide) (by omega))
  · rw [natD_in _ _ (by simp; omega), List.getElem_set]
    have hold := h.2.2 p hp
    rw [natD_in _ _ (by omega)] at hold
    have hme : isD l 0 k = true := by rw [hat.here hk, hx]; rfl
    by_cases hw : k / 64 = p / 64
    · rw [if_pos hw, Nat.testBit_or, Nat.testBit_two_pow, hw, natD_in _ _ (by omega), hold]
      by_cases hpk : p = k
      · subst hpk; simp [hme]
      · rw [decide_eq_false (show ¬ k % 64 = p % 64 from by omega)]
        by_cases hlt : p < k
        · rw [decide_eq_true hlt, decide_eq_true (by omega : p < k + 1)]; simp
        · rw [decide_eq_false hlt, decide_eq_false (by omega : ¬ p < k + 1)]; simp
    · rw [if_neg hw, hold]
      by_cases hlt : p < k
      · rw [decide_eq_true hlt, decide_eq_true (by omega : p < k + 1)]
      · rw [decide_eq_false hlt, decide_eq_false (show ¬ p < k + 1 from fun h => hw (by rw [show p = k from by omega]))]
theorem Bits.done {ws : List Nat} {l : List Int} {k : Nat} (h : Bits ws l k) (hk : l.length ≤ k) (p : Nat) (hp : p < 512) : (ws.getD (p / 64) 0).testBit (p % 64) = isD l 0 p := by
  rw [h.2.2 p hp]
  by_cases h1 : p < k
  · simp [h1]
  · rw [isD_len l 0 p (by omega)]; simp

/-- 'm>>i&1 == 1' is the bit. -/
theorem bit_read (m i : Nat) (hm : m < 2 ^ 64) : (bits .and .u64 ((m : Int) / 2 ^ i) 1 == 1) = m.testBit i := by
  have h1 : ((m : Int) / 2 ^ i) = ((m / 2 ^ i : Nat) : Int) := by simp
  have h2 : m / 2 ^ i ≤ m := Nat.div_le_self _ _
  rw [h1, Nat.testBit, Nat.shiftRight_eq_div_pow, Nat.one_and_eq_mod_two]
  clear h1
  generalize m / 2 ^ i = y at h2 ⊢
  rw [and_one_u64 _ (by omega) (by omega)]
  have : y % 2 = 0 ∨ y % 2 = 1 := by omega
  rcases this with h | h
  · have : ((y : Nat) : Int) % 2 = 0 := by omega
    rw [this, h]; rfl
  · have : ((y : Nat) : Int) % 2 = 1 := by omega
    rw [this, h]; rfl
end Go.Proofs.Ygcsab.Dest
