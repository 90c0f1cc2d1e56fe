/-
  PLAIN LAWS FOR 'CutRight': where blocks begin; what a run of instructions needs of the stack. No Go in sight.
-/
import Derived.Test.YgcsabCutTables
namespace Go.Proofs.Ygcsab.Cut
open Go.Proofs.Ygcsab.Dest

/-! ### Where blocks begin -/
/-- The law's walk: 's' bytes still to be passed over, 'f': the next instruction is fresh. Is offset a the head of a block? -/
def hdF : List Int → Nat → Bool → Nat → Bool
  | [], _, _, _ => false
  | _ :: _, _ + 1, _, 0 => false
  | _ :: r, s + 1, f, a + 1 => hdF r s f a
  | o :: _, 0, f, 0 => f || o == 91
  | o :: r, 0, _, a + 1 => hdF r (imm o) (ends o) a
/-- Offset p is the head of a block of the code l. -/
def hd (l : List Int) (p : Nat) : Bool := hdF l 0 true p

theorem hdF_nil (s : Nat) (f : Bool) (a : Nat) : hdF [] s f a = false := by simp [hdF]
theorem hdF_skip (l : List Int) (s : Nat) (f : Bool) (a : Nat) : hdF l s f a = if s ≤ a then hdF (l.drop s) 0 f (a - s) else false := by
  induction l generalizing s a with
  | nil => simp [hdF]
  | cons o r ih =>
    match s, a with
    | 0, a => simp
    | s + 1, 0 => simp [hdF]
    | s + 1, a + 1 =>
      rw [hdF, ih]
      simp
theorem hdF_here (l : List Int) (i : Nat) (f : Bool) (h : i < l.length) : hdF (l.drop i) 0 f 0 = (f || l.getD i 0 == 91) := by
  rw [drop_cons l i h, hdF]
theorem hdF_next (l : List Int) (i : Nat) (f : Bool) (a : Nat) (h : i < l.length) : hdF (l.drop i) 0 f (a + 1) = hdF (l.drop (i + 1)) (imm (l.getD i 0)) (ends (l.getD i 0)) a := by
  rw [drop_cons l i h, hdF]
theorem hdF_jump (l : List Int) (i p : Nat) (f : Bool) (h : i < l.length) (hp : i < p) :
    hdF (l.drop i) 0 f (p - i) = if i + 1 + imm (l.getD i 0) ≤ p then hdF (l.drop (i + 1 + imm (l.getD i 0))) 0 (ends (l.getD i 0)) (p - (i + 1 + imm (l.getD i 0))) else false := by
  obtain ⟨a, rfl⟩ : ∃ a, p = i + (a + 1) := ⟨p - i - 1, by omega⟩
  rw [show i + (a + 1) - i = a + 1 from by omega, hdF_next l i f a h, hdF_skip, List.drop_drop]
  by_cases hc : imm (l.getD i 0) ≤ a
  · rw [if_pos hc, if_pos (by omega)]
    congr 1
    omega
  · rw [if_neg hc, if_neg (by omega)]
theorem hdF_len (l : List Int) (s : Nat) (f : Bool) (p : Nat) (h : l.length ≤ p) : hdF l s f p = false := by
  induction l generalizing s f p with
  | nil => exact hdF_nil _ _ _
  | cons o r ih =>
    simp at h
    match s, p, h with
    | s + 1, p + 1, h => rw [hdF]; exact ih _ _ _ (by omega)
    | 0, p + 1, h => rw [hdF]; exact ih _ _ _ (by omega)
theorem hd_len (l : List Int) (p : Nat) (h : l.length ≤ p) : hd l p = false := hdF_len l 0 true p h

/-- 'The walk stands at i, fresh or not'. -/
def AtF (l : List Int) (i : Nat) (f : Bool) : Prop := ∀ p, i ≤ p → hd l p = hdF (l.drop i) 0 f (p - i)
theorem AtF.zero (l : List Int) : AtF l 0 true := fun p _ => by simp [hd]
theorem AtF.here {l : List Int} {i : Nat} {f : Bool} (h : AtF l i f) (hi : i < l.length) : hd l i = (f || l.getD i 0 == 91) := by
  rw [h i (Nat.le_refl _), Nat.sub_self, hdF_here l i f hi]
theorem AtF.next {l : List Int} {i : Nat} {f : Bool} (h : AtF l i f) (hi : i < l.length) : AtF l (i + 1 + imm (l.getD i 0)) (ends (l.getD i 0)) := fun p hp => by
  rw [h p (by omega), hdF_jump l i p f hi (by omega), if_pos hp]
theorem AtF.between {l : List Int} {i p : Nat} {f : Bool} (h : AtF l i f) (hi : i < l.length) (h1 : i < p) (h2 : p < i + 1 + imm (l.getD i 0)) : hd l p = false := by
  rw [h p (by omega), hdF_jump l i p f hi h1, if_neg (by omega)]

/-! ### How many heads lie below an offset -/
def cnt (l : List Int) : Nat → Nat
  | 0 => 0
  | p + 1 => cnt l p + (if hd l p then 1 else 0)
theorem cnt_yes {l : List Int} {p : Nat} (h : hd l p = true) : cnt l (p + 1) = cnt l p + 1 := by rw [cnt, if_pos h]
theorem cnt_no {l : List Int} {p : Nat} (h : hd l p = false) : cnt l (p + 1) = cnt l p := by rw [cnt, h]; rfl
theorem cnt_le (l : List Int) (p : Nat) : cnt l p ≤ p := by
  induction p with
  | zero => simp [cnt]
  | succ p ih => rw [cnt]; split <;> omega
theorem cnt_mono (l : List Int) {p q : Nat} (h : p ≤ q) : cnt l p ≤ cnt l q := by
  induction q with
  | zero => obtain rfl : p = 0 := by omega
            exact Nat.le_refl _
  | succ q ih =>
    by_cases hq : p = q + 1
    · rw [hq]; exact Nat.le_refl _
    · have := ih (by omega)
      rw [cnt]; omega
theorem cnt_lt {l : List Int} {p q : Nat} (hp : hd l p = true) (h : p < q) : cnt l p < cnt l q := by
  have := cnt_mono l (show p + 1 ≤ q from h)
  rw [cnt_yes hp] at this
  omega
/-- No heads in between: the same count. -/
theorem cnt_flat {l : List Int} {p q : Nat} (h : p ≤ q) (hn : ∀ r, p ≤ r → r < q → hd l r = false) : cnt l q = cnt l p := by
  induction q with
  | zero => obtain rfl : p = 0 := by omega
            rfl
  | succ q ih =>
    by_cases hq : p = q + 1
    · rw [hq]
    · rw [cnt_no (hn q (by omega) (by omega))]
      exact ih (by omega) (fun r h1 h2 => hn r h1 (by omega))
theorem AtF.cnt_next {l : List Int} {i : Nat} {f : Bool} (h : AtF l i f) (hi : i < l.length) : cnt l (i + 1 + imm (l.getD i 0)) = cnt l (i + 1) :=
  cnt_flat (by omega) fun r h1 h2 => h.between hi (by omega) h2

/-! ### A run of instructions -/
/-- From h on the code holds the instructions os; behind them stands k. -/
def Seg (l : List Int) : Nat → List Int → Nat → Prop
  | h, [], k => h = k
  | h, o :: os, k => h < l.length ∧ l.getD h 0 = o ∧ Seg l (h + 1 + imm o) os k
theorem Seg.snoc {l : List Int} {h k : Nat} {os : List Int} (hs : Seg l h os k) (hk : k < l.length) : Seg l h (os ++ [l.getD k 0]) (k + 1 + imm (l.getD k 0)) := by
  induction os generalizing h with
  | nil => obtain rfl : h = k := hs
           exact ⟨hk, rfl, rfl⟩
  | cons o os ih => exact ⟨hs.1, hs.2.1, ih hs.2.2⟩
theorem Seg.split {l : List Int} {h k : Nat} {xs ys : List Int} (hs : Seg l h (xs ++ ys) k) : ∃ m, Seg l h xs m ∧ Seg l m ys k := by
  induction xs generalizing h with
  | nil => exact ⟨h, rfl, hs⟩
  | cons o os ih =>
    obtain ⟨m, h1, h2⟩ := ih hs.2.2
    exact ⟨m, ⟨hs.1, hs.2.1, h1⟩, h2⟩
theorem Seg.det {l : List Int} {h k m : Nat} {os : List Int} (h1 : Seg l h os k) (h2 : Seg l h os m) : k = m := by
  induction os generalizing h with
  | nil => exact Eq.trans (Eq.symm h1) h2
  | cons o os ih => exact ih h1.2.2 h2.2.2
theorem Seg.le {l : List Int} {h k : Nat} {os : List Int} (hs : Seg l h os k) : h + os.length ≤ k := by
  induction os generalizing h with
  | nil => obtain rfl : h = k := hs
           simp
  | cons o os ih => have := ih hs.2.2; simp; omega

/-- What a run does to the stack: the words that it needs, how far it rises, the height behind it. -/
structure Stk where
  need : Int
  rise : Int
  height : Int
def stk0 : Stk := ⟨0, 0, 0⟩
def stkStep (s : Stk) (o : Int) : Stk :=
  let h := s.height + (gv o - tk o)
  ⟨if s.need < tk o - s.height then tk o - s.height else s.need, if s.rise < h then h else s.rise, h⟩
def stk (os : List Int) : Stk := os.foldl stkStep stk0
theorem stk_snoc (os : List Int) (o : Int) : stk (os ++ [o]) = stkStep (stk os) o := by simp [stk]
def gasOf (os : List Int) : Int := (os.map sg).sum
theorem gasOf_snoc (os : List Int) (o : Int) : gasOf (os ++ [o]) = gasOf os + sg o := by simp [gasOf]

def stkOk (s : Stk) (m : Int) : Prop := 0 ≤ s.need ∧ s.need ≤ 17 * m ∧ 0 ≤ s.rise ∧ s.rise ≤ m ∧ -(17 * m) ≤ s.height ∧ s.height ≤ m
theorem stkStep_bd {s : Stk} {m o : Int} (h : stkOk s m) (h0 : 0 ≤ o) (h1 : o ≤ 255) : stkOk (stkStep s o) (m + 1) := by
  have t := tk_bd o h0 h1
  have g := gv_bd o h0 h1
  have lf := lift_bd o h0 h1
  obtain ⟨a1, a2, a3, a4, a5, a6⟩ := h
  simp only [stkOk, stkStep]
  refine ⟨?_, ?_, ?_, ?_, ?_, ?_⟩
  · split <;> omega
  · split <;> omega
  · split <;> omega
  · split <;> omega
  · omega
  · omega
theorem stk_from (os : List Int) (hd : Dig os) (s : Stk) (m : Int) (h : stkOk s m) : stkOk (os.foldl stkStep s) (m + os.length) := by
  induction os generalizing s m with
  | nil => simpa using h
  | cons o os ih =>
    have := ih hd.tail _ _ (stkStep_bd h hd.head.1 hd.head.2)
    rw [List.foldl_cons, List.length_cons]
    rw [show m + ((os.length + 1 : Nat) : Int) = m + 1 + (os.length : Int) from by omega]
    exact this
theorem stk_bd (os : List Int) (hd : Dig os) : stkOk (stk os) os.length := by
  have := stk_from os hd stk0 0 (by simp [stkOk, stk0])
  simpa [stk] using this
theorem gasOf_bd (os : List Int) (hd : Dig os) : 0 ≤ gasOf os ∧ gasOf os ≤ 32000 * os.length := by
  induction os with
  | nil => simp [gasOf]
  | cons o os ih =>
    have := ih hd.tail
    have := sg_bd o hd.head.1 hd.head.2
    simp only [gasOf, List.map_cons, List.sum_cons, List.length_cons, Int.natCast_add] at *
    omega

/-- 'does': no instruction finds too few words on a stack of the height. -/
def doesF : List Int → Int → Bool
  | [], _ => true
  | o :: os, h => if h < tk o then false else doesF os (h + (gv o - tk o))
/-- The words needed are the least that do. -/
theorem doesF_iff (os : List Int) (n : Int) (s : Stk) (hs : s.need ≤ n) : doesF os (n + s.height) = decide ((os.foldl stkStep s).need ≤ n) := by
  induction os generalizing s with
  | nil => simp [doesF, hs]
  | cons o os ih =>
    rw [doesF, List.foldl_cons]
    by_cases h : n + s.height < tk o
    · rw [if_pos h]
      have hmono : ∀ (os : List Int) (s : Stk), s.need ≤ (os.foldl stkStep s).need := by
        intro os
        induction os with
        | nil => intro s; exact Int.le_refl _
        | cons o os ih => intro s; rw [List.foldl_cons]; refine Int.le_trans ?_ (ih _); simp only [stkStep]; split <;> omega
      have h1 := hmono os (stkStep s o)
      have h2 : n < (stkStep s o).need := by simp only [stkStep]; split <;> omega
      rw [decide_eq_false (by omega)]
    · rw [if_neg h]
      have := ih (stkStep s o) (by simp only [stkStep]; split <;> omega)
      rw [← this]
      simp only [stkStep]
      congr 1
      omega
theorem doesF_need (os : List Int) (n : Int) (h0 : 0 ≤ n) : doesF os n = decide ((stk os).need ≤ n) := by
  have := doesF_iff os n stk0 h0
  rw [show n + stk0.height = n from by simp [stk0]] at this
  exact this
end Go.Proofs.Ygcsab.Cut
