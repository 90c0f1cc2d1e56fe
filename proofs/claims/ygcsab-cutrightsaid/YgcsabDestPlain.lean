/-
  PLAIN LAWS FOR 'DestSame': no Go in sight. The walk over a code's bytes that skips immediates; numbers to the base 256.
-/
namespace Go.Proofs.Ygcsab.Dest

/-- The number of immediate bytes behind o. -/
def imm (o : Int) : Nat := if 95 < o ∧ o ≤ 127 then (o - 95).toNat else 0

theorem imm_le (o : Int) : imm o ≤ 32 := by unfold imm; split <;> omega
theorem imm_yes {o : Int} (h : 95 < o) (h2 : o ≤ 127) : (imm o : Int) = o - 95 := by unfold imm; rw [if_pos ⟨h, h2⟩]; omega
theorem imm_no {o : Int} (h : ¬ (95 < o ∧ o ≤ 127)) : imm o = 0 := by unfold imm; rw [if_neg h]

/-- Does a walk over the code, with 'skip' bytes still to be passed over, come to a JUMPDEST at offset 'at'? -/
def isD : List Int → Nat → Nat → Bool
  | [], _, _ => false
  | _ :: _, _ + 1, 0 => false
  | _ :: r, s + 1, a + 1 => isD r s a
  | o :: _, 0, 0 => o == 91
  | o :: r, 0, a + 1 => isD r (imm o) a

theorem isD_nil (s a : Nat) : isD [] s a = false := by simp [isD]

theorem isD_skip (l : List Int) (s a : Nat) : isD l s a = if s ≤ a then isD (l.drop s) 0 (a - s) else false := by
  induction l generalizing s a with
  | nil => simp [isD]
  | cons o r ih =>
    match s, a with
    | 0, a => simp
    | s + 1, 0 => simp [isD]
    | s + 1, a + 1 =>
      rw [isD, ih]
      simp

theorem drop_cons (l : List Int) (i : Nat) (h : i < l.length) : l.drop i = l.getD i 0 :: l.drop (i + 1) := by
  rw [List.drop_eq_getElem_cons h]
  simp [List.getD, h]

/-- One byte more, none to be passed over. -/
theorem isD_here (l : List Int) (i : Nat) (h : i < l.length) : isD (l.drop i) 0 0 = (l.getD i 0 == 91) := by
  rw [drop_cons l i h, isD]
theorem isD_next (l : List Int) (i a : Nat) (h : i < l.length) : isD (l.drop i) 0 (a + 1) = isD (l.drop (i + 1)) (imm (l.getD i 0)) a := by
  rw [drop_cons l i h, isD]
theorem isD_pass (l : List Int) (i s a : Nat) (h : i < l.length) : isD (l.drop i) (s + 1) (a + 1) = isD (l.drop (i + 1)) s a := by
  rw [drop_cons l i h, isD]
theorem isD_pass0 (l : List Int) (i s : Nat) (h : i < l.length) : isD (l.drop i) (s + 1) 0 = false := by
  rw [drop_cons l i h, isD]
theorem isD_past (l : List Int) (i s a : Nat) (h : l.length ≤ i) : isD (l.drop i) s a = false := by
  rw [List.drop_eq_nil_of_le h, isD_nil]

/-- From one instruction to the next: beyond i. -/
theorem isD_jump (l : List Int) (i p : Nat) (h : i < l.length) (hp : i < p) :
    isD (l.drop i) 0 (p - i) = if i + 1 + imm (l.getD i 0) ≤ p then isD (l.drop (i + 1 + imm (l.getD i 0))) 0 (p - (i + 1 + imm (l.getD i 0))) else false := by
  obtain ⟨a, rfl⟩ : ∃ a, p = i + (a + 1) := ⟨p - i - 1, by omega⟩
  rw [show i + (a + 1) - i = a + 1 from by omega, isD_next l i a h, isD_skip, List.drop_drop]
  by_cases hc : imm (l.getD i 0) ≤ a
  · rw [if_pos hc, if_pos (by omega)]
    congr 1
    omega
  · rw [if_neg hc, if_neg (by omega)]

/-- 'The walk stands at i': from there on it goes as from the start. -/
def At (l : List Int) (i : Nat) : Prop := ∀ p, i ≤ p → isD l 0 p = isD (l.drop i) 0 (p - i)
theorem At.zero (l : List Int) : At l 0 := fun p _ => by simp
theorem At.here {l : List Int} {i : Nat} (h : At l i) (hi : i < l.length) : isD l 0 i = (l.getD i 0 == 91) := by
  rw [h i (Nat.le_refl _), Nat.sub_self, isD_here l i hi]
theorem At.next {l : List Int} {i : Nat} (h : At l i) (hi : i < l.length) : At l (i + 1 + imm (l.getD i 0)) := fun p hp => by
  rw [h p (by omega), isD_jump l i p hi (by omega), if_pos hp]
theorem At.between {l : List Int} {i p : Nat} (h : At l i) (hi : i < l.length) (h1 : i < p) (h2 : p < i + 1 + imm (l.getD i 0)) : isD l 0 p = false := by
  rw [h p (by omega), isD_jump l i p hi h1, if_neg (by omega)]
theorem At.past {l : List Int} {i p : Nat} (h : At l i) (hi : l.length ≤ i) (h1 : i ≤ p) : isD l 0 p = false := by
  rw [h p h1, isD_past l i _ _ hi]
theorem isD_len (l : List Int) (s p : Nat) (h : l.length ≤ p) : isD l s p = false := by
  induction l generalizing s p with
  | nil => exact isD_nil _ _
  | cons o r ih =>
    simp at h
    match s, p, h with
    | s + 1, p + 1, h => rw [isD]; exact ih _ _ (by omega)
    | 0, p + 1, h => rw [isD]; exact ih _ _ (by omega)

/-! ### yp.IsDest's loop: the place is i; 'at' has not been met. -/
def Seek (l : List Int) (at_ i : Nat) : Prop := At l i ∧ (at_ < i → isD l 0 at_ = false)
theorem Seek.zero (l : List Int) (a : Nat) : Seek l a 0 := ⟨At.zero l, fun h => absurd h (by omega)⟩
theorem Seek.next {l : List Int} {a i : Nat} (h : Seek l a i) (hi : i < l.length) (hne : i ≠ a) : Seek l a (i + 1 + imm (l.getD i 0)) := by
  refine ⟨h.1.next hi, fun hlt => ?_⟩
  by_cases hc : a < i
  · exact h.2 hc
  · exact h.1.between hi (by omega) hlt
theorem Seek.done {l : List Int} {a i : Nat} (h : Seek l a i) (hi : l.length ≤ i) : isD l 0 a = false := by
  by_cases hc : a < i
  · exact h.2 hc
  · exact h.1.past hi (by omega)

/-! ### law.walked's loop -/
def Pass (l : List Int) (a k s : Nat) (g : Bool) : Prop := (k ≤ a → g = false ∧ isD l 0 a = isD (l.drop k) s (a - k)) ∧ (a < k → g = isD l 0 a)
theorem Pass.zero (l : List Int) (a : Nat) : Pass l a 0 0 false := ⟨fun _ => ⟨rfl, by simp⟩, fun h => absurd h (by omega)⟩
theorem Pass.skip {l : List Int} {a k s : Nat} {g : Bool} (h : Pass l a k (s + 1) g) (hk : k < l.length) : Pass l a (k + 1) s g := by
  obtain ⟨h1, h2⟩ := h
  refine ⟨fun hle => ?_, fun hlt => ?_⟩
  · obtain ⟨hg, e⟩ := h1 (by omega)
    refine ⟨hg, ?_⟩
    rw [e, show a - k = (a - (k + 1)) + 1 from by omega, isD_pass l k s _ hk]
  · by_cases hc : a < k
    · exact h2 hc
    · obtain ⟨hg, e⟩ := h1 (by omega)
      rw [hg, e, show a - k = 0 from by omega, isD_pass0 l k s hk]
theorem Pass.step {l : List Int} {a k : Nat} {g : Bool} (h : Pass l a k 0 g) (hk : k < l.length) (hne : k ≠ a) : Pass l a (k + 1) (imm (l.getD k 0)) g := by
  obtain ⟨h1, h2⟩ := h
  refine ⟨fun hle => ?_, fun hlt => ?_⟩
  · obtain ⟨hg, e⟩ := h1 (by omega)
    refine ⟨hg, ?_⟩
    rw [e, show a - k = (a - (k + 1)) + 1 from by omega, isD_next l k _ hk]
  · exact h2 (by omega)
theorem Pass.hit {l : List Int} {a : Nat} {g : Bool} (h : Pass l a a 0 g) (hk : a < l.length) : Pass l a (a + 1) (imm (l.getD a 0)) (l.getD a 0 == 91) := by
  obtain ⟨h1, _⟩ := h
  refine ⟨fun hle => absurd hle (by omega), fun _ => ?_⟩
  obtain ⟨_, e⟩ := h1 (Nat.le_refl _)
  rw [e, Nat.sub_self, isD_here l a hk]
theorem Pass.done {l : List Int} {a s : Nat} {g : Bool} (h : Pass l a l.length s g) : g = isD l 0 a := by
  by_cases hc : a < l.length
  · exact h.2 hc
  · obtain ⟨hg, _⟩ := h.1 (by omega)
    rw [hg, isD_len l 0 a (by omega)]

/-! ### Numbers to the base 256 -/
def val : List Int → Int
  | [] => 0
  | d :: r => d + 256 * val r
def Dig (l : List Int) : Prop := ∀ d ∈ l, 0 ≤ d ∧ d ≤ 255
theorem getD_in (l : List Int) (k : Nat) (h : k < l.length) : l.getD k 0 = l[k] := by simp [List.getD, h]
/-- No zero digit at the top. -/
def Can (l : List Int) : Prop := ∀ k, l.length = k + 1 → l.getD k 0 ≠ 0

theorem Dig.tail {d : Int} {r : List Int} (h : Dig (d :: r)) : Dig r := fun x hx => h x (List.mem_cons_of_mem _ hx)
theorem Dig.head {d : Int} {r : List Int} (h : Dig (d :: r)) : 0 ≤ d ∧ d ≤ 255 := h d List.mem_cons_self
theorem Can.tail {d : Int} {r : List Int} (h : Can (d :: r)) : Can r := fun k hk => by
  have := h (k + 1) (by simp [hk])
  simpa using this
theorem Dig.getD {l : List Int} (h : Dig l) (k : Nat) : 0 ≤ l.getD k 0 ∧ l.getD k 0 ≤ 255 := by
  by_cases hk : k < l.length
  · rw [getD_in l k hk]; exact h _ (List.getElem_mem hk)
  · simp [List.getD, List.getElem?_eq_none (Nat.le_of_not_lt hk)]
theorem Dig.take {l : List Int} (h : Dig l) (k : Nat) : Dig (l.take k) := fun d hd => h d (List.mem_of_mem_take hd)
theorem Dig.nil : Dig [] := fun _ h => by simp at h
theorem Can.nil : Can [] := fun _ h => by simp at h

theorem val_nonneg {l : List Int} (h : Dig l) : 0 ≤ val l := by
  induction l with
  | nil => simp [val]
  | cons d r ih => have := ih h.tail; have := h.head; simp only [val]; omega
theorem val_pos {l : List Int} (h : Dig l) (hc : Can l) (hne : l ≠ []) : 0 < val l := by
  induction l with
  | nil => exact absurd rfl hne
  | cons d r ih =>
    have hd := h.head
    by_cases hr : r = []
    · subst hr
      have := hc 0 rfl
      simp at this
      simp only [val]; omega
    · have := ih h.tail hc.tail hr
      simp only [val]; omega
theorem val_inj {a b : List Int} (ha : Dig a) (hb : Dig b) (ca : Can a) (cb : Can b) (h : val a = val b) : a = b := by
  induction a generalizing b with
  | nil =>
    by_cases hne : b = []
    · exact hne.symm
    · have := val_pos hb cb hne; simp only [val] at h; omega
  | cons d r ih =>
    cases b with
    | nil => have := val_pos ha ca (by simp); simp only [val] at h this; omega
    | cons e s =>
      simp only [val] at h
      have hd := ha.head
      have he := hb.head
      have h1 : d = e := by omega
      have h2 : val r = val s := by omega
      rw [h1, ih ha.tail hb.tail ca.tail cb.tail h2]

theorem val_append (a b : List Int) : val (a ++ b) = val a + 256 ^ a.length * val b := by
  induction a with
  | nil => simp [val]
  | cons d r ih =>
    simp only [List.cons_append, val, ih, List.length_cons]
    rw [Int.pow_succ, Int.mul_add, ← Int.mul_assoc, Int.mul_comm 256 (256 ^ r.length), Int.add_assoc]
theorem val_zeros {l : List Int} (h : ∀ d ∈ l, d = 0) : val l = 0 := by
  induction l with
  | nil => rfl
  | cons d r ih =>
    simp only [val]
    rw [ih (fun x hx => h x (List.mem_cons_of_mem _ hx)), h d List.mem_cons_self]
    rfl
/-- Zero digits at the top may be cut. -/
theorem val_take {l : List Int} {k : Nat} (h : ∀ j, k ≤ j → j < l.length → l.getD j 0 = 0) : val (l.take k) = val l := by
  have e := val_append (l.take k) (l.drop k)
  rw [List.take_append_drop] at e
  have z : val (l.drop k) = 0 := by
    refine val_zeros fun d hd => ?_
    obtain ⟨i, hi, rfl⟩ := List.mem_iff_getElem.1 hd
    simp at hi
    have := h (k + i) (by omega) (by omega)
    rw [getD_in _ _ (by omega)] at this
    rw [List.getElem_drop]; exact this
  rw [z] at e
  omega
theorem can_take {l : List Int} {k : Nat} (hk : k ≤ l.length) (h : ∀ j, k = j + 1 → l.getD j 0 ≠ 0) : Can (l.take k) := fun j hj => by
  have hk' : k = j + 1 := by simp at hj; omega
  have := h j hk'
  rw [getD_in _ _ (by omega)] at this
  rw [getD_in _ _ (by simp; omega), List.getElem_take]
  exact this
/-- 'k is where the zero digits at the top begin'. -/
def Top (l : List Int) (n k : Nat) : Prop := k ≤ n ∧ (∀ j, k = j + 1 → l.getD j 0 ≠ 0) ∧ ∀ j, k ≤ j → j < n → l.getD j 0 = 0
theorem Top.start (l : List Int) (n j : Nat) (h : j + 1 ≤ n) (hz : ∀ i, j + 1 ≤ i → i < n → l.getD i 0 = 0) (hj : l.getD j 0 ≠ 0) : Top l n (j + 1) :=
  ⟨h, fun i hi => by obtain rfl : i = j := by omega
                     exact hj, hz⟩
theorem Top.none (l : List Int) (n : Nat) (hz : ∀ i, 0 ≤ i → i < n → l.getD i 0 = 0) : Top l n 0 := ⟨Nat.zero_le _, fun i hi => by omega, hz⟩
theorem Top.val {l : List Int} {k : Nat} (h : Top l l.length k) : val (l.take k) = val l := val_take h.2.2
theorem Top.can {l : List Int} {k : Nat} (h : Top l l.length k) : Can (l.take k) := can_take h.1 h.2.1
/-- A number that has no zero digit at its top is not cut. -/
theorem Top.whole {l : List Int} {k : Nat} (h : Top l l.length k) (hc : Can l) : k = l.length := by
  obtain ⟨h1, _, h3⟩ := h
  by_cases hk : k = l.length
  · exact hk
  · exact absurd (h3 (l.length - 1) (by omega) (by omega)) (hc (l.length - 1) (by omega))
end Go.Proofs.Ygcsab.Dest
