/-
  WALKS: op.Imm (20), nat.trim (31).
-/
import Derived.Test.YgcsabProg
import Derived.Test.YgcsabDestPlain
import Derived.WalkKit
import Derived.Outline
namespace Go.Proofs.Ygcsab.Dest
open Go.RowKit
set_option linter.unusedVariables false
set_option linter.unusedSimpArgs false

theorem Imm_yes (o : Int) (w : World) (h1 : 95 < o) (h2 : o ≤ 127) :
    Calls Sabg.prog 20 #[.int .u8 o] w fun e w' => e = .returned (.int .u8 (o - 95)) ∧ w' = w := by
  go_enter Sabg.func20, Sabg.ntmps20
  go_wp2
  go_ret
  exact ⟨rfl, rfl⟩

theorem Imm_low (o : Int) (w : World) (h1 : o ≤ 95) (h0 : 0 ≤ o) :
    Calls Sabg.prog 20 #[.int .u8 o] w fun e w' => e = .returned (.int .u8 0) ∧ w' = w := by
  have hd : decide ((95 : Int) < o) = false := decide_eq_false (by omega)
  go_enter Sabg.func20, Sabg.ntmps20
  go_wp2
  go_ret
  exact ⟨rfl, rfl⟩

theorem Imm_high (o : Int) (w : World) (h1 : 127 < o) (h0 : o ≤ 255) :
    Calls Sabg.prog 20 #[.int .u8 o] w fun e w' => e = .returned (.int .u8 0) ∧ w' = w := by
  go_enter Sabg.func20, Sabg.ntmps20
  go_wp2
  go_ret
  exact ⟨rfl, rfl⟩

theorem Imm_any (o : Int) (w : World) (h0 : 0 ≤ o) (h1 : o ≤ 255) :
    Calls Sabg.prog 20 #[.int .u8 o] w fun e w' => e = .returned (.int .u8 (imm o)) ∧ w' = w := by
  by_cases h : 95 < o
  · by_cases h2 : o ≤ 127
    · rw [imm_yes h h2]; exact Imm_yes o w h h2
    · rw [imm_no (by omega)]; exact Imm_high o w (by omega) h1
  · rw [imm_no (by omega)]; exact Imm_low o w (by omega) h0

theorem trim_none (a : Option Addr) (cap : Nat) (hm : cap ≤ maxLen) (w : World) : Calls Sabg.prog 31 #[.slice a 0 cap] w fun e w' => e = .returned (.slice a 0 0) ∧ w' = w := by
  unfold maxLen at hm
  go_enter Sabg.func31, Sabg.ntmps31
  go_wp2
  go_loop [3] (fun k => k = .int .i64 0) (fun _ => 0)
  case atStart => rfl
  case round =>
    subst hrel
    go_wp2
    go_ret
    exact ⟨rfl, rfl⟩

set_option maxHeartbeats 400000 in
theorem trim_some (b off n cap : Nat) (ds : List Int) (w : World) (hn : ds.length = n) (hc : n ≤ cap) (hm : cap ≤ maxLen)
    (hcell : ∀ i, i < n → w.cell? ⟨b, off + i, none⟩ = some (.int .u8 (ds.getD i 0))) :
    Calls Sabg.prog 31 #[.slice (some ⟨b, off, none⟩) n cap] w fun e w' =>
      (∃ k, e = .returned (.slice (some ⟨b, off, none⟩) k k) ∧ Top ds n k) ∧ w' = w := by
  unfold maxLen at hm
  go_enter Sabg.func31, Sabg.ntmps31
  go_wp2
  go_loop [3] (fun kv => ∃ k : Nat, k ≤ n ∧ kv = .int .i64 k ∧ Hid (∀ j, k ≤ j → j < n → ds.getD j 0 = 0)) (fun kv => (intOf kv).toNat)
  case atStart => exact ⟨n, Nat.le_refl _, rfl, fun j h1 h2 => absurd h2 (by omega)⟩
  case round =>
    obtain ⟨k, hk, rfl, hz⟩ := hrel
    by_cases h0 : k = 0
    · subst h0
      go_wp2
      go_ret
      exact ⟨⟨0, rfl, Top.none ds n hz.out⟩, rfl⟩
    · obtain ⟨j, rfl⟩ : ∃ j, k = j + 1 := ⟨k - 1, by omega⟩
      have hcj := hcell j (by omega)
      clear hcell
      by_cases hd : ds.getD j 0 = 0
      · have hd' : (ds[j]?.getD 0 == 0) = true := by simpa using hd
        have HD : Hid (ds.getD j 0 = 0) := hd
        clear hd
        go_wp2
        go_round
        case rel =>
          refine ⟨j, by omega, rfl, fun i h1 h2 => ?_⟩
          by_cases hij : i = j
          · subst hij; exact HD.out
          · exact hz.out i (by omega) h2
        case measure => simp [intOf]
      · have hd' : (ds[j]?.getD 0 == 0) = false := by simpa using hd
        have HD : Hid (ds.getD j 0 ≠ 0) := hd
        clear hd
        go_wp2
        go_ret
        exact ⟨⟨j + 1, rfl, Top.start ds n j (by omega) hz.out HD.out⟩, rfl⟩

/-- A SLICE OF BYTES: its address, its numbers, its capacity. Of an empty one's address nothing is said. -/
def RowAt (w : World) (a : Option Addr) (ds : List Int) (cap : Nat) : Prop :=
  ds.length ≤ cap ∧ cap ≤ maxLen ∧ (0 < ds.length → ∃ b off, a = some ⟨b, off, none⟩ ∧ b < w.heap.size ∧ ∀ i, i < ds.length → w.cell? ⟨b, off + i, none⟩ = some (.int .u8 (ds.getD i 0)))
theorem RowAt.below {w w' : World} {a : Option Addr} {ds : List Int} {cap : Nat} (h : RowAt w a ds cap) (hb : Below w.heap.size w w') : RowAt w' a ds cap := by
  obtain ⟨h1, h2, h3⟩ := h
  refine ⟨h1, h2, fun hp => ?_⟩
  obtain ⟨b, off, ha, hlt, hc⟩ := h3 hp
  exact ⟨b, off, ha, Nat.lt_of_lt_of_le hlt hb.size, fun i hi => (hb.cell (p := ⟨b, off + i, none⟩) hlt).trans (hc i hi)⟩
theorem RowAt.take {w : World} {a : Option Addr} {ds : List Int} {cap k : Nat} (h : RowAt w a ds cap) (hk : k ≤ ds.length) : RowAt w a (ds.take k) k := by
  obtain ⟨h1, h2, h3⟩ := h
  refine ⟨by simp; omega, by omega, fun hp => ?_⟩
  simp at hp
  obtain ⟨b, off, ha, hlt, hc⟩ := h3 (by omega)
  refine ⟨b, off, ha, hlt, fun i hi => ?_⟩
  simp at hi
  rw [hc i (by omega)]
  have hik : i < k := by omega
  simp [List.getD, List.getElem?_take, hik]
theorem trim_any (a : Option Addr) (n cap : Nat) (ds : List Int) (w : World) (hn : ds.length = n) (h : RowAt w a ds cap) :
    Calls Sabg.prog 31 #[.slice a n cap] w fun e w' => (∃ k, e = .returned (.slice a k k) ∧ Top ds n k) ∧ w' = w := by
  subst hn
  obtain ⟨h1, h2, h3⟩ := h
  by_cases hp : 0 < ds.length
  · obtain ⟨b, off, rfl, _, hc⟩ := h3 hp
    exact trim_some b off ds.length cap ds w rfl h1 h2 hc
  · have e : ds = [] := List.length_eq_zero_iff.1 (by omega)
    subst e
    refine (trim_none a cap h2 w).mono ?_
    rintro e w' ⟨rfl, rfl⟩
    exact ⟨⟨0, rfl, Top.none _ _ (fun i _ hi => absurd hi (by simp))⟩, rfl⟩
/-- A number without zero digits at its top comes back whole. -/
theorem trim_can (a : Option Addr) (n cap : Nat) (ds : List Int) (w : World) (hn : ds.length = n) (h : RowAt w a ds cap) (hc : Can ds) :
    Calls Sabg.prog 31 #[.slice a n cap] w fun e w' => e = .returned (.slice a n n) ∧ w' = w := by
  refine (trim_any a n cap ds w hn h).mono ?_
  rintro e w' ⟨⟨k, rfl, ht⟩, rfl⟩
  subst hn
  rw [ht.whole hc]
  exact ⟨rfl, rfl⟩
end Go.Proofs.Ygcsab.Dest
