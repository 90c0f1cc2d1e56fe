/-
  WALK: law.walked (21).
-/
import Derived.Test.YgcsabDestNat1
namespace Go.Proofs.Ygcsab.Dest
open Go.RowKit
set_option linter.unusedVariables false
set_option linter.unusedSimpArgs false

set_option maxHeartbeats 1000000 in
theorem walked_any (a : Option Addr) (n cap : Nat) (l : List Int) (w : World) (hn : l.length = n) (hr : RowAt w a l cap) (hd : Dig l) (T : Nat) (hT : T ≤ 65535) :
    Calls Sabg.prog 21 #[.slice a n cap, .int .i64 T] w fun e w' => e = .returned (.bool (isD l 0 T)) ∧ w' = w := by
  have hm : n ≤ maxLen := by have := hr.1; have := hr.2.1; omega
  unfold maxLen at hm
  have HR : Hid (RowAt w a l cap) := hr
  have HN : Hid (l.length = n) := hn
  clear hr hn
  go_enter Sabg.func21, Sabg.ntmps21
  go_wp2
  go_loop [5, 6, 11] (fun s g i => ∃ (k sk : Nat) (gb : Bool), k ≤ n ∧ i = .int .i64 k ∧ s = .int .i64 sk ∧ sk ≤ 32 ∧ g = .bool gb ∧ Hid (Pass l T k sk gb)) (fun _ _ i => n - (intOf i).toNat)
  case atStart => exact ⟨0, 0, false, by omega, rfl, rfl, by omega, rfl, Pass.zero _ _⟩
  case round =>
    obtain ⟨k, sk, gb, hk, rfl, rfl, hsk, rfl, hP⟩ := hrel
    by_cases hkn : k < n
    · have hrow := HR.out.2.2 (by rw [HN.out]; omega)
      obtain ⟨b, off, rfl, hlt, hcs⟩ := hrow
      have hcx := hcs k (by rw [HN.out]; exact hkn)
      have hxb := hd.getD k
      generalize hX : l.getD k 0 = x at hcx hxb
      have HX : Hid (l.getD k 0 = x) := hX
      clear hX hcs
      have hkl : k < l.length := by rw [HN.out]; exact hkn
      by_cases hs0 : sk = 0
      · subst hs0
        by_cases hpush : 96 ≤ x ∧ x ≤ 127
        · obtain ⟨p1, p2⟩ := hpush
          have hiy := imm_yes (o := x) (by omega) p2
          have HI : Hid ((imm x : Int) = x - 95) := hiy
          clear hiy
          have him := imm_le x
          by_cases hkT : k = T
          · subst hkT
            go_wp2
            go_round
            case rel => exact ⟨k + 1, imm x, (x == 91), by omega, by go_num, by rw [HI.out], him, rfl, by have := hP.out.hit hkl; rw [HX.out] at this; exact this⟩
            case measure => simp [intOf]; omega
          · have hkT' : ((k : Int) == (T : Int)) = false := by simp; omega
            go_wp2
            go_round
            case rel => exact ⟨k + 1, imm x, gb, by omega, by go_num, by rw [HI.out], him, rfl, by have := hP.out.step hkl hkT; rw [HX.out] at this; exact this⟩
            case measure => simp [intOf]; omega
        · have hin := imm_no (o := x) (by omega)
          have HI : Hid (imm x = 0) := hin
          clear hin
          by_cases hlow : x < 96
          · have hd : decide ((96 : Int) ≤ x) = false := decide_eq_false (by omega)
            by_cases hkT : k = T
            · subst hkT
              go_wp2
              go_round
              case rel => exact ⟨k + 1, imm x, (x == 91), by omega, by go_num, by rw [HI.out]; try rfl, by rw [HI.out]; omega, rfl, by have := hP.out.hit hkl; rw [HX.out] at this; exact this⟩
              case measure => simp [intOf]; omega
            · have hkT' : ((k : Int) == (T : Int)) = false := by simp; omega
              go_wp2
              go_round
              case rel => exact ⟨k + 1, imm x, gb, by omega, by go_num, by rw [HI.out]; try rfl, by rw [HI.out]; omega, rfl, by have := hP.out.step hkl hkT; rw [HX.out] at this; exact this⟩
              case measure => simp [intOf]; omega
          · have hhi : 127 < x := by omega
            by_cases hkT : k = T
            · subst hkT
              go_wp2
              go_round
              case rel => exact ⟨k + 1, imm x, (x == 91), by omega, by go_num, by rw [HI.out]; try rfl, by rw [HI.out]; omega, rfl, by have := hP.out.hit hkl; rw [HX.out] at this; exact this⟩
              case measure => simp [intOf]; omega
            · have hkT' : ((k : Int) == (T : Int)) = false := by simp; omega
              go_wp2
              go_round
              case rel => exact ⟨k + 1, imm x, gb, by omega, by go_num, by rw [HI.out]; try rfl, by rw [HI.out]; omega, rfl, by have := hP.out.step hkl hkT; rw [HX.out] at this; exact this⟩
              case measure => simp [intOf]; omega
      · obtain ⟨s, rfl⟩ : ∃ s, sk = s + 1 := ⟨sk - 1, by omega⟩
        go_wp2
        go_round
        case rel => exact ⟨k + 1, s, gb, by omega, by go_num, by go_num, by omega, rfl, hP.out.skip hkl⟩
        case measure => simp [intOf]; omega
    · obtain rfl : k = n := by omega
      go_wp2
      go_ret
      have hP' := hP.out
      rw [← HN.out] at hP'
      rw [hP'.done]
      exact ⟨rfl, rfl⟩
end Go.Proofs.Ygcsab.Dest
