/-
  WALKS: (*code.Map).IsDest (10), law.destHolds (9).
-/
import Derived.Test.YgcsabDestScan
import Derived.Test.YgcsabDestWalked
import Derived.Laws.Pointers
namespace Go.Proofs.Ygcsab.Dest
open Go.RowKit
set_option linter.unusedVariables false
set_option linter.unusedSimpArgs false

theorem IsDest_far (g T : Nat) (w : World) (h : 512 ≤ T) (h2 : T ≤ 65535) :
    Calls Sabg.prog 10 #[.pointer (some ⟨g, 0, none⟩), .int .u16 T] w fun e w' => e = .returned (.bool false) ∧ w' = w := by
  have hd : decide ((T : Int) < 512) = false := decide_eq_false (by omega)
  go_enter Sabg.func10, Sabg.ntmps10
  go_wp2
  go_ret
  exact ⟨rfl, rfl⟩

set_option maxRecDepth 100000 in
theorem IsDest_near (g T : Nat) (t : TypeId) (ws : List Nat) (w : World) (h : T < 512) (hl : ws.length = 8) (hw : ∀ m ∈ ws, m < 2 ^ 64) (hB : Blk w g t (us ws)) :
    Calls Sabg.prog 10 #[.pointer (some ⟨g, 0, none⟩), .int .u16 T] w fun e w' => e = .returned (.bool ((ws.getD (T / 64) 0).testBit (T % 64))) ∧ w' = w := by
  have hcm := hB.cell (T / 64)
  rw [us_at ws _ (by rw [hl]; omega)] at hcm
  generalize hM : ws.getD (T / 64) 0 = mw at hcm
  have HM : Hid (ws.getD (T / 64) 0 = mw) := hM
  have HW : Hid (mw < 2 ^ 64) := by
    show mw < 2 ^ 64
    rw [← hM, natD_in _ _ (by omega)]; exact hw _ (List.getElem_mem _)
  clear hM hw
  go_enter Sabg.func10, Sabg.ntmps10
  go_wp2
  go_ret
  exact ⟨congrArg (fun b => Ending.returned (.bool b)) (bit_read mw (T % 64) HW.out), rfl⟩

theorem destHolds_short (a : Option Addr) (n cap : Nat) (l : List Int) (w : World) (hn : l.length = n) (hr : RowAt w a l cap) (hd : Dig l) (hs : n ≤ 512) (T : Nat) (hT : T ≤ 65535) (ws : List Nat) (hl : ws.length = 8) (d : Bool) (he : isD l 0 T = d) :
    Calls Sabg.prog 9 #[.slice a n cap, .int .u16 T, .agg (us ws).toArray, .bool d, .bool d] w fun e w' => e = .returned (.bool true) ∧ Below w.heap.size w w' := by
  have hd5 : decide ((512 : Int) < (n : Int)) = false := decide_eq_false (by omega)
  have HE : Hid (isD l 0 T = d) := he
  clear he
  go_enter Sabg.func9, Sabg.ntmps9
  go_wp2_with fail
  have hb : Below w.heap.size w (w.alloc (.cells (us ws).toArray 31)) := (Below.refl _ _).alloc (Nat.le_refl _) _
  refine (walked_any a n cap l _ hn (hr.below hb) hd T hT).mono ?_
  rintro e w1 ⟨rfl, rfl⟩
  rw [HE.out]
  cases d
  all_goals
    go_wp2
    go_ret
    exact ⟨rfl, hb⟩

theorem eq8 (w : World) : (Op.equalIn 10000 31 (.agg #[.int .u64 0, .int .u64 0, .int .u64 0, .int .u64 0, .int .u64 0, .int .u64 0, .int .u64 0, .int .u64 0])
    (.agg #[.int .u64 0, .int .u64 0, .int .u64 0, .int .u64 0, .int .u64 0, .int .u64 0, .int .u64 0, .int .u64 0])).run Sabg.prog w = .ok true w := by kernel_rfl

theorem destHolds_long (a : Option Addr) (n cap : Nat) (l : List Int) (w : World) (hn : l.length = n) (hr : RowAt w a l cap) (hd : Dig l) (hs : 512 < n) (T : Nat) (hT : T ≤ 65535) (d : Bool) (he : isD l 0 T = d) :
    Calls Sabg.prog 9 #[.slice a n cap, .int .u16 T, .agg (us zero8).toArray, .bool false, .bool d] w fun e w' => e = .returned (.bool true) ∧ Below w.heap.size w w' := by
  have hm : n ≤ maxLen := by have := hr.1; have := hr.2.1; omega
  unfold maxLen at hm
  have HE : Hid (isD l 0 T = d) := he
  clear he
  have e8 : (us zero8).toArray = #[.int .u64 0, .int .u64 0, .int .u64 0, .int .u64 0, .int .u64 0, .int .u64 0, .int .u64 0, .int .u64 0] := rfl
  rw [e8]
  clear e8
  have h8 := eq8
  go_enter Sabg.func9, Sabg.ntmps9
  go_wp2_with fail
  have hb : Below w.heap.size w (w.alloc (.cells #[.int .u64 0, .int .u64 0, .int .u64 0, .int .u64 0, .int .u64 0, .int .u64 0, .int .u64 0, .int .u64 0] 31)) := (Below.refl _ _).alloc (Nat.le_refl _) _
  refine (walked_any a n cap l _ hn (hr.below hb) hd T hT).mono ?_
  rintro e w1 ⟨rfl, rfl⟩
  rw [HE.out]
  cases d
  all_goals
    go_wp2
    go_ret
    exact ⟨rfl, hb⟩
end Go.Proofs.Ygcsab.Dest
