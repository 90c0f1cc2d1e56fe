/-
  WALKS: law.copyBytes (7), law.equalBytes (13).
-/
import Derived.Test.YgcsabDestNat3
import Derived.Laws.BytesString
import Derived.Lib.SliceRun
namespace Go.Proofs.Ygcsab.Cut
open Go.RowKit Go.Proofs.Ygcsab.Dest
set_option linter.unusedVariables false
set_option linter.unusedSimpArgs false

def strOf (l : List Int) : ByteArray := l.foldl (fun r n => r.push (UInt8.ofNat n.toNat)) ByteArray.empty
theorem conv_row (w : World) (a : Option Addr) (l : List Int) (n cap : Nat) (hn : l.length = n) (hr : RowAt w a l cap) : (convert 22 9 (.slice a n cap)).run Sabg.prog w = .ok (.string (strOf l)) w := by
  rw [run_convert_bytes_string w 22 9 5 a n cap Sabg.underlying22 Sabg.underlying5 Sabg.underlying9]
  subst hn
  by_cases hp : 0 < l.length
  · obtain ⟨b, off, rfl, _, hc⟩ := hr.2.2 hp
    refine run_bytesToString w _ _ _ l ?_
    have := run_loadCells_list (P := Sabg.prog) w ⟨b, off, none⟩ (bs l) (fun j v hj => by
      have hjn : j < l.length := by have := (List.getElem?_eq_some_iff.1 hj).1; rwa [bs_len] at this
      rw [Addr.add_lit, hc j hjn, ← bs_at l j hjn, hj])
    rw [bs_len] at this
    exact this
  · obtain rfl : l = [] := List.length_eq_zero_iff.1 (by omega)
    cases a with
    | none => rfl
    | some x =>
      exact run_bytesToString w x 0 cap [] (run_loadCells_list (P := Sabg.prog) w x [] (fun j v hj => by simp at hj))

theorem equalBytes_same (a a2 : Option Addr) (n cap n2 cap2 : Nat) (l : List Int) (w : World) (hn : l.length = n) (hr : RowAt w a l cap) (hn2 : l.length = n2) (hr2 : RowAt w a2 l cap2) :
    Calls Sabg.prog 13 #[.slice a n cap, .slice a2 n2 cap2] w fun e w' => e = .returned (.bool true) ∧ w' = w := by
  have h1 := conv_row w a l n cap hn hr
  have h2 := conv_row w a2 l n2 cap2 hn2 hr2
  generalize strOf l = S at h1 h2
  go_enter Sabg.func13, Sabg.ntmps13
  go_wp2
  go_ret
  exact ⟨rfl, rfl⟩

theorem copyBytes_nil (cap : Nat) (n : Nat) (w : World) : Calls Sabg.prog 7 #[.slice none n cap] w fun e w' => e = .returned (.slice none 0 0) ∧ w' = w := by
  have he := fun (w : World) (n c : Nat) => Lib.run_eql_slice_nil w 22 5 none n c 0 0 Sabg.underlying22
  go_enter Sabg.func7, Sabg.ntmps7
  go_wp2
  go_ret
  exact ⟨rfl, rfl⟩

set_option maxHeartbeats 400000 in
theorem copyBytes_some (x : Addr) (n cap : Nat) (l : List Int) (w : World) (hn : l.length = n) (hr : RowAt w (some x) l cap) (hs : n ≤ 140737488355328) :
    Calls Sabg.prog 7 #[.slice (some x) n cap] w fun e w' => (∃ a', e = .returned (.slice a' n n) ∧ RowAt w' a' l n) ∧ Below w.heap.size w w' := by
  have he := fun (w : World) (n c : Nat) => Lib.run_eql_slice_nil w 22 5 (some x) n c 0 0 Sabg.underlying22
  have hml : n ≤ maxLen := by unfold maxLen; omega
  by_cases hp : 0 < l.length
  · obtain ⟨b, off, hx, hlt, hc⟩ := hr.2.2 hp
    obtain rfl : x = ⟨b, off, none⟩ := Option.some.inj hx
    clear hx
    go_enter Sabg.func7, Sabg.ntmps7
    go_wp2_with (at_make; refine wpList_make_blk _ rfl _ _ 22 rfl 5 (.int .u8 0) 1 Sabg.underlying22 info5 rfl .i64 .i64 n n n rfl rfl rfl rfl (by omega) hml ?_)
    intro w1 hb1 hbel1 hsz1
    go_wp2_with (refine wpList_copy_blk rfl (.tmp 9) (.tmp 10) 22 22 rfl 5 Sabg.underlying22 size5 w.heap.size b off n n cap rfl rfl (List.replicate n (.int .u8 0)) 5 hb1 (bs l) ?_ ?_ ?_ ?_ ?_)
    · simp
    · rw [bs_len]; exact hn
    · intro j hj
      rw [hbel1.cell (p := ⟨b, off + j, none⟩) hlt, hc j (by omega), bs_at l j (by omega)]
    · exact ints_oneCell _ _
    · intro w2 hb2 hbel2 hsz2
      go_wp2
      go_ret
      refine ⟨⟨some ⟨w.heap.size, 0, none⟩, rfl, ?_⟩, hbel1.trans hbel2⟩
      have := rowAt_blk hb2 (by omega)
      rw [hn] at this
      exact this
  · obtain rfl : n = 0 := by omega
    go_enter Sabg.func7, Sabg.ntmps7
    go_wp2_with (at_make; refine wpList_make_blk _ rfl _ _ 22 rfl 5 (.int .u8 0) 1 Sabg.underlying22 info5 rfl .i64 .i64 0 0 0 rfl rfl rfl rfl (by omega) hml ?_)
    intro w1 hb1 hbel1 hsz1
    go_wp2_with (refine wpList_copy_nothing rfl (.tmp 9) (.tmp 10) 22 22 rfl 5 Sabg.underlying22 size5 _ _ 0 0 0 cap rfl rfl (by simp) ?_)
    go_ret
    exact ⟨⟨_, rfl, ⟨by omega, by omega, fun h => absurd h hp⟩⟩, hbel1⟩

theorem copyBytes_any (a : Option Addr) (n cap : Nat) (l : List Int) (w : World) (hn : l.length = n) (hr : RowAt w a l cap) (hs : n ≤ 140737488355328) :
    Calls Sabg.prog 7 #[.slice a n cap] w fun e w' => (∃ a', e = .returned (.slice a' n n) ∧ RowAt w' a' l n) ∧ Below w.heap.size w w' := by
  cases a with
  | none =>
    have h0 : l.length = 0 := by
      by_cases hp : 0 < l.length
      · obtain ⟨b, off, hx, _⟩ := hr.2.2 hp
        cases hx
      · omega
    obtain rfl : n = 0 := by omega
    refine (copyBytes_nil cap 0 w).mono ?_
    rintro e w' ⟨rfl, rfl⟩
    exact ⟨⟨none, rfl, ⟨by omega, Nat.zero_le _, fun h => absurd h (by omega)⟩⟩, Below.refl _ _⟩
  | some x => exact copyBytes_some x n cap l w hn hr hs
end Go.Proofs.Ygcsab.Cut
