/-
  WALK: block.New (6), its head: the Cut is laid.
-/
import Derived.Test.YgcsabCutAdd
import Derived.Test.YgcsabCutDone
import Derived.Test.YgcsabCutInfo2
import Derived.Test.YgcsabCutSmall
import Derived.Laws.AppendOwnNone
import Derived.Great.Walk
import Derived.Deep.LoopGhost
namespace Go.Proofs.Ygcsab.Cut
open Go.RowKit Go.Great Go.Proofs.Ygcsab.Dest
set_option linter.unusedVariables false
set_option linter.unusedSimpArgs false

set_option maxRecDepth 100000 in
theorem build43 (ca : Option Addr) (n cc : Nat) (w : World) : (Instr.build 43 #[(0, .slice ca n cc)]).run Sabg.prog w = .ok (.agg (cutC (.slice ca n cc) (.slice none 0 0) (zeros 512)).toArray) w := by kernel_rfl

/-- 'append([]byte(nil), code...)': a copy. -/
theorem wpList_append_copy {w : World} {ops : Array Oper} {rest : List Oper} {o : Oper} {act : Act} {Q : Exit → Act → World → Prop} (hgd : o.guard = none) (x : Operand)
    (ho : o.op = .call { callee := .builtin .append, args := #[.const (.slice none 0 0), x], argTypes := #[22, 22] }) (a : Option Addr) (n cap : Nat) (l : List Int) (hx : act.eval x = .slice a n cap) (hn : l.length = n) (hr : RowAt w a l cap)
    (hcap : a = none → cap = 0) (hb : n ≤ 140737488355328)
    (h : ∀ ca cc w1, RowAt w1 ca l cc → Below w.heap.size w w1 → wpList Sabg.prog ops Q rest (act.put o.dst (.slice ca n cc)) w1) : wpList Sabg.prog ops Q (o :: rest) act w := by
  obtain ⟨i0, hi, hz0, hz1, hz2⟩ := info_parts info5
  have hnil := World.ownsRow_nil w w.heap.size 5 1
  cases a with
  | none =>
    have h0 : n = 0 := by
      by_cases hp : 0 < l.length
      · obtain ⟨_, _, hx, _⟩ := hr.2.2 hp
        cases hx
      · omega
    subst h0
    obtain rfl := hcap rfl
    refine wpList_append_own_none hgd _ _ 22 ho w.heap.size 5 i0 1 Sabg.underlying22 hi _ 0 [] rfl hnil hx ?_
    exact h none 0 w ⟨by omega, Nat.zero_le _, fun hp => absurd hp (by omega)⟩ (Below.refl _ _)
  | some ad =>
    refine wpList_append_own w hgd _ _ 22 ho w.heap.size 5 i0 (.int .u8 0) 1 1 Sabg.underlying22 hi hz0 hz1 hz2 rfl (by decide) _ 0 [] rfl hnil ad n cap (bs l) hx (by rw [bs_len, hn, Nat.mul_one]) ?_ (ints_oneCell _ _) (by unfold maxLen; omega) (by omega) (Nat.le_refl _) ?_
    · intro j u hj
      have hjn : j < l.length := by have := (List.getElem?_eq_some_iff.1 hj).1; rwa [bs_len] at this
      obtain ⟨b, off, hx, _, hc⟩ := hr.2.2 (by omega)
      obtain rfl := Option.some.inj hx
      rw [Addr.add_lit, hc j hjn, ← bs_at l j hjn, hj]
    · intro v' w1 hown hgrow _
      rw [Nat.zero_add, List.nil_append] at hown
      obtain ⟨ca, cc, rfl, hrow⟩ := rowAt_own hown
      exact h ca cc w1 hrow ((Below.refl _ _).grown hgrow (Nat.le_refl _) (fun k hk => by cases hk))

set_option maxRecDepth 100000 in
set_option maxHeartbeats 1000000 in
theorem New_long (a : Option Addr) (n cap : Nat) (l : List Int) (w : World) (hn : l.length = n) (hr : RowAt w a l cap) (hcap : a = none → cap = 0) (hs : 512 < n) (hb : n ≤ 140737488355328) :
    Calls Sabg.prog 6 #[.slice a n cap] w fun e w' => ∃ g ca cc, e = .returned (.pointer (some ⟨g, 0, none⟩)) ∧ Blk w' g 43 (cutC (.slice ca n cc) (.slice none 0 0) (zeros 512)) ∧ RowAt w' ca l cc ∧ Below w.heap.size w w' := by
  go_enter Sabg.func6, Sabg.ntmps6
  go_wp2_with (at_builtin; refine wpList_append_copy rfl _ rfl a n cap l rfl hn hr hcap hb ?_)
  intro ca cc w1 hrow hb1
  go_wp2_with (first
    | (refine wpList_runTo rfl (some 16) rfl (.agg (cutC (.slice ca n cc) (.slice none 0 0) (zeros 512)).toArray) w1 (by kernel_rfl) ?_)
    | (refine wpList_runTo rfl (some 17) rfl (.pointer (some ⟨w1.heap.size, 0, none⟩)) (w1.alloc (.cells (cutC (.slice ca n cc) (.slice none 0 0) (zeros 512)).toArray 43)) (by kernel_rfl) ?_))
  go_ret
  exact ⟨w1.heap.size, ca, cc, rfl, Blk.new w1 _ 43, hrow.below ((Below.refl _ _).alloc (Nat.le_refl _) _), hb1.trans (((Below.refl _ _).alloc (Nat.le_refl _) _).mono hb1.size)⟩
end Go.Proofs.Ygcsab.Cut
