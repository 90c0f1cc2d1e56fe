/-
  WALK: law.does (28).
-/
import Derived.Test.YgcsabCutSmall
import Derived.Test.YgcsabCutPlain
import Derived.Test.YgcsabDestNat1
import Derived.Deep.RegionHeld3
namespace Go.Proofs.Ygcsab.Cut
open Go.RowKit Go.Great Go.Proofs.Ygcsab.Dest
set_option linter.unusedVariables false
set_option linter.unusedSimpArgs false

theorem wrap_in (n : Int) (h0 : -1000000000 ≤ n) (h1 : n ≤ 1000000000) : IntKind.i64.wrap n = n := by rw [IntKind.wrap_i64]; omega
theorem wrap_lift (h g t : Int) (h0 : -1000000 ≤ h) (h1 : h ≤ 1000000) (g0 : 0 ≤ g) (g1 : g ≤ 17) (t0 : 0 ≤ t) (t1 : t ≤ 17) :
    IntKind.i64.wrap (h + IntKind.i64.wrap (IntKind.i64.wrap g - IntKind.i64.wrap t)) = h + (g - t) := by
  rw [wrap_in g (by omega) (by omega), wrap_in t (by omega) (by omega), wrap_in (g - t) (by omega) (by omega), wrap_in _ (by omega) (by omega)]
theorem doesF_drop (os : List Int) (k : Nat) (H : Int) (hk : k < os.length) : doesF (os.drop k) H = if H < tk (os.getD k 0) then false else doesF (os.drop (k + 1)) (H + (gv (os.getD k 0) - tk (os.getD k 0))) := by
  rw [drop_cons os k hk, doesF]

set_option maxHeartbeats 1000000 in
theorem does_any (a : Option Addr) (n cap : Nat) (os : List Int) (H : Int) (w : World) (hn : os.length = n) (hr : RowAt w a os cap) (hd : Dig os) (hs : n ≤ 512) (hH0 : 0 ≤ H) (hH1 : H ≤ 100000) :
    Calls Sabg.prog 28 #[.slice a n cap, .int .i64 H] w fun e w' => e = .returned (.bool (doesF os H)) ∧ Below w.heap.size w w' := by
  have HR : Hid (RowAt w a os cap) := hr
  have HN : Hid (os.length = n) := hn
  clear hr hn
  go_enter Sabg.func28, Sabg.ntmps28
  go_wp2
  go_loopw [1, 9] (fun h i wr => ∃ (k : Nat) (h' : Int), k ≤ n ∧ i = .int .i64 k ∧ h = .int .i64 h' ∧ -(17 * (k : Int)) ≤ h' ∧ h' ≤ 100000 + 17 * k ∧ Hid (doesF (os.drop k) h' = doesF os H) ∧ Below w.heap.size w wr) (fun _ i _ => n - (intOf i).toNat)
  case atStart => exact ⟨0, H, by omega, rfl, rfl, by omega, by omega, rfl, Below.refl _ _⟩
  case round =>
    obtain ⟨k, h', hk, rfl, rfl, hb1, hb2, hD, hbel⟩ := hrel
    by_cases hkn : k < n
    · have hkl : k < os.length := by rw [HN.out]; exact hkn
      obtain ⟨b, off, rfl, hlt, hcs⟩ := HR.out.2.2 (by omega)
      have hcx : wr.cell? ⟨b, off + k, none⟩ = some (.int .u8 (os.getD k 0)) := (hbel.cell (p := ⟨b, off + k, none⟩) hlt).trans (hcs k hkl)
      clear hcs
      have hxb := hd.getD k
      have hstep := doesF_drop os k h' hkl
      generalize hX : os.getD k 0 = x at hcx hxb hstep
      have HX : Hid (os.getD k 0 = x) := hX
      have HST : Hid (doesF (os.drop k) h' = if h' < tk x then false else doesF (os.drop (k + 1)) (h' + (gv x - tk x))) := hstep
      clear hX hstep
      have tb := tk_bd x hxb.1 hxb.2
      have gb := gv_bd x hxb.1 hxb.2
      have hat := fun w => at_takes x w hxb.1 hxb.2
      have hag := fun w => at_gives x w hxb.1 hxb.2
      generalize hT : tk x = t at tb hat
      generalize hG : gv x = g at gb hag
      have HT : Hid (tk x = t) := hT
      have HG : Hid (gv x = g) := hG
      clear hT hG
      by_cases hlow : h' < t
      · go_wp2_with (go_at_call 30; refine (takesList_c _).mono ?_; rintro e w1 ⟨rfl, hw1⟩)
        go_ret
        have h0 := HST.out
        rw [HT.out, if_pos hlow, hD.out] at h0
        rw [h0]
        exact ⟨rfl, hbel.trans (hw1.mono hbel.size)⟩
      · go_wp2_with (go_at_call 30; refine (takesList_c _).mono ?_; rintro e w1 ⟨rfl, hw1⟩)
        have hb2' : Below w.heap.size w w1.drew := (hbel.trans (hw1.mono hbel.size)).drew
        go_region_held3 (fun w' => True) (trivial)
          (first
            | (go_at_call 29; refine (givesList_c _).mono ?_; rintro e w2 ⟨rfl, hw2⟩; have hb3 : Below w.heap.size w w2 := hb2'.trans (hw2.mono hb2'.size))
            | (go_at_call 30; refine (takesList_c _).mono ?_; rintro e w3 ⟨rfl, hw3⟩; have hb4 : Below w.heap.size w w3 := hb3.trans (hw3.mono hb3.size)))
        all_goals
          rw [wrap_lift h' g t (by omega) (by omega) gb.1 gb.2 tb.1 tb.2]
          go_wp2
          go_roundw
          case rel =>
            refine ⟨k + 1, h' + (g - t), by omega, by go_num, rfl, by omega, by omega, ?_, hb4⟩
            have h0 := HST.out
            rw [HT.out, HG.out, if_neg (by omega), hD.out] at h0
            exact h0.symm
          case measure => simp [intOf]; omega
    · obtain rfl : k = n := by omega
      go_wp2
      go_ret
      have := hD.out
      rw [List.drop_of_length_le (by rw [HN.out]; exact Nat.le_refl _)] at this
      rw [← this]
      exact ⟨rfl, hbel⟩
end Go.Proofs.Ygcsab.Cut
