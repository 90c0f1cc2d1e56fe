/-
  WALK: law.heads (14).
-/
import Derived.Test.YgcsabCutSmall
import Derived.Test.YgcsabCutPlain
import Derived.Test.YgcsabDestNat1
import Derived.Deep.RegionHeld3
namespace Go.Proofs.Ygcsab.Cut
open Go.RowKit Go.Great Go.Proofs.Ygcsab.Dest
set_option linter.unusedVariables false
set_option linter.unusedSimpArgs false

theorem keepCell {w w' : World} {p : Addr} {v : Value} (hlt : p.block < w.heap.size) (hc : w.cell? p = some v) (hb : Below w.heap.size w w') : w'.cell? p = some v := (hb.cell hlt).trans hc

/-- The marks as they stand when the walk is at k. -/
def marksTo (l : List Int) (n k : Nat) : List Value := (List.range n).map (fun p => Value.bool (decide (p < k) && hd l p))
def marks (l : List Int) (n : Nat) : List Value := (List.range n).map (fun p => Value.bool (hd l p))
theorem marksTo_len (l : List Int) (n k : Nat) : (marksTo l n k).length = n := by simp [marksTo]
theorem marks_len (l : List Int) (n : Nat) : (marks l n).length = n := by simp [marks]
theorem marksTo_at (l : List Int) (n k p : Nat) (h : p < n) : (marksTo l n k)[p]? = some (.bool (decide (p < k) && hd l p)) := by simp [marksTo, h]
theorem marks_at (l : List Int) (n p : Nat) (h : p < n) : (marks l n)[p]? = some (.bool (hd l p)) := by simp [marks, h]
theorem marksTo_zero (l : List Int) (n : Nat) : marksTo l n 0 = List.replicate n (.bool false) := by
  simp [marksTo, List.map_const']
theorem marksTo_done (l : List Int) (n k : Nat) (h : n ≤ k) : marksTo l n k = marks l n := by
  apply List.ext_getElem?
  intro p
  by_cases hp : p < n
  · rw [marksTo_at l n k p hp, marks_at l n p hp, decide_eq_true (by omega)]; simp
  · rw [List.getElem?_eq_none (by simp [marksTo]; omega), List.getElem?_eq_none (by simp [marks]; omega)]
theorem marksTo_set {l : List Int} {n k : Nat} {f : Bool} (hat : AtF l k f) (hn : l.length = n) (hk : k < n) :
    (marksTo l n k).set k (.bool (f || l.getD k 0 == 91)) = marksTo l n (k + 1 + imm (l.getD k 0)) := by
  apply List.ext_getElem?
  intro p
  by_cases hp : p < n
  · rw [marksTo_at l n _ p hp, List.getElem?_set]
    by_cases hkp : k = p
    · subst hkp
      rw [if_pos rfl, if_pos (by rw [marksTo_len]; exact hp), decide_eq_true (by omega), hat.here (by omega)]
      simp
    · rw [if_neg hkp, marksTo_at l n k p hp]
      by_cases h1 : p < k
      · rw [decide_eq_true h1, decide_eq_true (by omega : p < k + 1 + imm (l.getD k 0))]
      · by_cases h2 : p < k + 1 + imm (l.getD k 0)
        · rw [hat.between (by omega) (by omega) h2]; simp
        · rw [decide_eq_false h1, decide_eq_false h2]
  · rw [List.getElem?_eq_none (by simp [marksTo]; omega), List.getElem?_eq_none (by simp [marksTo]; omega)]

theorem info4 : (Sabg.prog.info? 4).map (fun i => (i.zero, i.size, i.bytes)) = some (some (.bool false), 1, 1) := by kernel_rfl
theorem wrap_step (k m : Int) (h0 : 0 ≤ k) (h1 : k ≤ 1000000) (m0 : 0 ≤ m) (m1 : m ≤ 255) : IntKind.i64.wrap (k + IntKind.i64.wrap (1 + IntKind.i64.wrap m)) = k + (1 + m) := by
  rw [IntKind.wrap_i64, IntKind.wrap_i64, IntKind.wrap_i64]; omega

set_option maxHeartbeats 1000000 in
theorem heads_any (a : Option Addr) (n cap : Nat) (l : List Int) (w : World) (hn : l.length = n) (hr : RowAt w a l cap) (hd : Dig l) (hs : n ≤ 512) :
    Calls Sabg.prog 14 #[.slice a n cap] w fun e w' => e = .returned (.slice (some ⟨w.heap.size, 0, none⟩) n n) ∧ Blk w' w.heap.size 4 (marks l n) ∧ Below w.heap.size w w' := by
  have HR : Hid (RowAt w a l cap) := hr
  have HN : Hid (l.length = n) := hn
  clear hr hn
  go_enter Sabg.func14, Sabg.ntmps14
  go_wp2_with (at_make; refine wpList_make_blk _ rfl _ _ 44 rfl 4 (.bool false) 1 Sabg.underlying44 info4 rfl .i64 .i64 n n n rfl rfl rfl rfl ?_ ?_ ?_)
  · omega
  · unfold maxLen; omega
  intro w1 hb1 hbel1 hsz1
  rw [← marksTo_zero l] at hb1
  go_wp2
  go_loopw [4, 5] (fun fv i wr => ∃ (k : Nat) (f : Bool), k ≤ n + 40 ∧ i = .int .i64 k ∧ fv = .bool f ∧ AtF l k f ∧ Blk wr w.heap.size 4 (marksTo l n k) ∧ Below w.heap.size w wr) (fun _ i _ => n + 40 - (intOf i).toNat)
  case atStart => exact ⟨0, true, by omega, rfl, rfl, AtF.zero l, hb1, hbel1⟩
  case round =>
    obtain ⟨k, f, hk, rfl, rfl, hat, hB, hbel⟩ := hrel
    clear hb1 hbel1 hsz1
    by_cases hkn : k < n
    · have hkl : k < l.length := by rw [HN.out]; exact hkn
      obtain ⟨b, off, rfl, hlt, hcs⟩ := HR.out.2.2 (by omega)
      have hc0 : w.cell? ⟨b, off + k, none⟩ = some (.int .u8 (l.getD k 0)) := hcs k hkl
      clear hcs
      have hxb := hd.getD k
      have hset := hB.set k (.bool (f || l.getD k 0 == 91))
      rw [marksTo_set hat HN.out hkn] at hset
      have hnx := hat.next hkl
      have hcm := hB.cell k
      have hfm := hB.free k
      rw [marksTo_at l n k k hkn, decide_eq_false (by omega), Bool.false_and] at hcm
      generalize hX : l.getD k 0 = x at hc0 hxb hset hnx
      have HX : Hid (l.getD k 0 = x) := hX
      clear hX hB
      have him := imm_le x
      have HI := fun w => at_imm x w hxb.1 hxb.2
      have hcx := keepCell hlt hc0 hbel
      have HC0 : Hid (w.cell? ⟨b, off + k, none⟩ = some (.int .u8 x)) := hc0
      clear hc0
      have hbs : Below w.heap.size w (wr.setCell ⟨w.heap.size, k, none⟩ (.bool (f || x == 91))) := hbel.setCell (Nat.le_refl _) _
      have hcx2 := keepCell hlt HC0.out hbs
      cases f
      · simp only [Bool.false_or] at hset hbs hcx2
        go_wp2_with fail
        refine (endsBlock_any x _ hxb.1 hxb.2).mono ?_
        rintro e w2 ⟨rfl, hw2⟩
        have hb2 : Below w.heap.size w w2 := hbs.trans (hw2.mono hbs.size)
        have hB2 := hset.below hw2 hset.lt
        clear hw2 hbs hset hcx hcx2 hcm hfm hbel
        have hb2' : Below w.heap.size w w2.drew := hb2.drew
        generalize hE : ends x = en at hnx
        go_wp2
        go_region_held3 (fun w' => w'.cell? ⟨b, off + k, none⟩ = some (.int .u8 x)) (exact keepCell hlt HC0.out (by assumption))
          (first
            | (go_at_call 26; refine (immList_c _).mono ?_; rintro e w3 ⟨rfl, hw3⟩; have hb3 : Below w.heap.size w w3 := hb2'.trans (hw3.mono hb2'.size); have hB3 := hB2.drew.below hw3 hB2.lt))
        all_goals
          rw [wrap_step k (imm x) (by omega) (by omega) (by omega) (by omega)]
          go_wp2
          go_roundw
          case rel => exact ⟨k + 1 + imm x, en, by omega, by go_num, rfl, hnx, hB3, hb3⟩
          case measure => simp [intOf]; omega
      · simp only [Bool.true_or] at hset hbs hcx2
        go_wp2_with fail
        refine (endsBlock_any x _ hxb.1 hxb.2).mono ?_
        rintro e w2 ⟨rfl, hw2⟩
        have hb2 : Below w.heap.size w w2 := hbs.trans (hw2.mono hbs.size)
        have hB2 := hset.below hw2 hset.lt
        clear hw2 hbs hset hcx hcx2 hcm hfm hbel
        have hb2' : Below w.heap.size w w2.drew := hb2.drew
        generalize hE : ends x = en at hnx
        go_wp2
        go_region_held3 (fun w' => w'.cell? ⟨b, off + k, none⟩ = some (.int .u8 x)) (exact keepCell hlt HC0.out (by assumption))
          (first
            | (go_at_call 26; refine (immList_c _).mono ?_; rintro e w3 ⟨rfl, hw3⟩; have hb3 : Below w.heap.size w w3 := hb2'.trans (hw3.mono hb2'.size); have hB3 := hB2.drew.below hw3 hB2.lt))
        all_goals
          rw [wrap_step k (imm x) (by omega) (by omega) (by omega) (by omega)]
          go_wp2
          go_roundw
          case rel => exact ⟨k + 1 + imm x, en, by omega, by go_num, rfl, hnx, hB3, hb3⟩
          case measure => simp [intOf]; omega
    · go_wp2
      go_ret
      rw [marksTo_done l n k (by omega)] at hB
      exact ⟨rfl, hB, hbel⟩
end Go.Proofs.Ygcsab.Cut
