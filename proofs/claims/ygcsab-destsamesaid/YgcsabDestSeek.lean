/-
  WALKS: yp.IsDest (11).
-/
import Derived.Test.YgcsabDestNat4
namespace Go.Proofs.Ygcsab.Dest
open Go.RowKit
set_option linter.unusedVariables false
set_option linter.unusedSimpArgs false

theorem val_ge {l : List Int} (h : Dig l) (hc : Can l) (hne : l ≠ []) : (256 : Int) ^ (l.length - 1) ≤ val l := by
  induction l with
  | nil => exact absurd rfl hne
  | cons d r ih =>
    have hd := h.head
    by_cases hr : r = []
    · subst hr
      have := hc 0 rfl
      simp at this
      simp [val]; omega
    · have := ih h.tail hc.tail hr
      obtain ⟨e, s, rfl⟩ := List.exists_cons_of_ne_nil hr
      simp only [List.length_cons, Nat.add_sub_cancel] at this ⊢
      rw [val, Int.pow_succ]
      omega
theorem len_of_val {l : List Int} (h : Dig l) (hc : Can l) (hv : val l ≤ 281474976710656) : l.length ≤ 10 := by
  by_cases hne : l = []
  · subst hne; simp
  · have h1 := val_ge h hc hne
    by_cases hl : l.length ≤ 10
    · exact hl
    · obtain ⟨m, hm⟩ : ∃ m, l.length - 1 = 10 + m := ⟨l.length - 1 - 10, by omega⟩
      rw [hm, Int.pow_add] at h1
      have h2 : (0 : Int) < 256 ^ m := Int.pow_pos (by omega)
      have h3 : (256 : Int) ^ 10 * 1 ≤ 256 ^ 10 * 256 ^ m := Int.mul_le_mul_of_nonneg_left h2 (by decide)
      have h4 : (281474976710656 : Int) < 256 ^ 10 * 1 := by decide
      omega
theorem eq_of_val {a b : List Int} (ha : Dig a) (hb : Dig b) (ca : Can a) (cb : Can b) : a = b ↔ val a = val b :=
  ⟨fun h => by rw [h], val_inj ha hb ca cb⟩

set_option maxHeartbeats 1000000 in
theorem Seek_any (a : Option Addr) (n cap : Nat) (l : List Int) (w : World) (hn : l.length = n) (hr : RowAt w a l cap) (hd : Dig l) (hs : n ≤ 140737488355328)
    (a2 : Option Addr) (n2 cap2 : Nat) (dt : List Int) (hn2 : dt.length = n2) (hr2 : RowAt w a2 dt cap2) (hd2 : Dig dt) (hc2 : Can dt) (T : Nat) (hT : val dt = T) :
    Calls Sabg.prog 11 #[.slice a n cap, .slice a2 n2 cap2] w fun e w' => e = .returned (.bool (isD l 0 T)) ∧ Below w.heap.size w w' := by
  have HR : Hid (RowAt w a l cap) := hr
  have HR2 : Hid (RowAt w a2 dt cap2) := hr2
  have HN : Hid (l.length = n) := hn
  have HN2 : Hid (dt.length = n2) := hn2
  have HT : Hid (val dt = T) := hT
  clear hr hr2 hn hn2 hT
  go_enter Sabg.func11, Sabg.ntmps11
  go_wp2
  go_loopw [5, 6] (fun pv i wr => ∃ (k : Nat) (pa : Option Addr) (pn pc : Nat) (ps : List Int), k ≤ n + 40 ∧ i = .int .i64 k ∧ pv = .slice pa pn pc ∧ Hid (ps.length = pn) ∧ Hid (RowAt wr pa ps pc) ∧ Can ps ∧ Dig ps ∧ Hid (val ps = k) ∧ Seek l T k ∧ Below w.heap.size w wr)
    (fun _ i _ => n + 40 - (intOf i).toNat)
  case atStart => exact ⟨0, none, 0, 0, [], by omega, rfl, rfl, rfl, by simp [RowAt, Hid], Can.nil, Dig.nil, rfl, Seek.zero _ _, Below.refl _ _⟩
  case round =>
    obtain ⟨k, pa, pn, pc, ps, hk, rfl, rfl, hpn, hpr, hpc, hpd, hpv, hsk, hbel⟩ := hrel
    by_cases hkn : k < n
    · have hrow := HR.out.2.2 (by rw [HN.out]; omega)
      obtain ⟨b, off, rfl, hlt, hcs⟩ := hrow
      have hcx := hcs k (by rw [HN.out]; exact hkn)
      have hxb := hd.getD k
      generalize hX : l.getD k 0 = x at hcx hxb
      have HX : Hid (l.getD k 0 = x) := hX
      clear hX hcs
      have hr2 : RowAt wr a2 dt cap2 := HR2.out.below hbel
      have HR2' : Hid (RowAt wr a2 dt cap2) := hr2
      clear hr2
      by_cases hkT : k = T
      · subst hkT
        have he : ps = dt := val_inj hpd hd2 hpc hc2 (by rw [hpv.out, HT.out])
        go_wp2_with fail
        refine (Cmp_eq pa a2 pn n2 pc cap2 ps dt _ hpn.out HN2.out hpr.out HR2'.out hpc hc2 he).mono ?_
        rintro e w1 ⟨rfl, hb1⟩
        have hcx1 : w1.cell? ⟨b, off + k, none⟩ = some (.int .u8 x) := (hb1.cell (p := ⟨b, off + k, none⟩) (Nat.lt_of_lt_of_le hlt hbel.size)).trans ((hbel.cell (p := ⟨b, off + k, none⟩) hlt).trans hcx)
        clear hcx
        go_wp2
        go_ret
        refine ⟨?_, hbel.trans (hb1.mono hbel.size)⟩
        rw [hsk.1.here (by rw [HN.out]; exact hkn), HX.out]
        rfl
      · have he : ps ≠ dt := fun h => hkT (by
          have h1 := hpv.out
          rw [h, HT.out] at h1
          omega)
        have him := imm_le x
        go_wp2_with fail
        refine (Cmp_ne pa a2 pn n2 pc cap2 ps dt _ hpn.out HN2.out hpr.out HR2'.out hpc hc2 he).mono ?_
        rintro e w1 ⟨⟨r, rfl, hr0⟩, hb1⟩
        have hr0' : (r == 0) = false := by simpa using hr0
        have hcx1 : w1.cell? ⟨b, off + k, none⟩ = some (.int .u8 x) := (hb1.cell (p := ⟨b, off + k, none⟩) (Nat.lt_of_lt_of_le hlt hbel.size)).trans ((hbel.cell (p := ⟨b, off + k, none⟩) hlt).trans hcx)
        clear hcx hr0
        go_wp2_with fail
        refine (Imm_any x _ hxb.1 hxb.2).mono ?_
        rintro e w2 ⟨rfl, rfl⟩
        go_wp2_with fail
        have hpl : pn ≤ 100 := by
          have := len_of_val hpd hpc (by rw [hpv.out]; omega)
          rw [hpn.out] at this; omega
        have hal : Below w2.heap.size w2 (w2.alloc (.cells #[.int .u8 (1 + (imm x : Int))] 5)) := (Below.refl _ _).alloc (Nat.le_refl _) _
        have hrp := (hpr.out.below hb1).below hal
        have hrn : RowAt (w2.alloc (.cells #[.int .u8 (1 + (imm x : Int))] 5)) (some ⟨w2.heap.size, 0, none⟩) [1 + (imm x : Int)] 1 :=
          rowAt_blk (ds := [1 + (imm x : Int)]) (Blk.new w2 (bs [1 + (imm x : Int)]) 5) (by simp [maxLen])
        have hbelA : Below w.heap.size w (w2.alloc (.cells #[.int .u8 (1 + (imm x : Int))] 5)) := (hbel.trans (hb1.mono hbel.size)).trans (hal.mono (Nat.le_trans hbel.size hb1.size))
        refine (Add_any pa (some ⟨w2.heap.size, 0, none⟩) pn 1 pc 1 ps [1 + (imm x : Int)] _ hpn.out rfl hrp hrn hpc ?_ hpd ?_ hpl (by omega)).mono ?_
        · intro j hj
          simp at hj
          subst hj
          simp; omega
        · intro d hd
          simp at hd
          subst hd
          omega
        rintro e w3 ⟨⟨v, es, rfl, ⟨hed, hec, ea, ecap, rfl, her⟩, hev⟩, hb3⟩
        clear hal hrp hrn
        have HEV : Hid (val es = val ps + val [1 + (imm x : Int)]) := hev
        have HER : Hid (RowAt w3 ea es ecap) := her
        clear hev her
        go_wp2
        go_roundw
        case rel =>
          refine ⟨k + 1 + imm x, ea, es.length, ecap, es, by omega, by go_num, rfl, rfl, HER.out, hec, hed, ?_, ?_, hbelA.trans (hb3.mono hbelA.size)⟩
          · show val es = _
            rw [HEV.out, hpv.out]
            simp [val]; omega
          · have := hsk.next (by rw [HN.out]; exact hkn) hkT
            rw [HX.out] at this
            exact this
        case measure => simp [intOf]; omega
    · go_wp2
      go_ret
      have := Seek.done hsk (by rw [HN.out]; omega)
      rw [this]
      exact ⟨rfl, hbel⟩
end Go.Proofs.Ygcsab.Dest
