/-
  WALK: nat.Add (23).
-/
import Derived.Test.YgcsabDestNat3
namespace Go.Proofs.Ygcsab.Dest
open Go.RowKit
set_option linter.unusedVariables false
set_option linter.unusedSimpArgs false

theorem take_snoc (l : List Int) (k : Nat) (h : k < l.length) : l.take (k + 1) = l.take k ++ [l.getD k 0] := by
  rw [List.take_succ_eq_append_getElem h, getD_in l k h]
theorem val_take_snoc (l : List Int) (k : Nat) (h : k < l.length) : val (l.take (k + 1)) = val (l.take k) + 256 ^ k * l.getD k 0 := by
  rw [take_snoc l k h, val_snoc]
  congr 3
  simp; omega

/-- What holds of the sum's digits behind k rounds: c is carried. -/
def Sum (A B os : List Int) (k : Nat) (c : Int) : Prop := os.length = k ∧ Dig os ∧ val os + 256 ^ k * c = val (A.take k) + val (B.take k)
theorem Sum.zero (A B : List Int) : Sum A B [] 0 0 := ⟨rfl, Dig.nil, by simp [val]⟩
theorem carry_arith (p c x y s : Int) (hs : s = c + x + y) (v a b : Int) (h : v + p * c = a + b) : v + p * (s % 256) + p * 256 * (s / 256) = a + p * x + (b + p * y) := by
  have e : s % 256 + 256 * (s / 256) = s := by omega
  have e2 : p * (s % 256) + p * 256 * (s / 256) = p * s := by rw [Int.mul_assoc, ← Int.mul_add, e]
  have e3 : p * s = p * c + p * x + p * y := by rw [hs, Int.mul_add, Int.mul_add]
  omega
theorem Sum.both {A B os : List Int} {k : Nat} {c : Int} (h : Sum A B os k c) (hA : k < A.length) (hB : k < B.length) (c0 : 0 ≤ c + A.getD k 0 + B.getD k 0) :
    Sum A B (os ++ [(c + A.getD k 0 + B.getD k 0) % 256]) (k + 1) ((c + A.getD k 0 + B.getD k 0) / 256) := by
  obtain ⟨h1, h2, h3⟩ := h
  refine ⟨by simp [h1], h2.snoc (by omega) (by omega), ?_⟩
  rw [val_snoc, h1, val_take_snoc A k hA, val_take_snoc B k hB, Int.pow_succ]
  exact carry_arith _ c _ _ _ rfl _ _ _ h3
theorem Sum.one {A B os : List Int} {k : Nat} {c : Int} (h : Sum A B os k c) (hA : k < A.length) (hB : B.length ≤ k) (c0 : 0 ≤ c + A.getD k 0) :
    Sum A B (os ++ [(c + A.getD k 0) % 256]) (k + 1) ((c + A.getD k 0) / 256) := by
  obtain ⟨h1, h2, h3⟩ := h
  refine ⟨by simp [h1], h2.snoc (by omega) (by omega), ?_⟩
  rw [val_snoc, h1, val_take_snoc A k hA, Int.pow_succ, List.take_of_length_le (show B.length ≤ k + 1 from by omega)]
  rw [List.take_of_length_le hB] at h3
  have := carry_arith (256 ^ k) c (A.getD k 0) 0 (c + A.getD k 0) (by omega) _ _ _ h3
  simpa using this
theorem Sum.last {A B os : List Int} {c : Int} (h : Sum A B os A.length c) (hB : B.length ≤ A.length) (c0 : 0 ≤ c) (c1 : c ≤ 255) : Dig (os ++ [c]) ∧ val (os ++ [c]) = val A + val B ∧ (os ++ [c]).length = A.length + 1 := by
  obtain ⟨h1, h2, h3⟩ := h
  refine ⟨h2.snoc c0 c1, ?_, by simp [h1]⟩
  rw [val_snoc, h1, h3, List.take_of_length_le (Nat.le_refl _), List.take_of_length_le hB]

set_option maxHeartbeats 1000000 in
theorem Add_long (a a2 : Option Addr) (n n2 cap cap2 : Nat) (da db : List Int) (w : World) (hn : da.length = n) (hn2 : db.length = n2) (ha : RowAt w a da cap) (hb : RowAt w a2 db cap2) (ca : Can da) (cb : Can db) (dga : Dig da) (dgb : Dig db)
    (hs : n ≤ 100) (hs2 : n2 ≤ 100) (hle : n2 ≤ n) :
    Calls Sabg.prog 23 #[.slice a n cap, .slice a2 n2 cap2] w fun e w' => (∃ v es, e = .returned v ∧ IsNat w' v es ∧ val es = val da + val db) ∧ Below w.heap.size w w' := by
  go_enter Sabg.func23, Sabg.ntmps23
  go_wp2_with fail
  refine (trim_can a n cap da w hn ha ca).mono ?_
  rintro e w' ⟨rfl, rfl⟩
  go_wp2_with fail
  refine (trim_can a2 n2 cap2 db _ hn2 hb cb).mono ?_
  rintro e w1 ⟨rfl, rfl⟩
  have hLc := ha.2.2
  have hSc := hb.2.2
  rw [hn] at hLc
  rw [hn2] at hSc
  have HL : Hid (0 < n → ∃ b off, a = some ⟨b, off, none⟩ ∧ b < w1.heap.size ∧ ∀ i, i < n → w1.cell? ⟨b, off + i, none⟩ = some (.int .u8 (da.getD i 0))) := hLc
  have HS : Hid (0 < n2 → ∃ b off, a2 = some ⟨b, off, none⟩ ∧ b < w1.heap.size ∧ ∀ i, i < n2 → w1.cell? ⟨b, off + i, none⟩ = some (.int .u8 (db.getD i 0))) := hSc
  clear hLc hSc ha hb ca cb
  have HLN : Hid (da.length = n) := hn
  have HSN : Hid (db.length = n2) := hn2
  clear hn hn2
  go_wp2_with (at_make; refine wpList_make_blk _ rfl _ _ 36 rfl 5 (.int .u8 0) 1 Sabg.underlying36 info5 rfl .i64 .i64 (n + 1) (n + 1) (n + 1) rfl rfl (by omega) (by omega) ?_ ?_ ?_)
  · omega
  · unfold maxLen; omega
  · intro w2 hb2 hbel2 hsz2
    go_wp2
    go_loopw [6, 26] (fun c i wr => ∃ (k : Nat) (os : List Int) (cy : Int), k ≤ n ∧ i = .int .i64 k ∧ c = .int .u16 cy ∧ 0 ≤ cy ∧ cy ≤ 1 ∧ Hid (Sum da db os k cy) ∧
      Blk wr w1.heap.size 5 (bs (os ++ List.replicate (n + 1 - k) 0)) ∧ Below w1.heap.size w1 wr) (fun _ i _ => n - (intOf i).toNat)
    case atStart =>
      refine ⟨0, [], 0, by omega, rfl, rfl, by omega, by omega, Sum.zero _ _, ?_, hbel2⟩
      have : bs ([] ++ List.replicate (n + 1 - 0) 0) = List.replicate (n + 1) (Value.int .u8 0) := by simp [bs]
      rw [this]; exact hb2
    case round =>
      obtain ⟨k, os, cy, hk, rfl, rfl, hc0, hc1, hD, hB, hbel⟩ := hrel
      clear hb2 hbel2 hsz2
      have hcl := hB.cell k
      have hfr := hB.free k
      rw [bs_pad os k (n + 1) hD.out.1 (by omega)] at hcl
      by_cases hkl : k < n
      · obtain ⟨b, off, rfl, hblt, hcs⟩ := HL.out (by omega)
        have hx : wr.cell? ⟨b, off + k, none⟩ = some (.int .u8 (da.getD k 0)) := (hbel.cell (p := ⟨b, off + k, none⟩) hblt).trans (hcs k hkl)
        clear hcs
        have hxb := dga.getD k
        generalize hX : da.getD k 0 = x at hx hxb
        have HX : Hid (da.getD k 0 = x) := hX
        clear hX
        have hsum1 : 0 ≤ cy + x := by omega
        by_cases hks : k < n2
        · obtain ⟨b2, off2, rfl, hblt2, hcs2⟩ := HS.out (by omega)
          have hy : wr.cell? ⟨b2, off2 + k, none⟩ = some (.int .u8 (db.getD k 0)) := (hbel.cell (p := ⟨b2, off2 + k, none⟩) hblt2).trans (hcs2 k hks)
          clear hcs2
          have hyb := dgb.getD k
          generalize hY : db.getD k 0 = y at hy hyb
          have HY : Hid (db.getD k 0 = y) := hY
          clear hY
          have hsum2 : 0 ≤ cy + x + y := by omega
          go_wp2
          go_roundw
          case rel =>
            refine ⟨k + 1, os ++ [(cy + x + y) % 256], (cy + x + y) / 256, by omega, by go_num, rfl, by omega, by omega, ?_, ?_, hbel.setCell (Nat.le_refl _) _⟩
            · have := Sum.both hD.out (by rw [HLN.out]; exact hkl) (by rw [HSN.out]; exact hks) (by rw [HX.out, HY.out]; omega)
              rw [HX.out, HY.out] at this
              exact this
            · rw [← bs_put os k (n + 1) _ hD.out.1 (by omega)]
              exact hB.set k _
          case measure => simp [intOf]; omega
        · go_wp2
          go_roundw
          case rel =>
            refine ⟨k + 1, os ++ [(cy + x) % 256], (cy + x) / 256, by omega, by go_num, rfl, by omega, by omega, ?_, ?_, hbel.setCell (Nat.le_refl _) _⟩
            · have := Sum.one hD.out (by rw [HLN.out]; exact hkl) (by rw [HSN.out]; omega) (by rw [HX.out]; omega)
              rw [HX.out] at this
              exact this
            · rw [← bs_put os k (n + 1) _ hD.out.1 (by omega)]
              exact hB.set k _
          case measure => simp [intOf]; omega
      · obtain rfl : k = n := by omega
        go_wp2_with fail
        have hset := hB.set k (.int .u8 cy)
        rw [bs_put os _ _ _ hD.out.1 (by omega)] at hset
        rw [show k + 1 - (k + 1) = 0 from by omega, List.replicate_zero, List.append_nil] at hset
        have hlast := Sum.last (A := da) (B := db) (os := os) (c := cy) (by rw [HLN.out]; exact hD.out) (by rw [HLN.out, HSN.out]; omega) hc0 (by omega)
        rw [HLN.out] at hlast
        have hr := rowAt_blk hset (by rw [hlast.2.2]; unfold maxLen; omega)
        rw [hlast.2.2] at hr
        refine (clip_any (some ⟨w1.heap.size, 0, none⟩) (k + 1) (k + 1) (os ++ [cy]) _ hlast.2.2 hr hlast.1).mono ?_
        rintro e w3 ⟨⟨v, es, rfl, hN, hv⟩, rfl⟩
        go_wp2
        go_ret
        refine ⟨⟨_, es, rfl, hN, ?_⟩, hbel.setCell (Nat.le_refl _) _⟩
        rw [hv, hlast.2.1]

set_option maxHeartbeats 1000000 in
theorem Add_short (a a2 : Option Addr) (n n2 cap cap2 : Nat) (da db : List Int) (w : World) (hn : da.length = n) (hn2 : db.length = n2) (ha : RowAt w a da cap) (hb : RowAt w a2 db cap2) (ca : Can da) (cb : Can db) (dga : Dig da) (dgb : Dig db)
    (hs : n ≤ 100) (hs2 : n2 ≤ 100) (hle : n < n2) :
    Calls Sabg.prog 23 #[.slice a n cap, .slice a2 n2 cap2] w fun e w' => (∃ v es, e = .returned v ∧ IsNat w' v es ∧ val es = val da + val db) ∧ Below w.heap.size w w' := by
  go_enter Sabg.func23, Sabg.ntmps23
  go_wp2_with fail
  refine (trim_can a n cap da w hn ha ca).mono ?_
  rintro e w' ⟨rfl, rfl⟩
  go_wp2_with fail
  refine (trim_can a2 n2 cap2 db _ hn2 hb cb).mono ?_
  rintro e w1 ⟨rfl, rfl⟩
  have hLc := hb.2.2
  have hSc := ha.2.2
  rw [hn2] at hLc
  rw [hn] at hSc
  have HL : Hid (0 < n2 → ∃ b off, a2 = some ⟨b, off, none⟩ ∧ b < w1.heap.size ∧ ∀ i, i < n2 → w1.cell? ⟨b, off + i, none⟩ = some (.int .u8 (db.getD i 0))) := hLc
  have HS : Hid (0 < n → ∃ b off, a = some ⟨b, off, none⟩ ∧ b < w1.heap.size ∧ ∀ i, i < n → w1.cell? ⟨b, off + i, none⟩ = some (.int .u8 (da.getD i 0))) := hSc
  clear hLc hSc hb ha ca cb
  have HLN : Hid (db.length = n2) := hn2
  have HSN : Hid (da.length = n) := hn
  clear hn2 hn
  go_wp2_with (at_make; refine wpList_make_blk _ rfl _ _ 36 rfl 5 (.int .u8 0) 1 Sabg.underlying36 info5 rfl .i64 .i64 (n2 + 1) (n2 + 1) (n2 + 1) rfl rfl (by omega) (by omega) ?_ ?_ ?_)
  · omega
  · unfold maxLen; omega
  · intro w2 hb2 hbel2 hsz2
    go_wp2
    go_loopw [6, 26] (fun c i wr => ∃ (k : Nat) (os : List Int) (cy : Int), k ≤ n2 ∧ i = .int .i64 k ∧ c = .int .u16 cy ∧ 0 ≤ cy ∧ cy ≤ 1 ∧ Hid (Sum db da os k cy) ∧
      Blk wr w1.heap.size 5 (bs (os ++ List.replicate (n2 + 1 - k) 0)) ∧ Below w1.heap.size w1 wr) (fun _ i _ => n2 - (intOf i).toNat)
    case atStart =>
      refine ⟨0, [], 0, by omega, rfl, rfl, by omega, by omega, Sum.zero _ _, ?_, hbel2⟩
      have : bs ([] ++ List.replicate (n2 + 1 - 0) 0) = List.replicate (n2 + 1) (Value.int .u8 0) := by simp [bs]
      rw [this]; exact hb2
    case round =>
      obtain ⟨k, os, cy, hk, rfl, rfl, hc0, hc1, hD, hB, hbel⟩ := hrel
      clear hb2 hbel2 hsz2
      have hcl := hB.cell k
      have hfr := hB.free k
      rw [bs_pad os k (n2 + 1) hD.out.1 (by omega)] at hcl
      by_cases hkl : k < n2
      · obtain ⟨b, off, rfl, hblt, hcs⟩ := HL.out (by omega)
        have hx : wr.cell? ⟨b, off + k, none⟩ = some (.int .u8 (db.getD k 0)) := (hbel.cell (p := ⟨b, off + k, none⟩) hblt).trans (hcs k hkl)
        clear hcs
        have hxb := dgb.getD k
        generalize hX : db.getD k 0 = x at hx hxb
        have HX : Hid (db.getD k 0 = x) := hX
        clear hX
        have hsum1 : 0 ≤ cy + x := by omega
        by_cases hks : k < n
        · obtain ⟨b2, off2, rfl, hblt2, hcs2⟩ := HS.out (by omega)
          have hy : wr.cell? ⟨b2, off2 + k, none⟩ = some (.int .u8 (da.getD k 0)) := (hbel.cell (p := ⟨b2, off2 + k, none⟩) hblt2).trans (hcs2 k hks)
          clear hcs2
          have hyb := dga.getD k
          generalize hY : da.getD k 0 = y at hy hyb
          have HY : Hid (da.getD k 0 = y) := hY
          clear hY
          have hsum2 : 0 ≤ cy + x + y := by omega
          go_wp2
          go_roundw
          case rel =>
            refine ⟨k + 1, os ++ [(cy + x + y) % 256], (cy + x + y) / 256, by omega, by go_num, rfl, by omega, by omega, ?_, ?_, hbel.setCell (Nat.le_refl _) _⟩
            · have := Sum.both hD.out (by rw [HLN.out]; exact hkl) (by rw [HSN.out]; exact hks) (by rw [HX.out, HY.out]; omega)
              rw [HX.out, HY.out] at this
              exact this
            · rw [← bs_put os k (n2 + 1) _ hD.out.1 (by omega)]
              exact hB.set k _
          case measure => simp [intOf]; omega
        · go_wp2
          go_roundw
          case rel =>
            refine ⟨k + 1, os ++ [(cy + x) % 256], (cy + x) / 256, by omega, by go_num, rfl, by omega, by omega, ?_, ?_, hbel.setCell (Nat.le_refl _) _⟩
            · have := Sum.one hD.out (by rw [HLN.out]; exact hkl) (by rw [HSN.out]; omega) (by rw [HX.out]; omega)
              rw [HX.out] at this
              exact this
            · rw [← bs_put os k (n2 + 1) _ hD.out.1 (by omega)]
              exact hB.set k _
          case measure => simp [intOf]; omega
      · obtain rfl : k = n2 := by omega
        go_wp2_with fail
        have hset := hB.set k (.int .u8 cy)
        rw [bs_put os _ _ _ hD.out.1 (by omega)] at hset
        rw [show k + 1 - (k + 1) = 0 from by omega, List.replicate_zero, List.append_nil] at hset
        have hlast := Sum.last (A := db) (B := da) (os := os) (c := cy) (by rw [HLN.out]; exact hD.out) (by rw [HLN.out, HSN.out]; omega) hc0 (by omega)
        rw [HLN.out] at hlast
        have hr := rowAt_blk hset (by rw [hlast.2.2]; unfold maxLen; omega)
        rw [hlast.2.2] at hr
        refine (clip_any (some ⟨w1.heap.size, 0, none⟩) (k + 1) (k + 1) (os ++ [cy]) _ hlast.2.2 hr hlast.1).mono ?_
        rintro e w3 ⟨⟨v, es, rfl, hN, hv⟩, rfl⟩
        go_wp2
        go_ret
        refine ⟨⟨_, es, rfl, hN, ?_⟩, hbel.setCell (Nat.le_refl _) _⟩
        rw [hv, hlast.2.1]; exact Int.add_comm _ _

theorem Add_any (a a2 : Option Addr) (n n2 cap cap2 : Nat) (da db : List Int) (w : World) (hn : da.length = n) (hn2 : db.length = n2) (ha : RowAt w a da cap) (hb : RowAt w a2 db cap2) (ca : Can da) (cb : Can db) (dga : Dig da) (dgb : Dig db)
    (hs : n ≤ 100) (hs2 : n2 ≤ 100) :
    Calls Sabg.prog 23 #[.slice a n cap, .slice a2 n2 cap2] w fun e w' => (∃ v es, e = .returned v ∧ IsNat w' v es ∧ val es = val da + val db) ∧ Below w.heap.size w w' := by
  by_cases h : n2 ≤ n
  · exact Add_long a a2 n n2 cap cap2 da db w hn hn2 ha hb ca cb dga dgb hs hs2 h
  · exact Add_short a a2 n n2 cap cap2 da db w hn hn2 ha hb ca cb dga dgb hs hs2 (by omega)
end Go.Proofs.Ygcsab.Dest
