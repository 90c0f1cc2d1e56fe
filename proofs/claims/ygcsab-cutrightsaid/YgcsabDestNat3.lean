/-
  WALKS: nat.Norm (24), nat.FromU64 (12).
-/
import Derived.Test.YgcsabDestNat2
namespace Go.Proofs.Ygcsab.Dest
open Go.RowKit
set_option linter.unusedVariables false
set_option linter.unusedSimpArgs false

theorem info5 : (Sabg.prog.info? 5).map (fun i => (i.zero, i.size, i.bytes)) = some (some (.int .u8 0), 1, 1) := by kernel_rfl
theorem size5 : (Sabg.prog.info? 5).map (·.size) = some 1 := by kernel_rfl
/-- The cells of a row of bytes. -/
def bs (ds : List Int) : List Value := ds.map (Value.int .u8)
theorem bs_at (ds : List Int) (i : Nat) (h : i < ds.length) : (bs ds)[i]? = some (.int .u8 (ds.getD i 0)) := by
  simp [bs, h]
theorem bs_len (ds : List Int) : (bs ds).length = ds.length := by simp [bs]
/-- A block of the call's own is a row. -/
theorem rowAt_blk {w : World} {g : Nat} {t : TypeId} {ds : List Int} (h : Blk w g t (bs ds)) (hm : ds.length ≤ maxLen) : RowAt w (some ⟨g, 0, none⟩) ds ds.length :=
  ⟨Nat.le_refl _, hm, fun _ => ⟨g, 0, rfl, h.lt, fun i hi => by rw [Nat.zero_add, h.cell i, bs_at ds i hi]⟩⟩

set_option maxHeartbeats 400000 in
theorem Norm_any (a : Option Addr) (n cap : Nat) (ds : List Int) (w : World) (hn : ds.length = n) (h : RowAt w a ds cap) (hd : Dig ds) (hs : n ≤ 1000) :
    Calls Sabg.prog 24 #[.slice a n cap] w fun e w' => (∃ v es, e = .returned v ∧ IsNat w' v es ∧ val es = val ds) ∧ Below w.heap.size w w' := by
  go_enter Sabg.func24, Sabg.ntmps24
  go_wp2_with fail
  refine (trim_any a n cap ds w hn h).mono ?_
  rintro e w' ⟨⟨k, rfl, ht⟩, rfl⟩
  have hkn := ht.1
  have HT : Hid (Top ds n k) := ht
  clear ht
  by_cases hk : k = 0
  · subst hk
    go_wp2
    go_ret
    have ht := HT.out
    subst hn
    exact ⟨⟨_, [], rfl, ⟨Dig.nil, Can.nil, none, 0, rfl, by simp [RowAt]⟩, by have := ht.val; simpa using this⟩, Below.refl _ _⟩
  · have hk' : ((k : Int) == 0) = false := by simp; omega
    have hr := h.take (k := k) (by omega)
    have hac := h.2.2 (by omega)
    obtain ⟨b, off, rfl, hlt, hc⟩ := hac
    have HC : Hid (∀ i, i < ds.length → w'.cell? ⟨b, off + i, none⟩ = some (.int .u8 (ds.getD i 0))) := hc
    clear hc h hr
    have hkl : (ds.take k).length = k := by simp; omega
    go_wp2_with (at_make; refine wpList_make_blk _ rfl _ _ 36 rfl 5 (.int .u8 0) 1 Sabg.underlying36 info5 rfl .i64 .i64 k k k rfl rfl rfl rfl ?_ ?_ ?_)
    · omega
    · unfold maxLen; omega
    · intro w1 hb1 hbel1 hsz1
      go_wp2_with (refine wpList_copy_blk rfl (.tmp 12) (.tmp 13) 36 36 rfl 5 Sabg.underlying36 size5 w'.heap.size b off k k k rfl rfl (List.replicate k (.int .u8 0)) 5 hb1 (bs (ds.take k)) ?_ ?_ ?_ ?_ ?_)
      · simp
      · rw [bs_len]; exact hkl
      · intro j hj
        rw [hbel1.cell (p := ⟨b, off + j, none⟩) hlt, HC.out j (by omega), bs_at _ j (by omega)]
        simp [List.getD, List.getElem?_take, hj]
      · exact ints_oneCell _ _
      · intro w2 hb2 hbel2 hsz2
        go_wp2
        go_ret
        have ht := HT.out
        subst hn
        refine ⟨⟨_, ds.take k, rfl, ⟨hd.take k, ht.can, some ⟨w'.heap.size, 0, none⟩, k, by rw [hkl]; rfl, ?_⟩, ht.val⟩, hbel1.trans hbel2⟩
        have := rowAt_blk hb2 (by rw [hkl]; unfold maxLen; omega)
        rw [hkl] at this
        exact this

theorem bs_pad (ds : List Int) (k n : Nat) (hl : ds.length = k) (h : k < n) : (bs (ds ++ List.replicate (n - k) 0))[k]? = some (.int .u8 0) := by
  rw [bs_at _ k (by simp; omega)]
  simp only [List.getD, List.getElem?_append, hl, Nat.lt_irrefl, if_false, Nat.sub_self, List.getElem?_replicate]
  rw [if_pos (by omega)]
  rfl
theorem bs_put (ds : List Int) (k n : Nat) (x : Int) (hl : ds.length = k) (h : k < n) : (bs (ds ++ List.replicate (n - k) 0)).set k (.int .u8 x) = bs ((ds ++ [x]) ++ List.replicate (n - (k + 1)) 0) := by
  obtain ⟨m, rfl⟩ : ∃ m, n = k + (m + 1) := ⟨n - k - 1, by omega⟩
  rw [show k + (m + 1) - k = m + 1 from by omega, show k + (m + 1) - (k + 1) = m from by omega, List.replicate_succ]
  simp only [bs, List.map_append, List.map_cons, List.append_assoc, List.cons_append, List.nil_append, List.map_nil]
  rw [List.set_append_right _ _ (by simp; omega)]
  simp [hl]
theorem Dig.snoc {ds : List Int} {x : Int} (h : Dig ds) (h0 : 0 ≤ x) (h1 : x ≤ 255) : Dig (ds ++ [x]) := fun d hd => by
  rcases List.mem_append.1 hd with hd | hd
  · exact h d hd
  · simp at hd; subst hd; exact ⟨h0, h1⟩
theorem val_snoc (ds : List Int) (x : Int) : val (ds ++ [x]) = val ds + 256 ^ ds.length * x := by
  rw [val_append]; simp [val]
theorem digit_step {ds : List Int} {k : Nat} {X Y : Int} (h : ds.length = k ∧ Dig ds ∧ val ds + 256 ^ k * Y = X) (hY0 : 0 ≤ Y) :
    (ds ++ [Y % 256]).length = k + 1 ∧ Dig (ds ++ [Y % 256]) ∧ val (ds ++ [Y % 256]) + 256 ^ (k + 1) * (Y / 256) = X := by
  obtain ⟨h1, h2, h3⟩ := h
  refine ⟨by simp [h1], h2.snoc (by omega) (by omega), ?_⟩
  rw [val_snoc, h1, Int.pow_succ, Int.mul_assoc, Int.add_assoc, ← Int.mul_add, show Y % 256 + 256 * (Y / 256) = Y from by omega]
  exact h3
theorem digit_last {ds : List Int} {X Y : Int} (h : ds.length = 8 ∧ Dig ds ∧ val ds + 256 ^ 8 * Y = X) (hY0 : 0 ≤ Y) (h1 : X ≤ 65535) : val ds = X := by
  obtain ⟨_, h2, h3⟩ := h
  have := val_nonneg h2
  have : Y = 0 := by omega
  subst this
  omega

set_option maxHeartbeats 400000 in
theorem FromU64_any (X : Int) (w : World) (h0 : 0 ≤ X) (h1 : X ≤ 65535) :
    Calls Sabg.prog 12 #[.int .u64 X] w fun e w' => (∃ v es, e = .returned v ∧ IsNat w' v es ∧ val es = X) ∧ Below w.heap.size w w' := by
  go_enter Sabg.func12, Sabg.ntmps12
  go_wp2
  go_loopw [0, 5] (fun x i wr => ∃ (k : Nat) (ds : List Int) (Y : Int), k ≤ 8 ∧ i = .int .i64 k ∧ x = .int .u64 Y ∧ 0 ≤ Y ∧ Y ≤ 65535 ∧ Hid (ds.length = k ∧ Dig ds ∧ val ds + 256 ^ k * Y = X) ∧
    Blk wr w.heap.size 62 (bs (ds ++ List.replicate (8 - k) 0)) ∧ Below w.heap.size w wr) (fun _ i _ => 8 - (intOf i).toNat)
  case atStart =>
    refine ⟨0, [], X, by omega, rfl, rfl, h0, h1, ⟨rfl, Dig.nil, by simp [val]⟩, ?_, (Below.refl _ _).alloc (Nat.le_refl _) _⟩
    exact Blk.new w _ 62
  case round =>
    obtain ⟨k, ds, Y, hk, rfl, rfl, hY0, hY1, hD, hB, hbel⟩ := hrel
    by_cases hk8 : k < 8
    · have hcl := hB.cell k
      have hfr := hB.free k
      rw [bs_pad ds k 8 hD.out.1 hk8] at hcl
      go_wp2
      go_roundw
      case rel =>
        refine ⟨k + 1, ds ++ [Y % 256], Y / 256, by omega, by go_num, rfl, by omega, by omega, digit_step hD.out hY0, ?_, hbel.setCell (Nat.le_refl _) _⟩
        rw [← bs_put ds k 8 (Y % 256) hD.out.1 hk8]
        exact hB.set k _
      case measure => simp [intOf]; omega
    · obtain rfl : k = 8 := by omega
      go_wp2_with fail
      have hv := digit_last hD.out hY0 h1
      have hl := hD.out.1
      have hr := rowAt_blk hB (by simp [hl]; unfold maxLen; omega)
      simp only [Nat.sub_self, List.replicate_zero, List.append_nil] at hr
      rw [hl] at hr
      refine (Norm_any (some ⟨w.heap.size, 0, none⟩) 8 8 ds _ hl hr hD.out.2.1 (by omega)).mono ?_
      rintro e w' ⟨⟨v, es, rfl, hN, hv2⟩, hbel2⟩
      go_wp2
      go_ret
      refine ⟨⟨_, es, rfl, hN, hv2.trans hv⟩, hbel.trans (hbel2.mono hbel.size)⟩
end Go.Proofs.Ygcsab.Dest
