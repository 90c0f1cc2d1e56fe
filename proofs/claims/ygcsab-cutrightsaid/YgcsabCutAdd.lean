/-
  WALK: (*block.Cut).add (17).
-/
import Derived.Test.YgcsabCutFind
import Derived.Deep.AppendLies
import Derived.Deep.RegionLaw
namespace Go.Proofs.Ygcsab.Cut
open Go.RowKit Go.Proofs.Ygcsab.Dest
set_option linter.unusedVariables false
set_option linter.unusedSimpArgs false

/-- Below 'base' nothing has turned but block g. -/
structure Keeps (base g : Nat) (w w' : World) : Prop where
  os : w'.os = w.os
  tape : w'.tape = w.tape
  output : w'.output = w.output
  size : w.heap.size ≤ w'.heap.size
  block : ∀ k, k < base → k ≠ g → w'.heap[k]? = w.heap[k]?
theorem Keeps.refl (base g : Nat) (w : World) : Keeps base g w w := ⟨rfl, rfl, rfl, Nat.le_refl _, fun _ _ _ => rfl⟩
theorem Keeps.trans {base g : Nat} {a b c : World} (h : Keeps base g a b) (k : Keeps base g b c) : Keeps base g a c :=
  ⟨k.os.trans h.os, k.tape.trans h.tape, k.output.trans h.output, Nat.le_trans h.size k.size, fun i h1 h2 => (k.block i h1 h2).trans (h.block i h1 h2)⟩
theorem Keeps.drew {base g : Nat} {a w : World} (h : Keeps base g a w) : Keeps base g a w.drew := ⟨h.os, h.tape, h.output, h.size, h.block⟩
theorem Keeps.of_below {base g : Nat} {a w : World} (h : Below base a w) : Keeps base g a w := ⟨h.os, h.tape, h.output, h.size, fun k hk _ => h.block k hk⟩
theorem Keeps.setCell {base g : Nat} {a w : World} (h : Keeps base g a w) (i : Nat) (v : Value) : Keeps base g a (w.setCell ⟨g, i, none⟩ v) :=
  h.trans ⟨rfl, rfl, rfl, by simp [World.setCell], fun k _ hk => Below.heap_setCell _ _ _ _ hk⟩
theorem Keeps.blk {base g k : Nat} {w w' : World} {t : TypeId} {cs : List Value} (h : Keeps base g w w') (hb : Blk w k t cs) (hk : k < base) (hg : k ≠ g) : Blk w' k t cs := by
  unfold Blk; rw [h.block k hk hg]; exact hb
theorem Keeps.below {base g B : Nat} {w w' : World} (h : Keeps base g w w') (hB : B ≤ g) (hb : g < base) : Below B w w' := ⟨h.os, h.tape, h.output, h.size, fun k hk => h.block k (by omega) (by omega)⟩

theorem own_ne_new {w : World} {base : Nat} {e : TypeId} {size : Nat} {v : Value} {n : Nat} {xs : List Value} (h : w.ownsRow base e size v n xs) {g : Nat} (hg : w.heap.size ≤ g) : some g ≠ v.ownBlock := fun he => by
  have := (h.lt g he.symm).2
  omega
theorem Keeps.of_grown {w w' : World} {base g : Nat} {e : TypeId} {size : Nat} {v : Value} {n : Nat} {xs : List Value} (h : w.ownsRow base e size v n xs) (hg : w.grownBy w' v.ownBlock) (hb : base ≤ w.heap.size) : Keeps base g w w' :=
  ⟨hg.os, hg.tape, hg.output, hg.size, fun k hk _ => hg.block k (by omega) (own_ne h hk)⟩
theorem info48 : (Sabg.prog.info? 48).map (fun i => (i.zero, i.size, i.bytes)) = some (some (.agg (blk5 0 0 0 0 0).toArray), 5, 12) := by kernel_rfl
theorem cutC_set1 (vc vb vb' : Value) (S : List Nat) : (cutC vc vb S).set 1 vb' = cutC vc vb' S := rfl
theorem cutC_setS (vc vb : Value) (S : List Nat) (p x : Nat) : (cutC vc vb S).set (2 + p) (.int .u16 (x : Int)) = cutC vc vb (S.set p x) := by
  rw [Nat.add_comm]
  simp [cutC]

set_option maxHeartbeats 1000000 in
set_option maxRecDepth 100000 in
theorem add_any (g L base at_ last : Nat) (need rise gas : Int) (vc v : Value) (S : List Nat) (xs : List Value) (w : World) (hB : Blk w g 43 (cutC vc v S)) (hl : S.length = 512) (hat : at_ < 512) (hL : L < 512) (hgb : g < base) (hbw : base ≤ w.heap.size)
    (hown : w.ownsRow base 48 5 v L xs) :
    Calls Sabg.prog 17 #[.pointer (some ⟨g, 0, none⟩), .agg (blk5 at_ last need rise gas).toArray] w fun e w' => ∃ gb cap, e = .returned (.tuple #[]) ∧ Blk w' g 43 (cutC vc (.slice (some ⟨gb, 0, none⟩) (L + 1) cap) (S.set at_ (L + 1))) ∧
      w'.ownsRow base 48 5 (.slice (some ⟨gb, 0, none⟩) (L + 1) cap) (L + 1) (xs ++ blk5 at_ last need rise gas) ∧ Keeps base g w w' := by
  obtain ⟨i0, hi, hz0, hz1, hz2⟩ := info_parts info48
  have hgl := hB.lt
  have hc1 := hB.cell 1
  rw [cutC_1] at hc1
  have e5 : (blk5 at_ last need rise gas).toArray = #[.int .u16 at_, .int .u16 last, .int .u16 need, .int .u16 rise, .int .u32 gas] := rfl
  rw [e5]
  clear e5
  go_enter Sabg.func17, Sabg.ntmps17
  go_wp2
  have hownA : (((w.alloc (.cells (blk5 at_ last need rise gas).toArray 48)).alloc (.cells (blk5 at_ last need rise gas).toArray 48)).drew).ownsRow base 48 5 v L xs := (hown.alloc _).alloc _
  have hblkA : Blk (((w.alloc (.cells (blk5 at_ last need rise gas).toArray 48)).alloc (.cells (blk5 at_ last need rise gas).toArray 48)).drew) (w.heap.size + 1) 48 (blk5 at_ last need rise gas) := by
    have := Blk.new (w.alloc (.cells (blk5 at_ last need rise gas).toArray 48)) (blk5 at_ last need rise gas) 48
    rw [World.size_alloc] at this
    exact this
  have hboxA : Blk (((w.alloc (.cells (blk5 at_ last need rise gas).toArray 48)).alloc (.cells (blk5 at_ last need rise gas).toArray 48)).drew) w.heap.size 48 (blk5 at_ last need rise gas) := (Blk.new w _ 48).alloc _
  have hBA : Blk (((w.alloc (.cells (blk5 at_ last need rise gas).toArray 48)).alloc (.cells (blk5 at_ last need rise gas).toArray 48)).drew) g 43 (cutC vc v S) := (hB.alloc _).alloc _
  have hkA : Keeps base g w (((w.alloc (.cells (blk5 at_ last need rise gas).toArray 48)).alloc (.cells (blk5 at_ last need rise gas).toArray 48)).drew) := Keeps.of_below ((((Below.refl _ _).alloc hbw _).alloc (by simp; omega) _).drew)
  go_region_law (refine step_append_lies _ rfl (.tmp 8) (.tmp 10) 40 rfl base 48 i0 _ 5 12 Sabg.underlying40 hi hz0 hz1 hz2 rfl (by decide) v L xs rfl hownA ⟨w.heap.size + 1, 0, none⟩ 1 1 (blk5 at_ last need rise gas) rfl rfl (World.news_of_block hblkA) (blk5_one _ _ _ _ _) (by omega) (by unfold maxLen; omega) (by omega) (by simp; omega) _ rfl ?_; intro gb cap w1 hown1 hgrow1 hat1 hlt1; have hB1 := hBA.grown hgrow1 (own_ne hownA hgb); have cg1 : w1.cell? ⟨g, 1, none⟩ = some v := hB1.cell 1; have fg1 := hB1.free 1)
  all_goals
    have hbox1 := hboxA.grown hgrow1 (own_ne_new hown (Nat.le_refl _))
    have hk1 := hkA.trans (Keeps.of_grown hownA hgrow1 (by simp; omega))
    have hB2 := hB1.set 1 (.slice (some ⟨gb, 0, none⟩) (L + 1) cap)
    rw [cutC_set1] at hB2
    have hk2 := hk1.setCell 1 (.slice (some ⟨gb, 0, none⟩) (L + 1) cap)
    have hown2 := ownsRow_setCell_below hown1 (a := ⟨g, 1, none⟩) hgb (.slice (some ⟨gb, 0, none⟩) (L + 1) cap)
    have hbox2 := hbox1.other (a := ⟨g, 1, none⟩) (by simp; omega) (.slice (some ⟨gb, 0, none⟩) (L + 1) cap)
    generalize hW : w1.setCell ⟨g, 1, none⟩ (.slice (some ⟨gb, 0, none⟩) (L + 1) cap) = w2 at *
    clear hW hB1 cg1 fg1 hbox1 hk1 hown1 hgrow1 hat1 hlt1 hownA hblkA hboxA hBA hkA hown hc1
    have b0 : w2.cell? ⟨w.heap.size, 0, none⟩ = some (.int .u16 at_) := hbox2.cell 0
    have g1 : w2.cell? ⟨g, 1, none⟩ = some (.slice (some ⟨gb, 0, none⟩) (L + 1) cap) := hB2.cell 1
    have gs := hB2.cell (2 + at_)
    rw [cutC_at _ _ _ _ (by omega)] at gs
    have fs := hB2.free (2 + at_)
    go_wp2
    go_region
    go_wp2
    go_end0
    refine ⟨gb, cap, rfl, ?_, ?_, (hk2.setCell (2 + at_) _).drew⟩
    · have := hB2.set (2 + at_) (.int .u16 ((L + 1 : Nat) : Int))
      rw [cutC_setS] at this
      exact this
    · exact ownsRow_setCell_below hown2 (a := ⟨g, 2 + at_, none⟩) hgb _
end Go.Proofs.Ygcsab.Cut
