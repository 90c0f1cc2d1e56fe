/-
  WALKS: law.opImmList (26), givesList (29), takesList (30), zeroStatusList (33), zeroGasList (34).
-/
import Derived.Test.YgcsabProg
import Derived.Test.YgcsabCutTables
import Derived.Test.YgcsabBlk
import Derived.Great.Walk
namespace Go.Proofs.Ygcsab.Cut
open Go.RowKit Go.Great
set_option linter.unusedVariables false
set_option linter.unusedSimpArgs false

/-- A list of numbers as an array's cells. -/
def b8 (l : List Int) : List Value := l.map (Value.int .u8)
def b16 (l : List Int) : List Value := l.map (Value.int .u16)
def z256 : List Value := List.replicate 256 (.int .u8 0)
def z256w : List Value := List.replicate 256 (.int .u16 0)
theorem b8_one (l : List Int) : ∀ v ∈ b8 l, v.oneCell' = true := by
  intro v hv
  obtain ⟨_, _, rfl⟩ := List.mem_map.1 hv
  rfl
theorem b16_one (l : List Int) : ∀ v ∈ b16 l, v.oneCell' = true := by
  intro v hv
  obtain ⟨_, _, rfl⟩ := List.mem_map.1 hv
  rfl
theorem size66 : (Sabg.prog.info? 66).map (·.size) = some 256 := by kernel_rfl
theorem size69 : (Sabg.prog.info? 69).map (·.size) = some 256 := by kernel_rfl


theorem res26 (tmps : Array Value) (w : World) (g : Nat) (cs : List Value) (hp : tmps.getD 0 undef = .pointer (some ⟨g, 0, none⟩)) (hg : Blk w g 66 cs) (hl : cs.length = 256) :
    (results Sabg.f26 tmps).run Sabg.prog w = .ok (.agg cs.toArray) w :=
  results_cell_row (P := Sabg.prog) (fn := Sabg.f26) (p := 0) (ty := 66) rfl tmps w g 66 cs.toArray (0, 0) _ hp hg Sabg.underlying66 rfl (by simp [hl, size66])
set_option maxRecDepth 100000 in
theorem immList_c (w : World) : Calls Sabg.prog 26 #[] w fun e w' => e = .returned (.agg (b8 immL).toArray) ∧ Below w.heap.size w w' := by
  go_enter Sabg.func26, Sabg.ntmps26
  go_wp2_with (first
    | (refine wpList_runTo rfl (some 0) rfl (.pointer (some ⟨w.heap.size, 0, none⟩)) (w.alloc (.cells z256.toArray 66)) (by kernel_rfl) ?_)
    | (refine wpList_runTo rfl (some 1) rfl (.agg (b8 immL).toArray) (w.alloc (.cells z256.toArray 66)) (by kernel_rfl) ?_)
    | (refine wpList_store_blk rfl 66 _ _ rfl w.heap.size (b8 immL) rfl rfl 66 z256 (Blk.new w z256 66) size66 rfl (b8_one _) ?_))
  intro w' hb ho
  go_wp2
  exact bodyPost_ret (v := .agg (b8 immL).toArray) (res26 _ w' w.heap.size (b8 immL) rfl hb rfl) rfl ⟨rfl, ((Below.refl _ _).alloc (Nat.le_refl _) _).trans (ho.below (Nat.le_refl _))⟩

theorem res29 (tmps : Array Value) (w : World) (g : Nat) (cs : List Value) (hp : tmps.getD 0 undef = .pointer (some ⟨g, 0, none⟩)) (hg : Blk w g 66 cs) (hl : cs.length = 256) :
    (results Sabg.f29 tmps).run Sabg.prog w = .ok (.agg cs.toArray) w :=
  results_cell_row (P := Sabg.prog) (fn := Sabg.f29) (p := 0) (ty := 66) rfl tmps w g 66 cs.toArray (0, 0) _ hp hg Sabg.underlying66 rfl (by simp [hl, size66])
set_option maxRecDepth 100000 in
theorem givesList_c (w : World) : Calls Sabg.prog 29 #[] w fun e w' => e = .returned (.agg (b8 givesL).toArray) ∧ Below w.heap.size w w' := by
  go_enter Sabg.func29, Sabg.ntmps29
  go_wp2_with (first
    | (refine wpList_runTo rfl (some 0) rfl (.pointer (some ⟨w.heap.size, 0, none⟩)) (w.alloc (.cells z256.toArray 66)) (by kernel_rfl) ?_)
    | (refine wpList_runTo rfl (some 1) rfl (.agg (b8 givesL).toArray) (w.alloc (.cells z256.toArray 66)) (by kernel_rfl) ?_)
    | (refine wpList_store_blk rfl 66 _ _ rfl w.heap.size (b8 givesL) rfl rfl 66 z256 (Blk.new w z256 66) size66 rfl (b8_one _) ?_))
  intro w' hb ho
  go_wp2
  exact bodyPost_ret (v := .agg (b8 givesL).toArray) (res29 _ w' w.heap.size (b8 givesL) rfl hb rfl) rfl ⟨rfl, ((Below.refl _ _).alloc (Nat.le_refl _) _).trans (ho.below (Nat.le_refl _))⟩

theorem res30 (tmps : Array Value) (w : World) (g : Nat) (cs : List Value) (hp : tmps.getD 0 undef = .pointer (some ⟨g, 0, none⟩)) (hg : Blk w g 66 cs) (hl : cs.length = 256) :
    (results Sabg.f30 tmps).run Sabg.prog w = .ok (.agg cs.toArray) w :=
  results_cell_row (P := Sabg.prog) (fn := Sabg.f30) (p := 0) (ty := 66) rfl tmps w g 66 cs.toArray (0, 0) _ hp hg Sabg.underlying66 rfl (by simp [hl, size66])
set_option maxRecDepth 100000 in
theorem takesList_c (w : World) : Calls Sabg.prog 30 #[] w fun e w' => e = .returned (.agg (b8 takesL).toArray) ∧ Below w.heap.size w w' := by
  go_enter Sabg.func30, Sabg.ntmps30
  go_wp2_with (first
    | (refine wpList_runTo rfl (some 0) rfl (.pointer (some ⟨w.heap.size, 0, none⟩)) (w.alloc (.cells z256.toArray 66)) (by kernel_rfl) ?_)
    | (refine wpList_runTo rfl (some 1) rfl (.agg (b8 takesL).toArray) (w.alloc (.cells z256.toArray 66)) (by kernel_rfl) ?_)
    | (refine wpList_store_blk rfl 66 _ _ rfl w.heap.size (b8 takesL) rfl rfl 66 z256 (Blk.new w z256 66) size66 rfl (b8_one _) ?_))
  intro w' hb ho
  go_wp2
  exact bodyPost_ret (v := .agg (b8 takesL).toArray) (res30 _ w' w.heap.size (b8 takesL) rfl hb rfl) rfl ⟨rfl, ((Below.refl _ _).alloc (Nat.le_refl _) _).trans (ho.below (Nat.le_refl _))⟩

theorem res33 (tmps : Array Value) (w : World) (g : Nat) (cs : List Value) (hp : tmps.getD 0 undef = .pointer (some ⟨g, 0, none⟩)) (hg : Blk w g 66 cs) (hl : cs.length = 256) :
    (results Sabg.f33 tmps).run Sabg.prog w = .ok (.agg cs.toArray) w :=
  results_cell_row (P := Sabg.prog) (fn := Sabg.f33) (p := 0) (ty := 66) rfl tmps w g 66 cs.toArray (0, 0) _ hp hg Sabg.underlying66 rfl (by simp [hl, size66])
set_option maxRecDepth 100000 in
theorem statusList_c (w : World) : Calls Sabg.prog 33 #[] w fun e w' => e = .returned (.agg (b8 statusL).toArray) ∧ Below w.heap.size w w' := by
  go_enter Sabg.func33, Sabg.ntmps33
  go_wp2_with (first
    | (refine wpList_runTo rfl (some 0) rfl (.pointer (some ⟨w.heap.size, 0, none⟩)) (w.alloc (.cells z256.toArray 66)) (by kernel_rfl) ?_)
    | (refine wpList_runTo rfl (some 1) rfl (.agg (b8 statusL).toArray) (w.alloc (.cells z256.toArray 66)) (by kernel_rfl) ?_)
    | (refine wpList_store_blk rfl 66 _ _ rfl w.heap.size (b8 statusL) rfl rfl 66 z256 (Blk.new w z256 66) size66 rfl (b8_one _) ?_))
  intro w' hb ho
  go_wp2
  exact bodyPost_ret (v := .agg (b8 statusL).toArray) (res33 _ w' w.heap.size (b8 statusL) rfl hb rfl) rfl ⟨rfl, ((Below.refl _ _).alloc (Nat.le_refl _) _).trans (ho.below (Nat.le_refl _))⟩

theorem res34 (tmps : Array Value) (w : World) (g : Nat) (cs : List Value) (hp : tmps.getD 0 undef = .pointer (some ⟨g, 0, none⟩)) (hg : Blk w g 69 cs) (hl : cs.length = 256) :
    (results Sabg.f34 tmps).run Sabg.prog w = .ok (.agg cs.toArray) w :=
  results_cell_row (P := Sabg.prog) (fn := Sabg.f34) (p := 0) (ty := 69) rfl tmps w g 69 cs.toArray (0, 0) _ hp hg Sabg.underlying69 rfl (by simp [hl, size69])
set_option maxRecDepth 100000 in
theorem gasList_c (w : World) : Calls Sabg.prog 34 #[] w fun e w' => e = .returned (.agg (b16 gasL).toArray) ∧ Below w.heap.size w w' := by
  go_enter Sabg.func34, Sabg.ntmps34
  go_wp2_with (first
    | (refine wpList_runTo rfl (some 0) rfl (.pointer (some ⟨w.heap.size, 0, none⟩)) (w.alloc (.cells z256w.toArray 69)) (by kernel_rfl) ?_)
    | (refine wpList_runTo rfl (some 1) rfl (.agg (b16 gasL).toArray) (w.alloc (.cells z256w.toArray 69)) (by kernel_rfl) ?_)
    | (refine wpList_store_blk rfl 69 _ _ rfl w.heap.size (b16 gasL) rfl rfl 69 z256w (Blk.new w z256w 69) size69 rfl (b16_one _) ?_))
  intro w' hb ho
  go_wp2
  exact bodyPost_ret (v := .agg (b16 gasL).toArray) (res34 _ w' w.heap.size (b16 gasL) rfl hb rfl) rfl ⟨rfl, ((Below.refl _ _).alloc (Nat.le_refl _) _).trans (ho.below (Nat.le_refl _))⟩
end Go.Proofs.Ygcsab.Cut
