/-
  WALK: code.Scan (8).
-/
import Derived.Test.YgcsabDestNat1
import Derived.Test.YgcsabDestBits
import Derived.Test.YgcsabBlk
import Derived.RegionTactic
import Derived.BigRegion
namespace Go.Proofs.Ygcsab.Dest
open Go.RowKit
set_option linter.unusedVariables false
set_option linter.unusedSimpArgs false

def us (ws : List Nat) : List Value := ws.map (fun (m : Nat) => Value.int .u64 (m : Int))
theorem us_at (ws : List Nat) (i : Nat) (h : i < ws.length) : (us ws)[i]? = some (.int .u64 ((ws.getD i 0 : Nat) : Int)) := by simp [us, h]
theorem us_len (ws : List Nat) : (us ws).length = ws.length := by simp [us]
theorem us_set (ws : List Nat) (i m : Nat) : (us ws).set i (.int .u64 (m : Int)) = us (ws.set i m) := by simp [us]
theorem us_one (ws : List Nat) : ∀ v ∈ us ws, v.oneCell' = true := by
  intro v hv
  obtain ⟨_, _, rfl⟩ := List.mem_map.1 hv
  rfl
theorem size31 : (Sabg.prog.info? 31).map (·.size) = some 8 := by kernel_rfl
theorem desc31 : ∃ d, Sabg.prog.underlying 31 = some d ∧ (match d with | .struct _ | .array _ _ => true | _ => false) = true := ⟨_, Sabg.underlying31, rfl⟩

theorem results8 (tmps : Array Value) (w : World) (g : Nat) (cs : List Value) (hp : tmps.getD 2 undef = .pointer (some ⟨g, 0, none⟩)) (hg : Blk w g 31 cs) (hl : cs.length = 8) :
    (results Sabg.f8 tmps).run Sabg.prog w = .ok (.agg cs.toArray) w :=
  results_cell_row (P := Sabg.prog) (fn := Sabg.f8) (p := 2) (ty := 31) rfl tmps w g 31 cs.toArray (0, 0) _ hp hg Sabg.underlying31 rfl (by simp [hl, size31])

set_option maxHeartbeats 1000000 in
theorem Scan_long (a : Option Addr) (n cap : Nat) (w : World) (hs : 512 < n) (hm : n ≤ maxLen) :
    Calls Sabg.prog 8 #[.slice a n cap] w fun e w' => e = .returned (.agg (us zero8).toArray) ∧ Below w.heap.size w w' := by
  unfold maxLen at hm
  go_enter Sabg.func8, Sabg.ntmps8
  go_wp2
  have hb0 : Blk ((w.alloc (.cells (us zero8).toArray 31)).alloc (.cells (us zero8).toArray 31)) w.heap.size 31 (us zero8) := (Blk.new w (us zero8) 31).alloc _
  exact bodyPost_ret (v := .agg (us zero8).toArray) (results8 _ _ w.heap.size (us zero8) rfl hb0 rfl) rfl ⟨rfl, ((Below.refl _ _).alloc (Nat.le_refl _) _).alloc (by simp) _⟩

set_option maxHeartbeats 1000000 in
theorem Scan_any (a : Option Addr) (n cap : Nat) (l : List Int) (w : World) (hn : l.length = n) (hr : RowAt w a l cap) (hd : Dig l) (hs : n ≤ 512) :
    Calls Sabg.prog 8 #[.slice a n cap] w fun e w' => (∃ ws k, e = .returned (.agg (us ws).toArray) ∧ n ≤ k ∧ Bits ws l k) ∧ Below w.heap.size w w' := by
  have HR : Hid (RowAt w a l cap) := hr
  have HN : Hid (l.length = n) := hn
  clear hr hn
  have hd5 : decide ((512 : Int) < (n : Int)) = false := decide_eq_false (by omega)
  go_enter Sabg.func8, Sabg.ntmps8
  go_wp2
  go_loopw [4] (fun i wr => ∃ (k : Nat) (ws : List Nat), k ≤ n + 40 ∧ i = .int .i64 k ∧ Hid (Bits ws l k) ∧ At l k ∧ Blk wr w.heap.size 31 (us zero8) ∧ Blk wr (w.heap.size + 1) 31 (us ws) ∧ Below w.heap.size w wr) (fun i _ => n + 40 - (intOf i).toNat)
  case atStart =>
    refine ⟨0, zero8, by omega, rfl, Bits.zero l, At.zero l, ?_, ?_, ((Below.refl _ _).alloc (Nat.le_refl _) _).alloc (by simp) _⟩
    · exact (Blk.new w (us zero8) 31).alloc _
    · have := Blk.new (w.alloc (.cells (us zero8).toArray 31)) (us zero8) 31
      rw [World.size_alloc] at this
      exact this
  case round =>
    obtain ⟨k, ws, hk, rfl, hbit, hat, hB0, hB1, hbel⟩ := hrel
    have hwl := hbit.out.1
    by_cases hkn : k < n
    · have hkl : k < l.length := by rw [HN.out]; exact hkn
      have hrow := HR.out.2.2 (by omega)
      obtain ⟨b, off, rfl, hlt, hcs⟩ := hrow
      have hcx0 := hcs k hkl
      have hcx : wr.cell? ⟨b, off + k, none⟩ = some (.int .u8 (l.getD k 0)) := (hbel.cell (p := ⟨b, off + k, none⟩) hlt).trans hcx0
      clear hcx0
      have hxb := hd.getD k
      generalize hX : l.getD k 0 = x at hcx hxb
      have HX : Hid (l.getD k 0 = x) := hX
      clear hX hcs
      have him := imm_le x
      by_cases hj : x = 91
      · subst hj
        have hcm := hB1.cell (k / 64)
        rw [us_at ws _ (by rw [hwl]; omega)] at hcm
        have hfm := hB1.free (k / 64)
        have hmw := hbit.out.word (k / 64)
        generalize hM : ws.getD (k / 64) 0 = mw at hcm hmw
        have HM : Hid (ws.getD (k / 64) 0 = mw) := hM
        have HMW : Hid (mw < 2 ^ 64) := hmw
        clear hM hmw him
        go_wp2
        go_region
        rw [or_bit mw (k % 64) HMW.out (by omega)]
        have hcx2 : ((wr.setCell ⟨w.heap.size + 1, k / 64, none⟩ (.int .u64 ((mw ||| 2 ^ (k % 64) : Nat) : Int))).drew).cell? ⟨b, off + k, none⟩ = some (.int .u8 91) := by
          have hb1 : Below (w.heap.size + 1) wr (wr.setCell ⟨w.heap.size + 1, k / 64, none⟩ (.int .u64 ((mw ||| 2 ^ (k % 64) : Nat) : Int))).drew := ((Below.refl (w.heap.size + 1) wr).setCell (p := ⟨w.heap.size + 1, k / 64, none⟩) (Nat.le_refl _) _).drew
          rw [hb1.cell (p := ⟨b, off + k, none⟩) (by simp; omega)]
          exact hcx
        have hB1' := (hB1.set (k / 64) (.int .u64 ((mw ||| 2 ^ (k % 64) : Nat) : Int))).drew
        have hB0' := (hB0.other (a := ⟨w.heap.size + 1, k / 64, none⟩) (by simp) (.int .u64 ((mw ||| 2 ^ (k % 64) : Nat) : Int))).drew
        have hbel' : Below w.heap.size w (wr.setCell ⟨w.heap.size + 1, k / 64, none⟩ (.int .u64 ((mw ||| 2 ^ (k % 64) : Nat) : Int))).drew := (hbel.setCell (by simp) _).drew
        rw [us_set] at hB1'
        generalize hW : (wr.setCell ⟨w.heap.size + 1, k / 64, none⟩ (.int .u64 ((mw ||| 2 ^ (k % 64) : Nat) : Int))).drew = W at *
        clear hW hcm hfm hcx hB1 hB0
        go_wp2_with fail
        refine (Imm_low 91 _ (by omega) (by omega)).mono ?_
        rintro e w2 ⟨rfl, rfl⟩
        go_wp2
        go_roundw
        case rel =>
          have h1 := hbit.out.mark hat hkl (by omega) HX.out
          have h2 := hat.next hkl
          rw [HX.out] at h2
          rw [HM.out] at h1
          exact ⟨k + 1, _, by omega, by go_num, h1, h2, hB0', hB1', hbel'⟩
        case measure => simp [intOf]; omega
      · have hj' : (x == 91) = false := by simpa using hj
        go_wp2_with fail
        refine (Imm_any x _ hxb.1 hxb.2).mono ?_
        rintro e w2 ⟨rfl, rfl⟩
        go_wp2
        go_roundw
        case rel =>
          have h1 := hbit.out.pass hat hkl (by rw [HX.out]; exact hj)
          have h2 := hat.next hkl
          rw [HX.out] at h1 h2
          exact ⟨k + 1 + imm x, ws, by omega, by go_num, h1, h2, hB0, hB1, hbel⟩
        case measure => simp [intOf]; omega
    · go_wp2_with (first | (refine wpList_load_blk rfl 31 _ rfl (w.heap.size + 1) rfl 31 (us ws) _ hB1 Sabg.underlying31 rfl (by rw [us_len, hwl]; exact size31) ?_) | (refine wpList_store_blk rfl 31 _ _ rfl w.heap.size (us ws) rfl rfl 31 (us zero8) hB0 (by rw [us_len, hwl]; exact size31) (by rw [us_len, us_len, hwl]; rfl) (us_one _) ?_))
      intro w' hb' ho'
      go_wp2
      refine bodyPost_ret (v := .agg (us ws).toArray) (results8 _ w' w.heap.size (us ws) rfl hb' (by rw [us_len, hwl])) rfl ⟨⟨ws, k, rfl, by omega, hbit.out⟩, hbel.trans (ho'.below (Nat.le_refl _))⟩
end Go.Proofs.Ygcsab.Dest
