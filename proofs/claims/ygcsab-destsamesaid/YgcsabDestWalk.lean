/-
  WALK: law.DestSame (4).
-/
import Derived.Test.YgcsabDestHolds
import Derived.Test.YgcsabDestSeek
import Derived.Deep.RegionHeld3
namespace Go.Proofs.Ygcsab.Dest
open Go.RowKit
set_option linter.unusedVariables false
set_option linter.unusedSimpArgs false

theorem eight (ws : List Nat) (h : ws.length = 8) : ∃ a b c d e f g i, ws = [a, b, c, d, e, f, g, i] := by
  match ws, h with
  | [a, b, c, d, e, f, g, i], _ => exact ⟨a, b, c, d, e, f, g, i, rfl⟩

theorem IsDest_any (g T k : Nat) (t : TypeId) (ws : List Nat) (l : List Int) (w : World) (hT : T ≤ 65535) (hbit : Bits ws l k) (hk : l.length ≤ k) (h5 : l.length ≤ 512) (hB : Blk w g t (us ws)) :
    Calls Sabg.prog 10 #[.pointer (some ⟨g, 0, none⟩), .int .u16 T] w fun e w' => e = .returned (.bool (isD l 0 T)) ∧ w' = w := by
  by_cases h : T < 512
  · rw [← hbit.done hk T h]
    exact IsDest_near g T t ws w h hbit.1 hbit.2.1 hB
  · rw [isD_len l 0 T (by omega)]
    exact IsDest_far g T w (by omega) hT
theorem cell8 {W w' : World} {g : Nat} {m0 m1 m2 m3 m4 m5 m6 m7 : Nat} (hB : Blk W g 31 (us [m0, m1, m2, m3, m4, m5, m6, m7])) (hb : Below (g + 1) W w') :
    w'.cell? ⟨g, 0, none⟩ = some (.int .u64 m0) ∧ w'.cell? ⟨g, 1, none⟩ = some (.int .u64 m1) ∧ w'.cell? ⟨g, 2, none⟩ = some (.int .u64 m2) ∧ w'.cell? ⟨g, 3, none⟩ = some (.int .u64 m3) ∧
    w'.cell? ⟨g, 4, none⟩ = some (.int .u64 m4) ∧ w'.cell? ⟨g, 5, none⟩ = some (.int .u64 m5) ∧ w'.cell? ⟨g, 6, none⟩ = some (.int .u64 m6) ∧ w'.cell? ⟨g, 7, none⟩ = some (.int .u64 m7) := by
  have hB' := hB.below hb (by omega)
  refine ⟨?_, ?_, ?_, ?_, ?_, ?_, ?_, ?_⟩ <;> (rw [hB'.cell]; rfl)

theorem IsDest_zero (g T : Nat) (t : TypeId) (w : World) (hT : T ≤ 65535) (hB : Blk w g t (us zero8)) :
    Calls Sabg.prog 10 #[.pointer (some ⟨g, 0, none⟩), .int .u16 T] w fun e w' => e = .returned (.bool false) ∧ w' = w := by
  by_cases h : T < 512
  · refine (IsDest_near g T t zero8 w h rfl (Bits.zero []).2.1 hB).mono ?_
    rintro e w' ⟨rfl, rfl⟩
    rw [(Bits.zero []).2.2 T h]
    exact ⟨rfl, rfl⟩
  · exact IsDest_far g T w (by omega) hT
theorem cell80 {W w' : World} {g : Nat} (hB : Blk W g 31 (us [0, 0, 0, 0, 0, 0, 0, 0])) (hb : Below (g + 1) W w') :
    w'.cell? ⟨g, 0, none⟩ = some (.int .u64 0) ∧ w'.cell? ⟨g, 1, none⟩ = some (.int .u64 0) ∧ w'.cell? ⟨g, 2, none⟩ = some (.int .u64 0) ∧ w'.cell? ⟨g, 3, none⟩ = some (.int .u64 0) ∧
    w'.cell? ⟨g, 4, none⟩ = some (.int .u64 0) ∧ w'.cell? ⟨g, 5, none⟩ = some (.int .u64 0) ∧ w'.cell? ⟨g, 6, none⟩ = some (.int .u64 0) ∧ w'.cell? ⟨g, 7, none⟩ = some (.int .u64 0) := cell8 hB hb

set_option maxHeartbeats 400000 in
theorem same_short (a : Option Addr) (n cap : Nat) (l : List Int) (w : World) (hn : l.length = n) (hr : RowAt w a l cap) (hd : Dig l) (hs : n ≤ 512) (T : Nat) (hT : T ≤ 65535) :
    Calls Sabg.prog 4 #[.slice a n cap, .int .u16 T] w fun e w' => e = .returned (.bool true) ∧ Below w.heap.size w w' := by
  go_enter Sabg.func4, Sabg.ntmps4
  go_wp2_with fail
  refine (Scan_any a n cap l w hn hr hd hs).mono ?_
  rintro e w1 ⟨⟨ws, k, rfl, hnk, hbit⟩, hb1⟩
  have hwl := hbit.1
  have hblk0 : Blk (w1.alloc (.cells (us zero8).toArray 31)) w1.heap.size 31 (us zero8) := Blk.new w1 _ 31
  go_wp2_with (refine wpList_store_blk rfl 31 _ _ rfl w1.heap.size (us ws) rfl rfl 31 (us zero8) hblk0 (by rw [us_len, hwl]; exact size31) (by rw [us_len, us_len, hwl]; rfl) (us_one _) ?_)
  intro W hB hO
  have hbW : Below w.heap.size w W := (hb1.trans ((Below.refl _ _).alloc hb1.size _)).trans (hO.below hb1.size)
  have hsz : W.heap.size = w1.heap.size + 1 := by rw [hO.size]; simp
  clear hblk0 hO
  obtain ⟨m0, m1, m2, m3, m4, m5, m6, m7, hws⟩ := eight ws hwl
  have hB8 : Blk W w1.heap.size 31 (us [m0, m1, m2, m3, m4, m5, m6, m7]) := by rw [← hws]; exact hB
  have hBIT : Hid (Bits ws l k) := hbit
  have HWS : Hid (ws = [m0, m1, m2, m3, m4, m5, m6, m7]) := hws
  have HN : Hid (l.length = n) := hn
  clear hbit hws hn
  have hrW : RowAt W a l cap := hr.below hbW
  have HR : Hid (RowAt W a l cap) := hrW
  clear hr hrW
  have hd0 : Below (w1.heap.size + 1) W W.drew := (Below.refl _ _).drew
  have HWT : Hid (IntKind.u64.wrap (T : Int) = (T : Int)) := by
    show _ = _
    rw [IntKind.wrap_u64]; omega
  generalize hdd : isD l 0 T = dd
  have HD : Hid (isD l 0 T = dd) := hdd
  clear hdd
  go_wp2
  go_region_held3 (fun w' => w'.cell? ⟨w1.heap.size, 0, none⟩ = some (.int .u64 m0) ∧ w'.cell? ⟨w1.heap.size, 1, none⟩ = some (.int .u64 m1) ∧ w'.cell? ⟨w1.heap.size, 2, none⟩ = some (.int .u64 m2) ∧ w'.cell? ⟨w1.heap.size, 3, none⟩ = some (.int .u64 m3) ∧
    w'.cell? ⟨w1.heap.size, 4, none⟩ = some (.int .u64 m4) ∧ w'.cell? ⟨w1.heap.size, 5, none⟩ = some (.int .u64 m5) ∧ w'.cell? ⟨w1.heap.size, 6, none⟩ = some (.int .u64 m6) ∧ w'.cell? ⟨w1.heap.size, 7, none⟩ = some (.int .u64 m7)) (exact cell8 hB8 (by assumption))
    (first
      | (go_at_call 10; refine (IsDest_any w1.heap.size T k 31 ws l _ hT hBIT.out (by rw [HN.out]; exact hnk) (by rw [HN.out]; exact hs) (hB.below hd0 (by omega))).mono ?_; rintro e w2 ⟨rfl, rfl⟩; rw [HD.out])
      | (go_at_call 12; rw [HWT.out]; refine (FromU64_any T _ (by omega) (by omega)).mono ?_; rintro e w3 ⟨⟨v, es, rfl, ⟨hed, hec, ea, ecap, rfl, her⟩, hev⟩, hb3⟩; have hb3' : Below (w1.heap.size + 1) W w3 := hd0.trans (hb3.mono (by rw [← hsz]; exact hd0.size)))
      | (go_at_call 11; refine (Seek_any a n cap l _ HN.out (HR.out.below (by rw [hsz]; exact hb3')) hd (by omega) ea es.length ecap es rfl her hed hec T hev).mono ?_; rintro e w4 ⟨rfl, hb4⟩; rw [HD.out]; have hb4' : Below (w1.heap.size + 1) W w4 := hb3'.trans (hb4.mono (by rw [← hsz]; exact hb3'.size)))
      | (go_at_call 9; refine (destHolds_short a n cap l _ HN.out (HR.out.below (by rw [hsz]; exact hb4')) hd hs T hT [m0, m1, m2, m3, m4, m5, m6, m7] rfl dd HD.out).mono ?_; rintro e w5 ⟨rfl, hb5⟩; have hb5' : Below (w1.heap.size + 1) W w5 := hb4'.trans (hb5.mono (by rw [← hsz]; exact hb4'.size))))
  go_wp2
  go_ret
  exact ⟨rfl, hbW.trans (hb5'.mono (Nat.le_succ_of_le hb1.size))⟩
set_option maxHeartbeats 400000 in
theorem same_long (a : Option Addr) (n cap : Nat) (l : List Int) (w : World) (hn : l.length = n) (hr : RowAt w a l cap) (hd : Dig l) (hs : 512 < n) (hs47 : n ≤ 140737488355328) (T : Nat) (hT : T ≤ 65535) :
    Calls Sabg.prog 4 #[.slice a n cap, .int .u16 T] w fun e w' => e = .returned (.bool true) ∧ Below w.heap.size w w' := by
  go_enter Sabg.func4, Sabg.ntmps4
  go_wp2_with fail
  refine (Scan_long a n cap w hs (by unfold maxLen; omega)).mono ?_
  rintro e w1 ⟨rfl, hb1⟩
  have hblk0 : Blk (w1.alloc (.cells (us zero8).toArray 31)) w1.heap.size 31 (us zero8) := Blk.new w1 _ 31
  go_wp2_with (refine wpList_store_blk rfl 31 _ _ rfl w1.heap.size (us zero8) rfl rfl 31 (us zero8) hblk0 size31 rfl (us_one _) ?_)
  intro W hB hO
  have hbW : Below w.heap.size w W := (hb1.trans ((Below.refl _ _).alloc hb1.size _)).trans (hO.below hb1.size)
  have hsz : W.heap.size = w1.heap.size + 1 := by rw [hO.size]; simp
  clear hblk0 hO
  have hB8 : Blk W w1.heap.size 31 (us [0, 0, 0, 0, 0, 0, 0, 0]) := hB
  have HN : Hid (l.length = n) := hn
  clear hn
  have hrW : RowAt W a l cap := hr.below hbW
  have HR : Hid (RowAt W a l cap) := hrW
  clear hr hrW
  have hd0 : Below (w1.heap.size + 1) W W.drew := (Below.refl _ _).drew
  have HWT : Hid (IntKind.u64.wrap (T : Int) = (T : Int)) := by
    show _ = _
    rw [IntKind.wrap_u64]; omega
  generalize hdd : isD l 0 T = dd
  have HD : Hid (isD l 0 T = dd) := hdd
  clear hdd
  go_wp2
  go_region_held3 (fun w' => w'.cell? ⟨w1.heap.size, 0, none⟩ = some (.int .u64 0) ∧ w'.cell? ⟨w1.heap.size, 1, none⟩ = some (.int .u64 0) ∧ w'.cell? ⟨w1.heap.size, 2, none⟩ = some (.int .u64 0) ∧ w'.cell? ⟨w1.heap.size, 3, none⟩ = some (.int .u64 0) ∧
    w'.cell? ⟨w1.heap.size, 4, none⟩ = some (.int .u64 0) ∧ w'.cell? ⟨w1.heap.size, 5, none⟩ = some (.int .u64 0) ∧ w'.cell? ⟨w1.heap.size, 6, none⟩ = some (.int .u64 0) ∧ w'.cell? ⟨w1.heap.size, 7, none⟩ = some (.int .u64 0)) (exact cell80 hB8 (by assumption))
    (first
      | (go_at_call 10; refine (IsDest_zero w1.heap.size T 31 _ hT (hB.below hd0 (by omega))).mono ?_; rintro e w2 ⟨rfl, rfl⟩)
      | (go_at_call 12; rw [HWT.out]; refine (FromU64_any T _ (by omega) (by omega)).mono ?_; rintro e w3 ⟨⟨v, es, rfl, ⟨hed, hec, ea, ecap, rfl, her⟩, hev⟩, hb3⟩; have hb3' : Below (w1.heap.size + 1) W w3 := hd0.trans (hb3.mono (by rw [← hsz]; exact hd0.size)))
      | (go_at_call 11; refine (Seek_any a n cap l _ HN.out (HR.out.below (by rw [hsz]; exact hb3')) hd (by omega) ea es.length ecap es rfl her hed hec T hev).mono ?_; rintro e w4 ⟨rfl, hb4⟩; rw [HD.out]; have hb4' : Below (w1.heap.size + 1) W w4 := hb3'.trans (hb4.mono (by rw [← hsz]; exact hb3'.size)))
      | (go_at_call 9; refine (destHolds_long a n cap l _ HN.out (HR.out.below (by rw [hsz]; exact hb4')) hd hs T hT dd HD.out).mono ?_; rintro e w5 ⟨rfl, hb5⟩; have hb5' : Below (w1.heap.size + 1) W w5 := hb4'.trans (hb5.mono (by rw [← hsz]; exact hb4'.size))))
  go_wp2
  go_ret
  exact ⟨rfl, hbW.trans (hb5'.mono (Nat.le_succ_of_le hb1.size))⟩
end Go.Proofs.Ygcsab.Dest
