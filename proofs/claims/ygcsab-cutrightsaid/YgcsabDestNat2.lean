/-
  WALKS: nat.clip (32), nat.Cmp (22).
-/
import Derived.Test.YgcsabDestNat1
import Derived.Test.YgcsabBlk
import Derived.RegionTactic
import Derived.Deep.QuietTactic
import Derived.BigQuiet
namespace Go.Proofs.Ygcsab.Dest
open Go.RowKit
set_option linter.unusedVariables false
set_option linter.unusedSimpArgs false



/-- WHAT 'clip', 'Norm', 'Add' GIVE: nil for zero, else a slice. -/
def IsNat (w : World) (v : Value) (ds : List Int) : Prop :=
  Dig ds ∧ Can ds ∧ ∃ a cap, v = .slice a ds.length cap ∧ RowAt w a ds cap

theorem clip_any (a : Option Addr) (n cap : Nat) (ds : List Int) (w : World) (hn : ds.length = n) (h : RowAt w a ds cap) (hd : Dig ds) :
    Calls Sabg.prog 32 #[.slice a n cap] w fun e w' => (∃ v es, e = .returned v ∧ IsNat w v es ∧ val es = val ds) ∧ w' = w := by
  have hm : n ≤ maxLen := by have := h.1; have := h.2.1; omega
  unfold maxLen at hm
  go_enter Sabg.func32, Sabg.ntmps32
  go_wp2_with fail
  refine (trim_any a n cap ds w hn h).mono ?_
  rintro e w' ⟨⟨k, rfl, ht⟩, rfl⟩
  have hkn := ht.1
  have HT : Hid (Top ds n k) := ht
  clear ht
  by_cases hk : k = 0
  · subst hk
    go_wp2
    go_ret
    have ht := HT.out
    subst hn
    exact ⟨⟨_, [], rfl, ⟨Dig.nil, Can.nil, none, 0, rfl, by simp [RowAt]⟩, by have := ht.val; simpa using this⟩, rfl⟩
  · have hk' : ((k : Int) == 0) = false := by simp; omega
    go_wp2
    go_ret
    have ht := HT.out
    subst hn
    refine ⟨⟨_, ds.take k, rfl, ⟨hd.take k, ht.can, a, k, ?_, h.take hkn⟩, ht.val⟩, rfl⟩
    simp; omega

/-- Two numbers of different lengths. -/
theorem Cmp_len (a a' : Option Addr) (n n' cap cap' : Nat) (da db : List Int) (w : World) (hn : da.length = n) (hn' : db.length = n') (ha : RowAt w a da cap) (hb : RowAt w a' db cap') (ca : Can da) (cb : Can db) (hne : n ≠ n') :
    Calls Sabg.prog 22 #[.slice a n cap, .slice a' n' cap'] w fun e w' => (∃ r, e = .returned (.int .i8 r) ∧ r ≠ 0) ∧ w' = w := by
  have hm : n ≤ maxLen := by have := ha.1; have := ha.2.1; omega
  have hm' : n' ≤ maxLen := by have := hb.1; have := hb.2.1; omega
  unfold maxLen at hm hm'
  by_cases hlt : n < n'
  · go_enter Sabg.func22, Sabg.ntmps22
    go_wp2_with fail
    refine (trim_can a n cap da w hn ha ca).mono ?_
    rintro e w' ⟨rfl, rfl⟩
    go_wp2_with fail
    refine (trim_can a' n' cap' db _ hn' hb cb).mono ?_
    rintro e w' ⟨rfl, rfl⟩
    go_wp2
    go_ret
    exact ⟨⟨_, rfl, by decide⟩, rfl⟩
  · have hlt' : n' < n := by omega
    go_enter Sabg.func22, Sabg.ntmps22
    go_wp2_with fail
    refine (trim_can a n cap da w hn ha ca).mono ?_
    rintro e w' ⟨rfl, rfl⟩
    go_wp2_with fail
    refine (trim_can a' n' cap' db _ hn' hb cb).mono ?_
    rintro e w' ⟨rfl, rfl⟩
    go_wp2
    go_ret
    exact ⟨⟨_, rfl, by decide⟩, rfl⟩

def Says (n : Nat) (da db : List Int) (r : Int) : Prop := r = 0 ↔ ∀ i, i < n → da.getD i 0 = db.getD i 0
theorem Says.no {n : Nat} {da db : List Int} {r : Int} (j : Nat) (hj : j < n) (h : da.getD j 0 ≠ db.getD j 0) (hr : r ≠ 0) : Says n da db r :=
  ⟨fun h0 => absurd h0 hr, fun h1 => absurd (h1 j hj) h⟩
theorem Says.yes {n : Nat} {da db : List Int} (h : ∀ j, 0 ≤ j → j < n → da.getD j 0 = db.getD j 0) : Says n da db 0 :=
  ⟨fun _ i hi => h i (Nat.zero_le _) hi, fun _ => rfl⟩
set_option maxHeartbeats 400000 in
theorem Cmp_same (a a' : Option Addr) (n cap cap' : Nat) (da db : List Int) (w : World) (hn : da.length = n) (hn' : db.length = n) (ha : RowAt w a da cap) (hb : RowAt w a' db cap') (ca : Can da) (cb : Can db) :
    Calls Sabg.prog 22 #[.slice a n cap, .slice a' n cap'] w fun e w' => (∃ r, e = .returned (.int .i8 r) ∧ Says n da db r) ∧ Below w.heap.size w w' := by
  have hm : n ≤ maxLen := by have := ha.1; have := ha.2.1; omega
  unfold maxLen at hm
  by_cases h0 : n = 0
  · subst h0
    go_enter Sabg.func22, Sabg.ntmps22
    go_wp2_with fail
    refine (trim_can a 0 cap da w hn ha ca).mono ?_
    rintro e w' ⟨rfl, rfl⟩
    go_wp2_with fail
    refine (trim_can a' 0 cap' db _ hn' hb cb).mono ?_
    rintro e w' ⟨rfl, rfl⟩
    go_wp2
    go_loop [5] (fun i => i = .int .i64 0) (fun _ => 0)
    case atStart => rfl
    case round =>
      subst hrel
      go_wp2
      go_ret
      exact ⟨⟨0, rfl, Says.yes (fun j _ h => absurd h (by omega))⟩, Below.refl _ _⟩
  · have hac := ha.2.2 (by omega)
    have hbc := hb.2.2 (by omega)
    obtain ⟨b, off, rfl, hlt, hc⟩ := hac
    obtain ⟨b', off', rfl, hlt', hc'⟩ := hbc
    go_enter Sabg.func22, Sabg.ntmps22
    go_wp2_with fail
    refine (trim_can (some ⟨b, off, none⟩) n cap da w hn ha ca).mono ?_
    rintro e w' ⟨rfl, rfl⟩
    go_wp2_with fail
    refine (trim_can (some ⟨b', off', none⟩) n cap' db _ hn' hb cb).mono ?_
    rintro e w1 ⟨rfl, rfl⟩
    rw [hn] at hc
    rw [hn'] at hc'
    clear ha hb ca cb hn hn'
    go_wp2
    go_loopw [5] (fun i wr => ∃ k : Nat, k ≤ n ∧ i = .int .i64 k ∧ Hid (∀ j, k ≤ j → j < n → da.getD j 0 = db.getD j 0) ∧ Below w1.heap.size w1 wr) (fun i _ => (intOf i).toNat)
    case atStart => exact ⟨n, Nat.le_refl _, rfl, fun j h1 h2 => absurd h2 (by omega), Below.refl _ _⟩
    case round =>
      obtain ⟨k, hk, rfl, hz, hbel⟩ := hrel
      by_cases hk0 : k = 0
      · subst hk0
        go_wp2
        go_ret
        exact ⟨⟨0, rfl, Says.yes hz.out⟩, hbel⟩
      · obtain ⟨j, rfl⟩ : ∃ j, k = j + 1 := ⟨k - 1, by omega⟩
        have c1 : wr.cell? ⟨b, off + j, none⟩ = some (.int .u8 (da.getD j 0)) := (hbel.cell (p := ⟨b, off + j, none⟩) hlt).trans (hc j (by omega))
        have c2 : wr.cell? ⟨b', off' + j, none⟩ = some (.int .u8 (db.getD j 0)) := (hbel.cell (p := ⟨b', off' + j, none⟩) hlt').trans (hc' j (by omega))
        clear hc hc'
        generalize hx : da.getD j 0 = x at c1
        generalize hy : db.getD j 0 = y at c2
        have HX : Hid (da.getD j 0 = x) := hx
        have HY : Hid (db.getD j 0 = y) := hy
        clear hx hy
        have hjn : (j : Int) < (n : Int) := by omega
        by_cases hlt1 : x < y
        · go_wp2
          go_quiet (fail)
          go_wp2
          go_ret
          exact ⟨⟨-1, rfl, Says.no j (by omega) (by rw [HX.out, HY.out]; omega) (by decide)⟩, bdrewN hbel _⟩
        · by_cases hgt1 : y < x
          · go_wp2
            go_quiet (fail)
            go_wp2
            go_quiet (fail)
            go_wp2
            go_ret
            exact ⟨⟨1, rfl, Says.no j (by omega) (by rw [HX.out, HY.out]; omega) (by decide)⟩, bdrewN (bdrewN hbel _) _⟩
          · go_wp2
            go_quiet (fail)
            go_wp2
            go_quiet (fail)
            go_wp2
            go_roundw
            case rel =>
              refine ⟨j, by omega, rfl, fun i h1 h2 => ?_, bdrewN hbel _⟩
              by_cases hij : i = j
              · subst hij; rw [HX.out, HY.out]; omega
              · exact hz.out i (by omega) h2
            case measure => simp [intOf]
/-- THE TWO NUMBERS ARE HELD AGAINST EACH OTHER: 0 just where they are one. -/
theorem Cmp_eq (a a' : Option Addr) (n n' cap cap' : Nat) (da db : List Int) (w : World) (hn : da.length = n) (hn' : db.length = n') (ha : RowAt w a da cap) (hb : RowAt w a' db cap') (ca : Can da) (cb : Can db) (he : da = db) :
    Calls Sabg.prog 22 #[.slice a n cap, .slice a' n' cap'] w fun e w' => e = .returned (.int .i8 0) ∧ Below w.heap.size w w' := by
  subst he
  obtain rfl : n = n' := hn.symm.trans hn'
  refine (Cmp_same a a' n cap cap' da da w hn hn ha hb ca cb).mono ?_
  rintro e w' ⟨⟨r, rfl, hr⟩, hbel⟩
  rw [hr.2 (fun _ _ => rfl)]
  exact ⟨rfl, hbel⟩
theorem ext_getD {da db : List Int} (hl : da.length = db.length) (h : ∀ i, i < da.length → da.getD i 0 = db.getD i 0) : da = db := by
  refine List.ext_getElem hl fun i h1 h2 => ?_
  have := h i h1
  rw [getD_in da i h1, getD_in db i h2] at this
  exact this
theorem Cmp_ne (a a' : Option Addr) (n n' cap cap' : Nat) (da db : List Int) (w : World) (hn : da.length = n) (hn' : db.length = n') (ha : RowAt w a da cap) (hb : RowAt w a' db cap') (ca : Can da) (cb : Can db) (he : da ≠ db) :
    Calls Sabg.prog 22 #[.slice a n cap, .slice a' n' cap'] w fun e w' => (∃ r, e = .returned (.int .i8 r) ∧ r ≠ 0) ∧ Below w.heap.size w w' := by
  by_cases hne : n = n'
  · subst hne
    refine (Cmp_same a a' n cap cap' da db w hn hn' ha hb ca cb).mono ?_
    rintro e w' ⟨⟨r, rfl, hr⟩, hbel⟩
    refine ⟨⟨r, rfl, fun h0 => he ?_⟩, hbel⟩
    exact ext_getD (hn.trans hn'.symm) (by rw [hn]; exact hr.1 h0)
  · refine (Cmp_len a a' n n' cap cap' da db w hn hn' ha hb ca cb hne).mono ?_
    rintro e w' ⟨⟨r, rfl, hr⟩, rfl⟩
    exact ⟨⟨r, rfl, hr⟩, Below.refl _ _⟩
end Go.Proofs.Ygcsab.Dest
