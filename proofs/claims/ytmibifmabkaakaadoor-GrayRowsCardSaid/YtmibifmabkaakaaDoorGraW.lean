/- Package gray and its reference: the words, walked. No condition but that the table of bits lies in its variable. -/
import Derived.Test.YtmibifmabkaakaaDoorGraM
import Derived.Shelf.Spec.TrailingZeros
import Derived.BigQuiet
import Derived.IntWalk
namespace Go.Proofs.YtmibifmabkaakaaDoor
open Go.ChangeShapes Go.WideShapes Go.ChangeAt Go.RowKit
set_option linter.unusedVariables false

theorem gpow_cast (k : Nat) : ((2 : Int) ^ k) = ((2 ^ k : Nat) : Int) := by rw [Int.natCast_pow]; rfl
theorem gw64 {k : Nat} (h : k < 9223372036854775807) : wrap64 ((k : Int) + 1) = ((k + 1 : Nat) : Int) := by unfold wrap64; omega
theorem code_any (x : BitVec 64) (w : World) :
    Calls Tryd.prog 45 #[W64 x] w fun e w' => e = .returned (W64 (gcode x)) ∧ w' = w := by
  have s1 := fun y => wv_shr y 1 (n := 2) rfl
  have hx := wv_xor
  go_enter Tryd.func45, Tryd.ntmps45
  go_wp2_with fail
  go_ret
  exact ⟨rfl, rfl⟩
set_option maxRecDepth 20000 in
set_option maxHeartbeats 4000000 in
theorem place_any (c : BitVec 64) (w : World) :
    Calls Tryd.prog 47 #[W64 c] w fun e w' => e = .returned (W64 (gpl c 6)) ∧ w' = w := by
  go_enter Tryd.func47, Tryd.ntmps47
  go_wp2_with fail
  go_loop [3, 4] (fun s3 s4 => ∃ j : Nat, j ≤ 6 ∧ s4 = .int .i64 ((2 ^ j : Nat) : Int) ∧ s3 = W64 (gpl c j)) (fun _ s4 => 64 - (intOf s4).toNat)
  case atStart => exact ⟨0, by decide, rfl, rfl⟩
  case round =>
    obtain ⟨j, hj, rfl, rfl⟩ := hrel
    have hx := wv_xor
    have HS : Hid (gpl c (j + 1) = gpl c j ^^^ (gpl c j >>> (2 ^ j))) := rfl
    rcases (by omega : j = 0 ∨ j = 1 ∨ j = 2 ∨ j = 3 ∨ j = 4 ∨ j = 5 ∨ j = 6) with rfl | rfl | rfl | rfl | rfl | rfl | rfl
    · have s1 := fun y => wv_shr y 1 (n := 2) rfl
      generalize gpl c 0 = y at *
      go_wp2_with fail
      go_round
      case rel => exact ⟨1, by decide, rfl, by rw [HS.out]⟩
      case measure => decide
    · have s1 := fun y => wv_shr y 2 (n := 4) rfl
      generalize gpl c 1 = y at *
      go_wp2_with fail
      go_round
      case rel => exact ⟨2, by decide, rfl, by rw [HS.out]⟩
      case measure => decide
    · have s1 := fun y => wv_shr y 4 (n := 16) rfl
      generalize gpl c 2 = y at *
      go_wp2_with fail
      go_round
      case rel => exact ⟨3, by decide, rfl, by rw [HS.out]⟩
      case measure => decide
    · have s1 := fun y => wv_shr y 8 (n := 256) rfl
      generalize gpl c 3 = y at *
      go_wp2_with fail
      go_round
      case rel => exact ⟨4, by decide, rfl, by rw [HS.out]⟩
      case measure => decide
    · have s1 := fun y => wv_shr y 16 (n := 65536) rfl
      generalize gpl c 4 = y at *
      go_wp2_with fail
      go_round
      case rel => exact ⟨5, by decide, rfl, by rw [HS.out]⟩
      case measure => decide
    · have s1 := fun y => wv_shr y 32 (n := 4294967296) rfl
      generalize gpl c 5 = y at *
      go_wp2_with fail
      go_round
      case rel => exact ⟨6, by decide, rfl, by rw [HS.out]⟩
      case measure => decide
    · go_wp2_with fail
      go_ret
      exact ⟨rfl, rfl⟩
set_option maxRecDepth 20000 in
set_option maxHeartbeats 4000000 in
theorem xcode_any (n : BitVec 64) (w : World) :
    Calls Tryd.prog 46 #[W64 n] w fun e w' => e = .returned (W64 (gcode n)) ∧ w' = w := by
  go_enter Tryd.func46, Tryd.ntmps46
  go_wp2_with fail
  go_loop [3, 7] (fun s3 s7 => ∃ k : Nat, k ≤ 64 ∧ s7 = .int .i64 k ∧ s3 = W64 (xc n k)) (fun _ s7 => 64 - (intOf s7).toNat)
  case atStart => exact ⟨0, Nat.zero_le _, rfl, rfl⟩
  case round =>
    obtain ⟨k, hk, rfl, rfl⟩ := hrel
    by_cases hlt : k < 64
    · have i1 : (k : Int) < 64 := by omega
      have hs1 := wv_shr n k (n := 2 ^ k) (gpow_cast k)
      have a1 : ∀ y, bits .and .u64 (wv y) 1 = wv (y &&& 1#64) := fun y => wv_and y 1#64
      have ho := wv_or
      have l1 : IntKind.u64.wrap (2 ^ k) = wv (1#64 <<< k) := by
        have := wv_wrap (2 ^ k)
        rw [this, gpow_cast]
        unfold wv
        rw [BitVec.toNat_shiftLeft, Nat.shiftLeft_eq, show (1#64).toNat = 1 from rfl, Nat.one_mul]
        omega
      have HST : Hid (xc n (k + 1) = if xa n k ≠ xb n k then xc n k ||| (1#64 <<< k) else xc n k) := rfl
      have HA : Hid (xa n k = (n >>> k) &&& 1#64) := rfl
      have uk : Hid (wrap64 ((k : Int) + 1) = ((k + 1 : Nat) : Int)) := gw64 (by omega)
      have HK := Lib.hid (And.intro hk hlt)
      obtain ⟨y, hy⟩ : ∃ y, y = xc n k := ⟨_, rfl⟩
      rw [← hy] at HST ⊢
      obtain ⟨a, ha⟩ : ∃ a, a = (n >>> k) &&& 1#64 := ⟨_, rfl⟩
      have ha2 := ha.symm
      rw [HA.out, ← ha] at HST
      by_cases h63 : k < 63
      · have i2 : (k : Int) < 63 := by omega
        have hs2 := wv_shr n (k + 1) (n := 2 ^ (k + 1)) (gpow_cast (k + 1))
        have HB : Hid (xb n k = (n >>> (k + 1)) &&& 1#64) := if_pos h63
        obtain ⟨b, hb⟩ : ∃ b, b = (n >>> (k + 1)) &&& 1#64 := ⟨_, rfl⟩
        have hb2 := hb.symm
        rw [HB.out, ← hb] at HST
        clear hy ha hb h63 hk hlt
        by_cases hab : a = b
        · have bt : (wv a != wv b) = false := by rw [hab]; simp
          have hst : Hid (xc n (k + 1) = y) := by unfold Hid; rw [HST.out, if_neg (by simp [hab])]
          clear hab
          go_wp2_with fail
          go_round
          case rel => exact ⟨k + 1, by have := HK.out; omega, by first | rfl | rw [uk.out], by rw [hst.out]⟩
          case measure => (try rw [uk.out]); have := HK.out; simp [intOf]; omega
        · have bt : (wv a != wv b) = true := by
            rw [bne_iff_ne]; exact fun h => hab (wv_inj h)
          have hst : Hid (xc n (k + 1) = y ||| (1#64 <<< k)) := by unfold Hid; rw [HST.out, if_pos hab]
          clear hab
          go_wp2_with fail
          go_round
          case rel => exact ⟨k + 1, by have := HK.out; omega, by first | rfl | rw [uk.out], by rw [hst.out]⟩
          case measure => (try rw [uk.out]); have := HK.out; simp [intOf]; omega
      · have i2 : ¬ (k : Int) < 63 := by omega
        have HB : Hid (xb n k = 0#64) := if_neg h63
        rw [HB.out] at HST
        clear hy ha h63 hk hlt
        by_cases hab : a = 0#64
        · have bt : (wv a != 0) = false := by rw [hab]; rfl
          have hst : Hid (xc n (k + 1) = y) := by unfold Hid; rw [HST.out, if_neg (by simp [hab])]
          clear hab
          go_wp2_with fail
          go_round
          case rel => exact ⟨k + 1, by have := HK.out; omega, by first | rfl | rw [uk.out], by rw [hst.out]⟩
          case measure => (try rw [uk.out]); have := HK.out; simp [intOf]; omega
        · have bt : (wv a != 0) = true := by
            rw [bne_iff_ne]; exact fun h => hab (wv_inj (y := 0#64) h)
          have hst : Hid (xc n (k + 1) = y ||| (1#64 <<< k)) := by unfold Hid; rw [HST.out, if_pos hab]
          clear hab
          go_wp2_with fail
          go_round
          case rel => exact ⟨k + 1, by have := HK.out; omega, by first | rfl | rw [uk.out], by rw [hst.out]⟩
          case measure => (try rw [uk.out]); have := HK.out; simp [intOf]; omega
    · obtain rfl : k = 64 := by omega
      rw [xc_code]
      go_wp2_with fail
      go_ret
      exact ⟨rfl, rfl⟩
/-- The table of bits in its variable. -/
abbrev BitTab (w : World) : Prop := TabAt 0 Lib.deBruijn64tab w
theorem BitTab.below {w w' : World} (h : BitTab w) (hb : Below w.heap.size w w') : BitTab w' := fun j hj => (hb.cell (block_lt (h j hj))).trans (h j hj)
theorem tz_core (x k idx : Nat) (w : World) (hx0 : ((x : Int) == 0) = false)
    (key : IntKind.u64.wrap (bits BinOp.and IntKind.u64 (x : Int) (IntKind.u64.wrap (-(x : Int))) * 285870213051353865) / 288230376151711744 = (idx : Int))
    (hi : idx < 64) (hk : k < 64) (hcell : w.cell? ⟨0, idx, none⟩ = some (.int .u8 k)) :
    Calls Tryd.prog 85 #[.int .u64 x] w fun e w' => e = .returned (.int .i64 k) ∧ w' = w := by
  go_enter Tryd.func85, Tryd.ntmps85
  go_wp2_with (simp only [key])
  go_ret
  exact ⟨rfl, rfl⟩
theorem tz_any (x : Nat) (hx : x < 18446744073709551616) (h0 : x ≠ 0) (w : World) (hT : BitTab w) :
    Calls Tryd.prog 85 #[.int .u64 x] w fun e w' => e = .returned (.int .i64 (Lib.ctz 64 x)) ∧ w' = w := by
  obtain ⟨hlow, hk⟩ := Lib.lowest_bit 64 x h0 hx
  obtain ⟨hi, htab⟩ := Lib.deBruijn64_at _ hk
  have hcell := hT _ hi
  rw [htab] at hcell
  exact tz_core x _ _ w (by simp; omega) (tz64_key x _ hx h0 hlow) hi hk hcell
theorem flip_any (n : BitVec 64) (w : World) (hT : BitTab w) :
    Calls Tryd.prog 42 #[W64 n] w fun e w' => e = .returned (.tuple #[.int .i64 (if n = 18446744073709551615#64 then 0 else (Lib.ctz 64 (n + 1#64).toNat : Nat)), .int .i64 (if n = 18446744073709551615#64 then 3 else 0)]) ∧ w' = w := by
  by_cases h : n = 18446744073709551615#64
  · rw [if_pos h, if_pos h]
    have b0 : (wv n == 18446744073709551615) = true := by rw [h]; rfl
    clear h hT
    go_enter Tryd.func42, Tryd.ntmps42
    go_wp2_with fail
    go_ret2
    exact ⟨rfl, rfl⟩
  · rw [if_neg h, if_neg h]
    have b0 : (wv n == 18446744073709551615) = false := by
      rw [beq_eq_false_iff_ne]; exact fun h2 => h (wv_inj (y := 18446744073709551615#64) h2)
    have ha : IntKind.u64.wrap (wv n + 1) = wv (n + 1#64) := wv_add_lit n 1#64 rfl
    have hz : (n + 1#64).toNat ≠ 0 := by
      have h1 := n.isLt
      have h2 : n.toNat ≠ 18446744073709551615 := fun h3 => h (BitVec.eq_of_toNat_eq h3)
      rw [BitVec.toNat_add]
      show (n.toNat + 1) % _ ≠ 0
      rw [Nat.mod_eq_of_lt (by omega)]; omega
    have HTZ : Hid (Calls Tryd.prog 85 #[W64 (n + 1#64)] w fun e w' => e = .returned (.int .i64 (Lib.ctz 64 (n + 1#64).toNat)) ∧ w' = w) := tz_any _ (n + 1#64).isLt hz w hT
    generalize Lib.ctz 64 (n + 1#64).toNat = f at *
    clear h hT hz
    go_enter Tryd.func42, Tryd.ntmps42
    go_wp2_with fail
    refine HTZ.out.mono ?_
    rintro e w' ⟨rfl, rfl⟩
    go_wp2_with fail
    go_ret2
    exact ⟨rfl, rfl⟩
end Go.Proofs.YtmibifmabkaakaaDoor
