/- mixer.Back walked. No condition. -/
import Derived.Test.YtakjcodfcoaadaaMixL
import Derived.Test.YtakjcodfcoaadaaBotN
namespace Go.Proofs.Ytakjcodfcoaadaa
open Go.ChangeShapes Go.WideShapes Go.ChangeAt Go.RowKit
set_option linter.unusedVariables false

theorem wv_shl (x : BitVec 64) (k : Nat) {n : Int} (h : n = ((2 ^ k : Nat) : Int)) : IntKind.u64.wrap (wv x * n) = wv (x <<< k) := by
  rw [wv_wrap, h]
  unfold wv
  rw [BitVec.toNat_shiftLeft, Nat.shiftLeft_eq]
  omega
theorem pow_cast (k : Nat) : ((2 : Int) ^ k) = ((2 ^ k : Nat) : Int) := by rw [Int.natCast_pow]; rfl
def mback (m : Mx) : Mx :=
  let d := rot m.2.2.2 19
  let b := bk (m.2.1 ^^^ m.2.2.1) 64
  (m.1 ^^^ d, b, (m.2.2.1 ^^^ (b * 131072#64)) ^^^ (m.1 ^^^ d), d ^^^ b)
theorem shl_mul17 (x : BitVec 64) : x <<< 17 = x * 131072#64 := by
  apply BitVec.eq_of_toNat_eq
  rw [BitVec.toNat_shiftLeft, BitVec.toNat_mul, Nat.shiftLeft_eq]
  rfl
theorem mback_next (m : Mx) : mnext (mback m) = m := by
  obtain ⟨a, b, c, d⟩ := m
  have h := bk_ok (b ^^^ c)
  rw [shl_mul17] at h
  unfold mnext mback
  simp only
  generalize bk (b ^^^ c) 64 = B at *
  have hr := rot_back d
  generalize rot d 19 = e at *
  have e1 : (e ^^^ B) ^^^ B = e := by rw [BitVec.xor_assoc, BitVec.xor_self, BitVec.xor_zero]
  have e2 : ((c ^^^ B * 131072#64) ^^^ (a ^^^ e)) ^^^ (a ^^^ e) = c ^^^ B * 131072#64 := by rw [BitVec.xor_assoc, BitVec.xor_self, BitVec.xor_zero]
  rw [e1, e2, hr]
  have e3 : (a ^^^ e) ^^^ e = a := by rw [BitVec.xor_assoc, BitVec.xor_self, BitVec.xor_zero]
  have e4 : B ^^^ (c ^^^ B * 131072#64) = b := by
    rw [BitVec.xor_comm c, ← BitVec.xor_assoc, h, BitVec.xor_assoc, BitVec.xor_self, BitVec.xor_zero]
  have e5 : (c ^^^ B * 131072#64) ^^^ (B * 131072#64) = c := by rw [BitVec.xor_assoc, BitVec.xor_self, BitVec.xor_zero]
  rw [e3, e4, e5]
set_option maxHeartbeats 4000000 in
theorem back_any (m : Mx) (B : BitVec 64) (hB : Hid (bk (m.2.1 ^^^ m.2.2.1) 64 = B)) (w : World) :
    Calls Try.prog 14 #[MV m] w fun e w' => e = .returned (M4 (m.1 ^^^ rot m.2.2.2 19) B ((m.2.2.1 ^^^ (B * 131072#64)) ^^^ (m.1 ^^^ rot m.2.2.2 19)) (rot m.2.2.2 19 ^^^ B)) ∧ Below w.heap.size w w' := by
  obtain ⟨m0, m1, m2, m3⟩ := m
  have hx := wv_xor
  have m17 := fun y => wv_mul_lit y 131072#64 (n := 131072) rfl
  go_enter Try.func14, Try.ntmps14
  go_wp2_with fail
  refine (rot_any _ (-45) 19 _ (by decide) (by decide) (by decide)).mono ?_
  rintro e w' ⟨rfl, rfl⟩
  obtain ⟨d, hd⟩ : ∃ d, d = rot m3 19 := ⟨_, rfl⟩
  rw [← hd]
  have HDD : Hid (d = rot m3 19) := hd
  clear hd
  go_wp2_with fail
  have HX := Lib.hid hx
  have HM17 := Lib.hid m17
  clear hx m17
  obtain ⟨c, hc⟩ : ∃ c, c = m1 ^^^ m2 := ⟨_, rfl⟩
  have hBc : Hid (bk c 64 = B) := by rw [hc]; exact hB
  rw [← hc]
  clear hB hc
  go_loop [4, 22] (fun s4 s22 => ∃ k : Nat, k ≤ 64 ∧ s22 = .int .i64 k ∧ s4 = W64 (bk c k)) (fun _ s22 => 64 - (intOf s22).toNat)
  case atStart => exact ⟨0, Nat.zero_le _, rfl, rfl⟩
  case round =>
    obtain ⟨k, hk, rfl, rfl⟩ := hrel
    by_cases hlt : k < 64
    · have i1 : (k : Int) < 64 := by omega
      have s1 := wv_shr c k (n := 2 ^ k) (pow_cast k)
      have a1 : ∀ y, bits .and .u64 (wv y) 1 = wv (y &&& 1#64) := fun y => wv_and y 1#64
      have hx := HX.out
      have ho := wv_or
      have l1 := fun y => wv_shl y k (n := 2 ^ k) (pow_cast k)
      by_cases h17 : k < 17
      · have HS : Hid (bk c (k + 1) = bk c k ||| (((c >>> k) &&& 1#64) <<< k)) := by
          show _ ||| (bbit c (bk c k) k <<< k) = _
          rw [show bbit c (bk c k) k = (c >>> k) &&& 1#64 from if_pos h17]
        have i2 : ¬ 17 ≤ (k : Int) := by omega
        have i3 : ¬ 17 ≤ k := by omega
        generalize bk c k = x at *
        go_wp2_with fail
        go_round
        case rel => exact ⟨k + 1, by omega, by go_num, by rw [HS.out]⟩
        case measure => simp [intOf]; omega
      · obtain ⟨j, hj⟩ : ∃ j, k = j + 17 := ⟨k - 17, by omega⟩
        have HS : Hid (bk c (k + 1) = bk c k ||| ((((c >>> k) &&& 1#64) ^^^ ((bk c k >>> j) &&& 1#64)) <<< k)) := by
          show _ ||| (bbit c (bk c k) k <<< k) = _
          rw [show bbit c (bk c k) k = ((c >>> k) &&& 1#64) ^^^ ((bk c k >>> (k - 17)) &&& 1#64) from if_neg h17, show k - 17 = j by omega]
        have i2 : 17 ≤ (k : Int) := by omega
        have i3 : 17 ≤ k := by omega
        have i4 : (k : Int) - 17 = (j : Int) := by omega
        have s2 := fun y => wv_shr y j (n := 2 ^ j) (pow_cast j)
        clear hj
        generalize bk c k = x at *
        go_wp2_with fail
        go_round
        case rel => exact ⟨k + 1, by omega, by go_num, by rw [HS.out]⟩
        case measure => simp [intOf]; omega
    · have hke : Hid (k = 64) := by unfold Hid; omega
      have i1 : ¬ (k : Int) < 64 := by omega
      have hb : bk c k = B := (congrArg (bk c) hke.out).trans hBc.out
      rw [hb]
      have hx := HX.out
      have m17 := HM17.out
      clear hBc hb
      go_wp2_with fail
      refine bodyPost_ret (v := M4 (m0 ^^^ d) B ((m2 ^^^ (B * 131072#64)) ^^^ (m0 ^^^ d)) (d ^^^ B)) (by simp [results, Try.results14, go_sem]) rfl ⟨by rw [HDD.out], ?_⟩
      exact ((Below.refl _ _).alloc (Nat.le_refl _) _).alloc (by simp) _
theorem back_at (m : Mx) (w : World) :
    Calls Try.prog 14 #[MV m] w fun e w' => e = .returned (MV (mback m)) ∧ Below w.heap.size w w' := back_any m _ rfl w
end Go.Proofs.Ytakjcodfcoaadaa
