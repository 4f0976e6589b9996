/- The functions of package lfsr and their references, each walked once. No condition. -/
import Derived.Test.YtakjcodfcoaadaaLfsrM
namespace Go.Proofs.Ytakjcodfcoaadaa
open Go.ChangeShapes Go.WideShapes Go.ChangeAt Go.RowKit

set_option maxRecDepth 100000 in
theorem ones_any (x : Int) (w : World) (h0 : 0 ≤ x) (h1 : x < 4294967296) :
    Calls Try.prog 45 #[.int .u32 x] w fun e w' => e = .returned (.int .i64 (pop32 x)) ∧ ∃ n, w' = w.drewN n := by
  have e0 : x / 16777216 ≤ 255 := by omega
  have e0' : 0 ≤ x / 16777216 := by omega
  have b1 := and255 (x / 65536) (by omega) (by omega)
  have b2 := and255 (x / 256) (by omega) (by omega)
  have b3 := and255 x (by omega) (by omega)
  obtain ⟨p1, p2⟩ := pop8_bd (x / 16777216)
  obtain ⟨p3, p4⟩ := pop8_bd (x / 65536 % 256)
  obtain ⟨p5, p6⟩ := pop8_bd (x / 256 % 256)
  obtain ⟨p7, p8⟩ := pop8_bd (x % 256)
  have s1 : IntKind.u8.wrap (Lib.pop8 (x / 16777216) + Lib.pop8 (x / 65536 % 256)) = Lib.pop8 (x / 16777216) + Lib.pop8 (x / 65536 % 256) := by rw [IntKind.wrap_u8']; omega
  have s2 : IntKind.u8.wrap (Lib.pop8 (x / 16777216) + Lib.pop8 (x / 65536 % 256) + Lib.pop8 (x / 256 % 256)) = Lib.pop8 (x / 16777216) + Lib.pop8 (x / 65536 % 256) + Lib.pop8 (x / 256 % 256) := by rw [IntKind.wrap_u8']; omega
  have s3 : IntKind.u8.wrap (Lib.pop8 (x / 16777216) + Lib.pop8 (x / 65536 % 256) + Lib.pop8 (x / 256 % 256) + Lib.pop8 (x % 256)) = Lib.pop8 (x / 16777216) + Lib.pop8 (x / 65536 % 256) + Lib.pop8 (x / 256 % 256) + Lib.pop8 (x % 256) := by rw [IntKind.wrap_u8']; omega
  have s4 : IntKind.i64.wrap (Lib.pop8 (x / 16777216) + Lib.pop8 (x / 65536 % 256) + Lib.pop8 (x / 256 % 256) + Lib.pop8 (x % 256)) = Lib.pop8 (x / 16777216) + Lib.pop8 (x / 65536 % 256) + Lib.pop8 (x / 256 % 256) + Lib.pop8 (x % 256) := IntWalk.i64_in _ (by omega)
  go_enter Try.func45, Try.ntmps45
  go_wp2
  go_quiet (fail)
  clear s1 s2 s3 b1 b2 b3
  go_wp2
  go_ret
  exact ⟨rfl, _, rfl⟩

/-- Whether n bits, taps and a state fit. -/
def okB (n : Int) (t s : Nat) : Bool := decide (1 ≤ n ∧ n ≤ 20 ∧ 2 ^ (n.toNat - 1) ≤ t ∧ t < 2 ^ n.toNat ∧ s < 2 ^ n.toNat)

theorem cast_div_pow (t k : Nat) : ((t : Int) / 2 ^ k) = ((t / 2 ^ k : Nat) : Int) := by
  rw [Int.natCast_ediv, Int.natCast_pow]; rfl
theorem int_beq (a b : Nat) : ((a : Int) == (b : Int)) = decide (a = b) := by
  rw [Bool.eq_iff_iff]; simp; omega
theorem div_pow_zero (t k : Nat) : ((t : Int) / 2 ^ k == 0) = decide (t < 2 ^ k) := by
  have h0 : 0 < 2 ^ k := Nat.pow_pos (by decide)
  rw [cast_div_pow, show (0 : Int) = ((0 : Nat) : Int) from rfl, int_beq]
  generalize 2 ^ k = P at *
  have : (t / P = 0) ↔ t < P := by rw [Nat.div_eq_zero_iff]; omega
  simp only [this]
theorem div_pow_one (t k : Nat) (h : t < 2 ^ (k + 1)) : ((t : Int) / 2 ^ k == 1) = decide (2 ^ k ≤ t) := by
  have h0 : 0 < 2 ^ k := Nat.pow_pos (by decide)
  rw [cast_div_pow, show (1 : Int) = ((1 : Nat) : Int) from rfl, int_beq]
  rw [Nat.pow_succ] at h
  generalize 2 ^ k = P at *
  have : (t / P = 1) ↔ P ≤ t := by
    constructor
    · intro e
      have := Nat.div_mul_le_self t P
      rw [e] at this
      omega
    · intro e
      apply Nat.div_eq_of_lt_le <;> omega
  simp only [this]

theorem lright_any (n : Int) (t : Nat) (w : World) :
    Calls Try.prog 27 #[.int .i64 n, .int .u32 t] w fun e w' => e = .returned (.bool (okB n t 0)) ∧ w = w' := by
  by_cases h1 : n < 1
  · have hf : okB n t 0 = false := by simp [okB]; omega
    rw [hf]
    clear hf
    go_enter Try.func27, Try.ntmps27
    go_wp2
    go_ret
    exact ⟨rfl, rfl⟩
  by_cases h2 : 20 < n
  · have hf : okB n t 0 = false := by simp [okB]; omega
    rw [hf]
    clear hf
    go_enter Try.func27, Try.ntmps27
    go_wp2
    go_ret
    exact ⟨rfl, rfl⟩
  obtain ⟨k, rfl⟩ : ∃ k : Nat, n = ((k + 1 : Nat) : Int) := ⟨(n - 1).toNat, by omega⟩
  have hp : 0 < 2 ^ (k + 1) := Nat.pow_pos (by decide)
  have z := div_pow_zero t (k + 1)
  by_cases h3 : t < 2 ^ (k + 1)
  · have o := div_pow_one t k h3
    have hf : okB ((k + 1 : Nat) : Int) t 0 = decide (2 ^ k ≤ t) := by
      unfold okB
      rw [Int.toNat_natCast, Nat.add_sub_cancel, Bool.eq_iff_iff]
      simp only [decide_eq_true_eq]
      omega
    rw [hf]
    have H := Lib.hid o
    rw [decide_eq_true h3] at z
    clear hf o
    go_enter Try.func27, Try.ntmps27
    go_wp2
    go_ret
    exact ⟨by rw [← H.out]; rfl, rfl⟩
  · have hf : okB ((k + 1 : Nat) : Int) t 0 = false := by
      unfold okB
      rw [Int.toNat_natCast, Nat.add_sub_cancel]
      simp only [decide_eq_false_iff_not]
      omega
    rw [hf]
    clear hf
    rw [decide_eq_false h3] at z
    go_enter Try.func27, Try.ntmps27
    go_wp2
    go_ret
    exact ⟨rfl, rfl⟩

theorem neq_of_eq {a b : Int} {c : Bool} (h : (a == b) = c) : (a != b) = !c := by rw [bne, h]
theorem popAux_le (k x : Nat) : Lib.popAux k x ≤ k := by
  induction k generalizing x with
  | zero => simp [Lib.popAux]
  | succ k ih =>
    have := ih (x / 2)
    simp only [Lib.popAux]
    omega
theorem i64_and_one (a : Nat) (ha : a < 9223372036854775808) : bits .and .i64 (a : Int) 1 = ((a % 2 : Nat) : Int) := by
  show IntKind.i64.wrap ((BitVec.ofInt 64 (a : Int) &&& BitVec.ofInt 64 1).toNat : Int) = _
  have e : (BitVec.ofInt 64 (a : Int)).toNat = a := by
    rw [BitVec.ofInt_natCast, BitVec.toNat_ofNat]; exact Nat.mod_eq_of_lt (by omega)
  rw [BitVec.toNat_and, e, show (BitVec.ofInt 64 1).toNat = 1 from rfl, Nat.and_one_is_mod, IntKind.wrap_i64]
  omega
theorem okB_parts {n : Int} {t s : Nat} (h : okB n t s = true) : ∃ k : Nat, n = ((k + 1 : Nat) : Int) ∧ k < 20 ∧ 2 ^ k ≤ t ∧ t < 2 ^ (k + 1) ∧ s < 2 ^ (k + 1) := by
  unfold okB at h
  simp only [decide_eq_true_eq] at h
  refine ⟨(n - 1).toNat, by omega, by omega, ?_⟩
  rw [show (n - 1).toNat = n.toNat - 1 by omega, show n.toNat - 1 + 1 = n.toNat by omega]
  exact h.2.2
theorem okB_bad {n : Int} {t s : Nat} (h : okB n t s = false) (h0 : okB n t 0 = true) : ∃ k : Nat, n = ((k + 1 : Nat) : Int) ∧ k < 20 ∧ ¬ s < 2 ^ (k + 1) := by
  obtain ⟨k, rfl, hk, h1, h2, h3⟩ := okB_parts h0
  refine ⟨k, rfl, hk, fun hs => ?_⟩
  unfold okB at h
  rw [Int.toNat_natCast, Nat.add_sub_cancel] at h
  simp only [decide_eq_false_iff_not] at h
  exact h ⟨by omega, by omega, h1, h2, hs⟩

theorem lstep_bad (n : Int) (t s : Nat) (w : World) (h : okB n t s = false) :
    Calls Try.prog 24 #[.int .i64 n, .int .u32 t, .int .u32 s] w fun e w' => e = .returned (.tuple #[.int .u32 0, .int .i64 1]) ∧ w = w' := by
  by_cases h0 : okB n t 0 = true
  · obtain ⟨k, rfl, hk, hs⟩ := okB_bad h h0
    have z := neq_of_eq (div_pow_zero s (k + 1))
    rw [decide_eq_false hs] at z
    clear h
    go_enter Try.func24, Try.ntmps24
    go_wp2_with (go_at_call 27; refine (lright_any _ _ _).mono ?_; rintro e w' ⟨rfl, rfl⟩)
    go_ret2
    exact ⟨rfl, rfl⟩
  · have h0' : okB n t 0 = false := by simpa using h0
    clear h h0
    go_enter Try.func24, Try.ntmps24
    go_wp2_with (go_at_call 27; refine (lright_any _ _ _).mono ?_; rintro e w' ⟨rfl, rfl⟩)
    go_ret2
    exact ⟨rfl, rfl⟩
theorem okB_zero {n : Int} {t s : Nat} (h : okB n t s = true) : okB n t 0 = true := by
  unfold okB at *
  simp only [decide_eq_true_eq] at *
  exact ⟨h.1, h.2.1, h.2.2.1, h.2.2.2.1, Nat.pow_pos (by decide)⟩
theorem pow_le20 {k : Nat} (h : k < 20) : 2 ^ (k + 1) ≤ 1048576 := by
  have := Nat.pow_le_pow_right (n := 2) (by decide) (show k + 1 ≤ 20 by omega)
  omega

theorem i64_par (n s t : Nat) (hn : n ≤ 32) (hs : s < 2 ^ n) : bits .and .i64 (pop32 ((s &&& t : Nat) : Int)) 1 = (par n s t : Int) := by
  have h1 : s &&& t < 2 ^ n := Nat.lt_of_le_of_lt Nat.and_le_left hs
  have h2 : 2 ^ n ≤ 2 ^ 32 := Nat.pow_le_pow_right (by decide) hn
  have h3 := pop32_par n s t hn hs
  rw [pop32_aux _ (by omega)] at h3 ⊢
  have h4 := i64_and_one (Lib.popAux 32 (s &&& t))
  have h5 : Lib.popAux 32 (s &&& t) ≤ 32 := popAux_le _ _
  rw [h4 (by omega)]
  omega

theorem ret2_int {k : IntKind} {a b : Int} {v : Value} (h : a = b) : Ending.returned (.tuple #[.int k a, v]) = .returned (.tuple #[.int k b, v]) := by rw [h]
theorem mask_form (k : Nat) (hk : k < 20) : (((2 : Int) ^ (k + 1) - 1) % 4294967296) = ((2 ^ (k + 1) - 1 : Nat) : Int) := by
  have h := pow_le20 hk
  have h0 : 0 < 2 ^ (k + 1) := Nat.pow_pos (by decide)
  have e : ((2 : Int) ^ (k + 1)) = ((2 ^ (k + 1) : Nat) : Int) := by rw [Int.natCast_pow]; rfl
  rw [e]
  generalize 2 ^ (k + 1) = P at *
  omega
theorem lstep_sum (k s p : Nat) (hp : p < 2) : (2 * s + p) % 2 ^ (k + 1) = 2 * s % 2 ^ (k + 1) + p := by
  have h3 : 2 * s % 2 ^ (k + 1) = 2 * (s % 2 ^ k) := by
    rw [Nat.pow_succ, Nat.mul_comm (2 ^ k), Nat.mul_mod_mul_left]
  have h4 : (2 * s + p) % 2 ^ (k + 1) = 2 * (s % 2 ^ k) + p := by
    rw [Nat.pow_succ, Nat.mul_comm (2 ^ k), Nat.mod_mul]
    have : (2 * s + p) / 2 = s := by omega
    rw [this]
    omega
  rw [h3, h4]
theorem lstep_form (k t s : Nat) (hk : k < 20) (hs : s < 1048576) :
    bits .and .u32 (bits .or .u32 ((s : Int) * 2) (par (k + 1) s t : Nat)) (((2 : Int) ^ (k + 1) - 1) % 4294967296) = (lstep (k + 1) t s : Nat) := by
  have hp := par_lt (k + 1) s t
  have hb := pow_le20 hk
  rw [mask_form k hk, show ((s : Int) * 2) = ((2 * s : Nat) : Int) by omega, u32_or_nat _ _ (by omega) (by omega), nat_join 1 (2 * s) _ (by omega) (by omega), u32_and_nat _ _ (by omega) (by omega),
    Nat.and_two_pow_sub_one_eq_mod, lstep_sum k s _ hp]
  rfl

set_option maxHeartbeats 400000 in
theorem lstep_ok (k : Nat) (t s : Nat) (w : World) (hk : k < 20) (h0 : okB ((k + 1 : Nat) : Int) t 0 = true) (hs : s < 2 ^ (k + 1)) (ht : t < 2 ^ (k + 1)) :
    Calls Try.prog 24 #[.int .i64 ((k + 1 : Nat) : Int), .int .u32 t, .int .u32 s] w fun e w' => e = .returned (.tuple #[.int .u32 (lstep (k + 1) t s : Nat), .int .i64 0]) ∧ ∃ n, w' = w.drewN n := by
  have z := neq_of_eq (div_pow_zero s (k + 1))
  rw [decide_eq_true hs] at z
  have hp := pow_le20 hk
  have ip := i64_par (k + 1) s t (by omega) hs
  have pl := par_lt (k + 1) s t
  have Hs := Lib.hid hs
  have hs2 : s < 1048576 := by omega
  have ht2 : t < 1048576 := by omega
  have a1 := u32_and_nat s t (by omega) (by omega)
  have a2 : s &&& t < 1048576 := Nat.lt_of_le_of_lt Nat.and_le_left hs2
  clear hs
  go_enter Try.func24, Try.ntmps24
  go_wp2_with (first | (go_at_call 27; refine (lright_any _ _ _).mono ?_; rintro e w' ⟨rfl, rfl⟩) | (go_at_call 45; refine (ones_any _ _ (by omega) (by omega)).mono ?_; rintro e w' ⟨rfl, nq, rfl⟩))
  go_ret2
  exact ⟨ret2_int (lstep_form k t s hk hs2), _, rfl⟩

theorem xor_bit (a b : Nat) (ha : a < 2) (hb : b < 2) : a ^^^ b = (a + b) % 2 := by
  rcases (by omega : a = 0 ∨ a = 1) with rfl | rfl <;> rcases (by omega : b = 0 ∨ b = 1) with rfl | rfl <;> rfl
theorem lback_form (k t s : Nat) (hk : k < 20) (hs : s < 2 ^ (k + 1)) :
    bits .or .u32 ((s : Int) / 2) (bits .xor .u32 (bits .and .u32 (s : Int) 1) (par (k + 1) (s / 2) t : Nat) * 2 ^ k % 4294967296) = (lback (k + 1) t s : Nat) := by
  have hp := par_lt (k + 1) (s / 2) t
  have hb := pow_le20 hk
  have h1 : bits .and .u32 (s : Int) 1 = ((s % 2 : Nat) : Int) := by
    have := u32_and_nat s 1 (by omega) (by omega)
    rw [nat_mask1] at this
    exact this
  rw [h1, u32_xor_nat _ _ (by omega) (by omega), xor_bit _ _ (by omega) hp]
  unfold lback
  rw [Nat.add_sub_cancel]
  have hv := Nat.mod_lt (s % 2 + par (k + 1) (s / 2) t) (by decide : 0 < 2)
  generalize (s % 2 + par (k + 1) (s / 2) t) % 2 = v at *
  rw [Nat.pow_succ] at hb hs
  have e : ((v : Int) * 2 ^ k % 4294967296) = ((v * 2 ^ k : Nat) : Int) := by
    have e2 : ((2 : Int) ^ k) = ((2 ^ k : Nat) : Int) := by rw [Int.natCast_pow]; rfl
    rw [e2, ← Int.natCast_mul]
    have : v * 2 ^ k ≤ 1 * 2 ^ k := Nat.mul_le_mul_right _ (by omega)
    omega
  have hm : v * 2 ^ k ≤ 1 * 2 ^ k := Nat.mul_le_mul_right _ (by omega)
  rw [e, show (s : Int) / 2 = ((s / 2 : Nat) : Int) by omega, u32_or_nat _ _ (by omega) (by omega), Nat.or_comm, nat_join k _ (s / 2) (Nat.mul_mod_left _ _) (by omega), Nat.add_comm]

theorem lback_bad (n : Int) (t s : Nat) (w : World) (h : okB n t s = false) :
    Calls Try.prog 25 #[.int .i64 n, .int .u32 t, .int .u32 s] w fun e w' => e = .returned (.tuple #[.int .u32 0, .int .i64 1]) ∧ w = w' := by
  by_cases h0 : okB n t 0 = true
  · obtain ⟨k, rfl, hk, hs⟩ := okB_bad h h0
    have z := neq_of_eq (div_pow_zero s (k + 1))
    rw [decide_eq_false hs] at z
    clear h
    go_enter Try.func25, Try.ntmps25
    go_wp2_with (go_at_call 27; refine (lright_any _ _ _).mono ?_; rintro e w' ⟨rfl, rfl⟩)
    go_ret2
    exact ⟨rfl, rfl⟩
  · have h0' : okB n t 0 = false := by simpa using h0
    clear h h0
    go_enter Try.func25, Try.ntmps25
    go_wp2_with (go_at_call 27; refine (lright_any _ _ _).mono ?_; rintro e w' ⟨rfl, rfl⟩)
    go_ret2
    exact ⟨rfl, rfl⟩

set_option maxHeartbeats 400000 in
theorem lback_ok (k : Nat) (t s : Nat) (w : World) (hk : k < 20) (h0 : okB ((k + 1 : Nat) : Int) t 0 = true) (hs : s < 2 ^ (k + 1)) (ht : t < 2 ^ (k + 1)) :
    Calls Try.prog 25 #[.int .i64 ((k + 1 : Nat) : Int), .int .u32 t, .int .u32 s] w fun e w' => e = .returned (.tuple #[.int .u32 (lback (k + 1) t s : Nat), .int .i64 0]) ∧ ∃ n, w' = w.drewN n := by
  have z := neq_of_eq (div_pow_zero s (k + 1))
  rw [decide_eq_true hs] at z
  have hp := pow_le20 hk
  have ip := i64_par (k + 1) (s / 2) t (by omega) (by omega)
  have pl := par_lt (k + 1) (s / 2) t
  have Hs := Lib.hid hs
  have hs2 : s < 1048576 := by omega
  have ht2 : t < 1048576 := by omega
  have a1 : bits .and .u32 ((s : Int) / 2) t = ((s / 2 &&& t : Nat) : Int) := by
    rw [show (s : Int) / 2 = ((s / 2 : Nat) : Int) by omega]; exact u32_and_nat (s / 2) t (by omega) (by omega)
  have a2 : s / 2 &&& t < 1048576 := Nat.lt_of_le_of_lt Nat.and_le_left (by omega)
  clear hs
  go_enter Try.func25, Try.ntmps25
  go_wp2_with (first | (go_at_call 27; refine (lright_any _ _ _).mono ?_; rintro e w' ⟨rfl, rfl⟩) | (go_at_call 45; refine (ones_any _ _ (by omega) (by omega)).mono ?_; rintro e w' ⟨rfl, nq, rfl⟩))
  go_ret2
  exact ⟨ret2_int (lback_form k t s hk Hs.out), _, rfl⟩

theorem lt_pow_form (s k : Nat) (hk : k ≤ 20) : decide ((s : Int) < 2 ^ k % 4294967296) = decide (s < 2 ^ k) := by
  have h := Nat.pow_le_pow_right (n := 2) (by decide) hk
  have e : ((2 : Int) ^ k) = ((2 ^ k : Nat) : Int) := by rw [Int.natCast_pow]; rfl
  rw [e]
  generalize 2 ^ k = P at *
  rw [Bool.eq_iff_iff]
  simp only [decide_eq_true_eq]
  omega
theorem pow_mod32 (k : Nat) (hk : k ≤ 20) : ((2 : Int) ^ k % 4294967296) = ((2 ^ k : Nat) : Int) := by
  have h := Nat.pow_le_pow_right (n := 2) (by decide) hk
  have e : ((2 : Int) ^ k) = ((2 ^ k : Nat) : Int) := by rw [Int.natCast_pow]; rfl
  rw [e]
  generalize 2 ^ k = P at *
  omega

set_option maxHeartbeats 400000 in
theorem nright_any (n : Int) (t s : Nat) (w : World) :
    Calls Try.prog 28 #[.int .i64 n, .int .u32 t, .int .u32 s] w fun e w' => e = .returned (.bool (okB n t s)) ∧ w = w' := by
  by_cases h1 : n < 1
  · have hf : okB n t s = false := by simp [okB]; omega
    rw [hf]
    clear hf
    go_enter Try.func28, Try.ntmps28
    go_wp2
    go_ret
    exact ⟨rfl, rfl⟩
  by_cases h2 : 20 < n
  · have hf : okB n t s = false := by simp [okB]; omega
    rw [hf]
    clear hf
    go_enter Try.func28, Try.ntmps28
    go_wp2
    go_ret
    exact ⟨rfl, rfl⟩
  obtain ⟨k, rfl⟩ : ∃ k : Nat, n = ((k + 1 : Nat) : Int) := ⟨(n - 1).toNat, by omega⟩
  have e1 := pow_mod32 (k + 1) (by omega)
  have e2 := pow_mod32 k (by omega)
  have hf : okB ((k + 1 : Nat) : Int) t s = decide (2 ^ k ≤ t ∧ t < 2 ^ (k + 1) ∧ s < 2 ^ (k + 1)) := by
    unfold okB
    rw [Int.toNat_natCast, Nat.add_sub_cancel, Bool.eq_iff_iff]
    simp only [decide_eq_true_eq]
    omega
  rw [hf]
  clear hf
  generalize 2 ^ k = Q at *
  generalize 2 ^ (k + 1) = P at *
  by_cases h3 : t < P
  · by_cases h4 : Q ≤ t
    · have hg : decide (Q ≤ t ∧ t < P ∧ s < P) = decide (s < P) := by simp only [h3, h4, true_and]
      rw [hg]
      clear hg
      go_enter Try.func28, Try.ntmps28
      go_wp2
      go_ret
      exact ⟨by simp, rfl⟩
    · have hg : decide (Q ≤ t ∧ t < P ∧ s < P) = false := by simp only [h3, h4, false_and]; rfl
      rw [hg]
      clear hg
      go_enter Try.func28, Try.ntmps28
      go_wp2
      go_ret
      exact ⟨rfl, rfl⟩
  · have hg : decide (Q ≤ t ∧ t < P ∧ s < P) = false := by simp only [h3, false_and, and_false]; rfl
    rw [hg]
    clear hg
    go_enter Try.func28, Try.ntmps28
    go_wp2
    go_ret
    exact ⟨rfl, rfl⟩

theorem bit_form (s j : Nat) : ((s : Int) / 2 ^ j % 2 == 1) = decide (s / 2 ^ j % 2 = 1) := by
  rw [cast_div_pow]
  generalize s / 2 ^ j = q
  rw [Bool.eq_iff_iff]
  simp
  omega

set_option maxHeartbeats 400000 in
theorem nstep_any (k : Nat) (t s : Nat) (w : World) (hk : k < 20) (hs : s < 2 ^ (k + 1)) :
    Calls Try.prog 29 #[.int .i64 ((k + 1 : Nat) : Int), .int .u32 t, .int .u32 s] w fun e w' => e = .returned (.int .u32 (lstep (k + 1) t s : Nat)) ∧ w = w' := by
  have hp := pow_le20 hk
  have hs2 : s < 1048576 := by omega
  clear hs
  go_enter Try.func29, Try.ntmps29
  go_wp2
  go_loop [7, 10] (fun o i => ∃ j : Nat, j ≤ k + 1 ∧ i = .int .i64 j ∧ o = .int .u32 (par j s t : Nat)) (fun _ i => k + 1 - (intOf i).toNat)
  case atStart => exact ⟨0, Nat.zero_le _, rfl, rfl⟩
  case round =>
    obtain ⟨j, hj, rfl, rfl⟩ := hrel
    have pl := par_lt j s t
    by_cases hlt : j < k + 1
    · have n1 : 0 ≤ (s : Int) / 2 ^ j := by rw [cast_div_pow]; exact Int.natCast_nonneg _
      have n2 : 0 ≤ (t : Int) / 2 ^ j := by rw [cast_div_pow]; exact Int.natCast_nonneg _
      have b1 := bit_form s j
      have b2 := bit_form t j
      have hpar : Hid (par (j + 1) s t = (par j s t + (s / 2 ^ j % 2) * (t / 2 ^ j % 2)) % 2) := par_succ j s t
      have m1 : Hid (s / 2 ^ j % 2 < 2) := Nat.mod_lt _ (by decide)
      have m2 : Hid (t / 2 ^ j % 2 < 2) := Nat.mod_lt _ (by decide)
      by_cases c1 : s / 2 ^ j % 2 = 1
      · rw [decide_eq_true c1] at b1
        have C1 := Lib.hid c1
        clear c1
        by_cases c2 : t / 2 ^ j % 2 = 1
        · rw [decide_eq_true c2] at b2
          have C2 := Lib.hid c2
          clear c2
          go_wp2
          go_round
          case rel => exact ⟨j + 1, by omega, by go_num, by rw [hpar.out, C1.out, C2.out]; congr 1; omega⟩
          case measure => simp [intOf]; omega
        · rw [decide_eq_false c2] at b2
          have C2 := Lib.hid c2
          clear c2
          go_wp2
          go_round
          case rel => exact ⟨j + 1, by omega, by go_num, by rw [hpar.out, C1.out, show t / 2 ^ j % 2 = 0 by have := m2.out; have := C2.out; omega]; congr 1; omega⟩
          case measure => simp [intOf]; omega
      · rw [decide_eq_false c1] at b1
        have C1 := Lib.hid c1
        clear c1
        go_wp2
        go_round
        case rel => exact ⟨j + 1, by omega, by go_num, by rw [hpar.out, show s / 2 ^ j % 2 = 0 by have := m1.out; have := C1.out; omega]; congr 1; omega⟩
        case measure => simp [intOf]; omega
    · have hje : Hid (j = k + 1) := by unfold Hid; omega
      have e1 := pow_mod32 (k + 1) (by omega)
      have hP0 : 0 < 2 ^ (k + 1) := Nat.pow_pos (by decide)
      have hl : Hid (lstep (k + 1) t s = s * 2 % 2 ^ (k + 1) + par (k + 1) s t) := by unfold Hid lstep; rw [Nat.mul_comm]
      generalize 2 ^ (k + 1) = P at e1 hp hP0 hl
      have hP1 : 0 < (P : Int) := by omega
      have hm : Hid (s * 2 % P < P) := Nat.mod_lt _ hP0
      have pl2 := par_lt (k + 1) s t
      have hw : (s : Int) * 2 % (P : Int) < P := Int.emod_lt_of_pos _ hP1
      have hw0 : 0 ≤ (s : Int) * 2 % (P : Int) := Int.emod_nonneg _ (by omega)
      have hP2 : (P : Int) ≤ 1048576 := by omega
      rw [hje.out] at hlt ⊢
      go_wp2
      go_ret
      exact ⟨by rw [hl.out]; congr 1, rfl⟩
end Go.Proofs.Ytakjcodfcoaadaa
