/- A number's digits the other way round, walked. No condition. -/
import Derived.Test.YtmcbkjepjijfjaaEvA
namespace Go.Proofs.Ytmcbkjepjijfjaa
open Go.ChangeShapes Go.WideShapes Go.ChangeAt Go.RowKit
set_option linter.unusedVariables false

set_option maxHeartbeats 2000000 in
theorem turn_err (b d n f : Int) (w : World) (h : eall b d = (0, f)) (hf : f ≠ 0) :
    Calls Try.prog 39 #[.int .i64 b, .int .i64 d, .int .i64 n] w fun e w' => e = .returned (.tuple #[.int .i64 0, .int .i64 f]) ∧ w = w' := by
  have hall := all_any b d w
  rw [h] at hall
  have HA := Lib.hid hall
  have h1 : (f != 0) = true := by simpa using hf
  clear hall h
  go_enter Try.func39, Try.ntmps39
  go_wp2_with fail
  refine HA.out.mono ?_
  rintro e w' ⟨rfl, rfl⟩
  go_wp2_with fail
  go_ret2
  exact ⟨rfl, rfl⟩
set_option maxHeartbeats 2000000 in
theorem turn_neg (b d n p : Int) (w : World) (h : eall b d = (p, 0)) (hn : n < 0) :
    Calls Try.prog 39 #[.int .i64 b, .int .i64 d, .int .i64 n] w fun e w' => e = .returned (.tuple #[.int .i64 0, .int .i64 2]) ∧ w = w' := by
  have hall := all_any b d w
  rw [h] at hall
  have HA := Lib.hid hall
  clear hall h
  go_enter Try.func39, Try.ntmps39
  go_wp2_with fail
  refine HA.out.mono ?_
  rintro e w' ⟨rfl, rfl⟩
  go_wp2_with fail
  go_ret2
  exact ⟨rfl, rfl⟩
set_option maxHeartbeats 2000000 in
theorem turn_ok (b d n : Nat) (w : World) (hb : 2 ≤ b) (hb2 : b ≤ 36) (hd : d ≤ 30) (hp : b ^ d ≤ 1073741824) :
    Calls Try.prog 39 #[.int .i64 b, .int .i64 d, .int .i64 n] w fun e w' => e = .returned (.tuple #[.int .i64 (trn b n d : Nat), .int .i64 0]) ∧ w = w' := by
  have hall := all_good b d w hb hb2 hd
  rw [if_pos hp] at hall
  have HA := Lib.hid hall
  have HT := Lib.hid (trn_mod (b := b) (by omega) n d (Nat.le_refl d))
  have hp0 : 0 < b ^ d := Nat.pow_pos (by omega)
  have hm : (n : Int) % ((b ^ d : Nat) : Int) = ((n % b ^ d : Nat) : Int) := (Int.natCast_emod _ _).symm
  have HML : Hid (n % b ^ d < b ^ d) := Nat.mod_lt _ hp0
  have HMM := Lib.hid hm
  clear hall
  generalize n % b ^ d = m at *
  have HPD : Hid (∀ j, j < d → b ^ (j + 1) ≤ 1073741824) := fun j hj => pow_lt_of hb hj hp
  have hnn : ¬ (n : Int) < 0 := by omega
  generalize b ^ d = P at *
  go_enter Try.func39, Try.ntmps39
  go_wp2_with fail
  refine HA.out.mono ?_
  rintro e w' ⟨rfl, rfl⟩
  go_wp2_with fail
  clear hm hnn
  go_loop [2, 10, 28] (fun s2 s10 s28 => ∃ j : Nat, j ≤ d ∧ s28 = .int .i64 j ∧ s2 = .int .i64 (m / b ^ j : Nat) ∧ s10 = .int .i64 (trn b m j : Nat)) (fun _ _ s28 => d - (intOf s28).toNat)
  case atStart => exact ⟨0, Nat.zero_le _, rfl, by rw [Nat.pow_zero, Nat.div_one, HMM.out], rfl⟩
  case round =>
    obtain ⟨j, hj, rfl, rfl, rfl⟩ := hrel
    by_cases hlt : j < d
    · have i1 : (j : Int) < (d : Int) := by omega
      have HS : Hid (trn b m (j + 1) = trn b m j * b + m / b ^ j % b) := rfl
      have HD := Lib.hid (div_step b m j)
      have hl := trn_lt (b := b) (by omega) m (j + 1)
      have hl2 := HPD.out j hlt
      rw [HS.out] at hl
      have hv : m / b ^ j ≤ m := Nat.div_le_self _ _
      have hml := HML.out
      generalize trn b m j = t at *
      generalize m / b ^ j = v at *
      have hc1 : (t : Int) * (b : Int) = ((t * b : Nat) : Int) := (Int.natCast_mul _ _).symm
      have hc2 : (v : Int) % (b : Int) = ((v % b : Nat) : Int) := (Int.natCast_emod _ _).symm
      have hc3 : (v : Int) / (b : Int) = ((v / b : Nat) : Int) := (Int.natCast_ediv _ _).symm
      have hvd : v / b ≤ v := Nat.div_le_self _ _
      generalize t * b = tb at *
      generalize v % b = vm at *
      generalize v / b = vd at *
      go_wp2_with fail
      go_round
      case rel => exact ⟨j + 1, by omega, by go_num, by rw [← HD.out], by rw [HS.out]; go_num⟩
      case measure => simp [intOf]; omega
    · have i1 : ¬ (j : Int) < (d : Int) := by omega
      have hjd : j = d := by omega
      have HE : Hid (trn b m j = trn b n d) := by unfold Hid; rw [hjd]; exact HT.out
      generalize trn b m j = t at *
      generalize m / b ^ j = v at *
      clear hjd
      go_wp2_with fail
      go_ret2
      exact ⟨by rw [← HE.out]; rfl, rfl⟩
set_option maxHeartbeats 2000000 in
theorem yturn_ok (b d n : Nat) (w : World) (hb : 2 ≤ b) (hb2 : b ≤ 36) (hd : d ≤ 30) (hp : b ^ d ≤ 1073741824) (hn : (n : Int) ≤ 9223372036854775807) :
    Calls Try.prog 42 #[.int .i64 b, .int .i64 d, .int .i64 n] w fun e w' => e = .returned (.int .i64 (trn b n d : Nat)) ∧ w = w' := by
  have hall := yall_good b d w hb hb2 hd
  rw [if_pos hp] at hall
  have HA := Lib.hid hall
  clear hall
  have HP := Lib.hid hp
  clear hp
  go_enter Try.func42, Try.ntmps42
  go_wp2_with fail
  refine HA.out.mono ?_
  rintro e w' ⟨rfl, rfl⟩
  go_wp2_with fail
  go_loop [2, 7, 8, 17] (fun s2 s7 s8 s17 => ∃ j : Nat, j ≤ d ∧ s17 = .int .i64 j ∧ s2 = .int .i64 (n / b ^ j : Nat) ∧ s7 = .int .i64 (trn b n j * b ^ (d - j) : Nat) ∧ s8 = .int .i64 (b ^ (d - j) : Nat)) (fun _ _ _ s17 => d - (intOf s17).toNat)
  case atStart => exact ⟨0, Nat.zero_le _, rfl, by rw [Nat.pow_zero, Nat.div_one], by rw [show trn b n 0 = 0 from rfl, Nat.zero_mul]; rfl, rfl⟩
  case round =>
    obtain ⟨j, hj, rfl, rfl, rfl, rfl⟩ := hrel
    by_cases hlt : j < d
    · have i1 : (j : Int) < (d : Int) := by omega
      obtain ⟨k, hk⟩ : ∃ k, d - j = k + 1 := ⟨d - j - 1, by omega⟩
      have HK : Hid (d - (j + 1) = k) := by unfold Hid; omega
      have hs := ytrn_step b n j k
      have HD := Lib.hid (div_step b n j)
      have e1 : b ^ (j + 1) * b ^ k = b ^ d := by rw [← Nat.pow_add]; congr 1; omega
      have hl : trn b n (j + 1) * b ^ k < b ^ d := by
        rw [← e1]
        exact Nat.mul_lt_mul_of_pos_right (trn_lt (by omega) n (j + 1)) (Nat.pow_pos (by omega))
      have hpd := HP.out
      have hbk : b ^ (k + 1) ≤ b ^ d := Nat.pow_le_pow_right (by omega) (by omega)
      have hv : n / b ^ j ≤ n := Nat.div_le_self _ _
      have hu : (b ^ (k + 1)) / b = b ^ k := by rw [Nat.pow_succ, Nat.mul_div_cancel _ (by omega)]
      rw [hk]
      rw [← hs] at hl
      have HS : Hid (trn b n (j + 1) * b ^ (d - (j + 1)) = trn b n j * b ^ (k + 1) + n / b ^ j % b * b ^ k) := by unfold Hid; rw [HK.out]; exact hs.symm
      have HU : Hid (b ^ (d - (j + 1)) = b ^ k) := by unfold Hid; rw [HK.out]
      have hul : b ^ k ≤ b ^ (k + 1) := Nat.pow_le_pow_right (by omega) (Nat.le_succ k)
      clear hs e1 hk
      generalize trn b n j * b ^ (k + 1) = X at *
      generalize b ^ (k + 1) = U at *
      generalize b ^ k = u at *
      generalize n / b ^ j = v at *
      have hc1 : (U : Int) / (b : Int) = (u : Int) := by rw [← hu]; exact (Int.natCast_ediv _ _).symm
      have hc2 : (v : Int) % (b : Int) = ((v % b : Nat) : Int) := (Int.natCast_emod _ _).symm
      have hc3 : (v : Int) / (b : Int) = ((v / b : Nat) : Int) := (Int.natCast_ediv _ _).symm
      have hc4 : ((v % b : Nat) : Int) * (u : Int) = ((v % b * u : Nat) : Int) := (Int.natCast_mul _ _).symm
      have hvd : v / b ≤ v := Nat.div_le_self _ _
      have hvm : v % b < b := Nat.mod_lt _ (by omega)
      clear hu
      generalize v % b * u = Y at *
      generalize v % b = vm at *
      generalize v / b = vd at *
      generalize b ^ d = P at *
      go_wp2_with fail
      go_round
      case rel => exact ⟨j + 1, by omega, by go_num, by rw [← HD.out], by rw [HS.out]; go_num, by rw [HU.out]⟩
      case measure => simp [intOf]; omega
    · have i1 : ¬ (j : Int) < (d : Int) := by omega
      have hjd : j = d := by omega
      have HE : Hid (trn b n j * b ^ (d - j) = trn b n d) := by unfold Hid; rw [hjd, Nat.sub_self, Nat.pow_zero, Nat.mul_one]
      generalize trn b n j * b ^ (d - j) = t at *
      generalize b ^ (d - j) = t2 at *
      generalize n / b ^ j = v at *
      clear hjd
      go_wp2_with fail
      go_ret
      exact ⟨by rw [← HE.out]; rfl, rfl⟩
section
variable (a i b j n x e y f : Int) (w : World)
  (h1 : ∀ w, Calls Try.prog 39 #[.int .i64 a, .int .i64 i, .int .i64 n] w fun r w' => r = .returned (.tuple #[.int .i64 x, .int .i64 e]) ∧ w = w')
  (h2 : ∀ w, Calls Try.prog 39 #[.int .i64 b, .int .i64 j, .int .i64 n] w fun r w' => r = .returned (.tuple #[.int .i64 y, .int .i64 f]) ∧ w = w')
include h1 in
theorem pair_err1 (he : e ≠ 0) : Calls Try.prog 40 #[.int .i64 a, .int .i64 i, .int .i64 b, .int .i64 j, .int .i64 n] w fun r w' => r = .returned (.tuple #[.int .i64 0, .int .i64 0, .int .i64 e]) ∧ w = w' := by
  have H1 := Lib.hid h1
  have d1 : (e != 0) = true := by simpa using he
  clear h1
  go_enter Try.func40, Try.ntmps40
  go_wp2_with fail
  refine (H1.out _).mono ?_
  rintro r w' ⟨rfl, rfl⟩
  go_wp2_with fail
  refine bodyPost_ret (v := .tuple #[.int .i64 0, .int .i64 0, .int .i64 e]) (by simp [results, Try.results40, go_sem]) rfl ⟨rfl, rfl⟩
include h1 h2 in
theorem pair_err2 (he : e = 0) (hf : f ≠ 0) : Calls Try.prog 40 #[.int .i64 a, .int .i64 i, .int .i64 b, .int .i64 j, .int .i64 n] w fun r w' => r = .returned (.tuple #[.int .i64 0, .int .i64 0, .int .i64 f]) ∧ w = w' := by
  subst he
  have H1 := Lib.hid h1
  have H2 := Lib.hid h2
  have d1 : (f != 0) = true := by simpa using hf
  clear h1 h2
  go_enter Try.func40, Try.ntmps40
  go_wp2_with fail
  refine (H1.out _).mono ?_
  rintro r w' ⟨rfl, rfl⟩
  go_wp2_with fail
  refine (H2.out _).mono ?_
  rintro r w' ⟨rfl, rfl⟩
  go_wp2_with fail
  refine bodyPost_ret (v := .tuple #[.int .i64 0, .int .i64 0, .int .i64 f]) (by simp [results, Try.results40, go_sem]) rfl ⟨rfl, rfl⟩
include h1 h2 in
theorem pair_ok (he : e = 0) (hf : f = 0) : Calls Try.prog 40 #[.int .i64 a, .int .i64 i, .int .i64 b, .int .i64 j, .int .i64 n] w fun r w' => r = .returned (.tuple #[.int .i64 x, .int .i64 y, .int .i64 0]) ∧ w = w' := by
  subst he
  subst hf
  have H1 := Lib.hid h1
  have H2 := Lib.hid h2
  clear h1 h2
  go_enter Try.func40, Try.ntmps40
  go_wp2_with fail
  refine (H1.out _).mono ?_
  rintro r w' ⟨rfl, rfl⟩
  go_wp2_with fail
  refine (H2.out _).mono ?_
  rintro r w' ⟨rfl, rfl⟩
  go_wp2_with fail
  refine bodyPost_ret (v := .tuple #[.int .i64 x, .int .i64 y, .int .i64 0]) (by simp [results, Try.results40, go_sem]) rfl ⟨rfl, rfl⟩
end
end Go.Proofs.Ytmcbkjepjijfjaa
