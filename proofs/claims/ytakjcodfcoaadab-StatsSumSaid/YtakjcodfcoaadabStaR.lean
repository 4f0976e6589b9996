/- Package stats: Right walked. No condition. -/
import Derived.Test.YtakjcodfcoaadabBase2
import Derived.IntWalk
namespace Go.Proofs.Ytakjcodfcoaadab
open Go.ChangeShapes Go.WideShapes Go.ChangeAt Go.RowKit
set_option linter.unusedVariables false

/-- Moments as a value. -/
abbrev MomV (N S Q : Int) : Value := .agg #[.int .i64 N, .int .i64 S, .int .i64 Q]
/-- May moments be those of some numbers? -/
def mok (N S Q : Int) : Prop := 0 ≤ N ∧ N ≤ 1024 ∧ -(N * 1048576) ≤ S ∧ S ≤ N * 1048576 ∧ 0 ≤ Q ∧ Q ≤ N * 1048576 * 1048576 ∧ S * S ≤ N * Q ∧ (S - Q) % 2 = 0
instance (N S Q : Int) : Decidable (mok N S Q) := by unfold mok; infer_instance
theorem ret_mb {a b : Bool} (h : a = b) : Ending.returned (.bool a) = .returned (.bool b) := by rw [h]
theorem sq_bound {S B : Int} (h1 : -B ≤ S) (h2 : S ≤ B) (hB : 0 ≤ B) : 0 ≤ S * S ∧ S * S ≤ B * B := by
  refine ⟨?_, ?_⟩
  · rcases Int.le_total 0 S with h | h
    · exact Int.mul_nonneg h h
    · have := Int.mul_nonneg (a := -S) (b := -S) (by omega) (by omega)
      rwa [Int.neg_mul_neg] at this
  · rcases Int.le_total 0 S with h | h
    · exact Int.mul_le_mul h2 h2 h hB
    · have : -S * -S ≤ B * B := Int.mul_le_mul (by omega) (by omega) (by omega) hB
      rwa [Int.neg_mul_neg] at this
theorem tmod2 (a : Int) : a.tmod 2 = 0 ↔ a % 2 = 0 := by
  rcases Int.le_total 0 a with h | h
  · rw [Int.tmod_eq_emod_of_nonneg h]
  · obtain ⟨b, rfl⟩ : ∃ b, a = -b := ⟨-a, by omega⟩
    rw [Int.neg_tmod, Int.tmod_eq_emod_of_nonneg (by omega)]
    omega
theorem mok_bounds {N S Q : Int} (h0 : 0 ≤ N) (h1 : N ≤ 1024) (h2 : -(N * 1048576) ≤ S) (h3 : S ≤ N * 1048576) (h4 : 0 ≤ Q) (h5 : Q ≤ N * 1048576 * 1048576) :
    0 ≤ S * S ∧ S * S ≤ 1152921504606846976 ∧ 0 ≤ N * Q ∧ N * Q ≤ 1152921504606846976 := by
  obtain ⟨a, b⟩ := sq_bound (S := S) (B := 1073741824) (by omega) (by omega) (by decide)
  refine ⟨a, by omega, Int.mul_nonneg h0 h4, ?_⟩
  have : N * Q ≤ 1024 * 1125899906842624 := Int.mul_le_mul h1 (by omega) h4 (by decide)
  omega
set_option maxRecDepth 20000 in
set_option maxHeartbeats 2000000 in
theorem sright_any (N S Q : Int) (w : World) (hS : -9223372036854775808 ≤ S ∧ S ≤ 9223372036854775807) (hQ : -9223372036854775808 ≤ Q ∧ Q ≤ 9223372036854775807) :
    Calls Try.prog 13 #[MomV N S Q] w fun e w' => e = .returned (.bool (decide (mok N S Q))) ∧ Below w.heap.size w w' := by
  by_cases h0 : N < 0
  · have hf : Hid (decide (mok N S Q) = false) := decide_eq_false (fun h => by obtain ⟨a, b, c, d, e, f, _⟩ := h; omega)
    go_enter Try.func13, Try.ntmps13
    go_wp2
    go_ret
    exact ⟨ret_mb hf.out.symm, (Below.refl _ _).alloc (Nat.le_refl _) _⟩
  by_cases h1 : 1024 < N
  · have hf : Hid (decide (mok N S Q) = false) := decide_eq_false (fun h => by obtain ⟨a, b, c, d, e, f, _⟩ := h; omega)
    go_enter Try.func13, Try.ntmps13
    go_wp2
    go_ret
    exact ⟨ret_mb hf.out.symm, (Below.refl _ _).alloc (Nat.le_refl _) _⟩
  by_cases h2 : S < -(N * 1048576)
  · have hf : Hid (decide (mok N S Q) = false) := decide_eq_false (fun h => by obtain ⟨a, b, c, d, e, f, _⟩ := h; omega)
    go_enter Try.func13, Try.ntmps13
    go_wp2
    go_ret
    exact ⟨ret_mb hf.out.symm, (Below.refl _ _).alloc (Nat.le_refl _) _⟩
  by_cases h3 : N * 1048576 < S
  · have hf : Hid (decide (mok N S Q) = false) := decide_eq_false (fun h => by obtain ⟨a, b, c, d, e, f, _⟩ := h; omega)
    go_enter Try.func13, Try.ntmps13
    go_wp2
    go_ret
    exact ⟨ret_mb hf.out.symm, (Below.refl _ _).alloc (Nat.le_refl _) _⟩
  by_cases h4 : Q < 0
  · have hf : Hid (decide (mok N S Q) = false) := decide_eq_false (fun h => by obtain ⟨a, b, c, d, e, f, _⟩ := h; omega)
    go_enter Try.func13, Try.ntmps13
    go_wp2
    go_ret
    exact ⟨ret_mb hf.out.symm, (Below.refl _ _).alloc (Nat.le_refl _) _⟩
  by_cases h5 : N * 1048576 * 1048576 < Q
  · have hf : Hid (decide (mok N S Q) = false) := decide_eq_false (fun h => by obtain ⟨a, b, c, d, e, f, _⟩ := h; omega)
    go_enter Try.func13, Try.ntmps13
    go_wp2
    go_ret
    exact ⟨ret_mb hf.out.symm, (Below.refl _ _).alloc (Nat.le_refl _) _⟩
  obtain ⟨b0, b1, b2, b3⟩ := mok_bounds (N := N) (S := S) (Q := Q) (by omega) (by omega) (by omega) (by omega) (by omega) (by omega)
  have HH : Hid (¬ N < 0 ∧ ¬ 1024 < N ∧ ¬ S < -(N * 1048576) ∧ ¬ N * 1048576 < S ∧ ¬ Q < 0 ∧ ¬ N * 1048576 * 1048576 < Q) := ⟨h0, h1, h2, h3, h4, h5⟩
  by_cases h6 : S * S ≤ N * Q
  · by_cases h7 : (S - Q) % 2 = 0
    · have hf : Hid (decide (mok N S Q) = true) := decide_eq_true ⟨by omega, by omega, by omega, by omega, by omega, by omega, h6, h7⟩
      have d1 : ((S - Q).tmod 2 == 0) = true := by rw [beq_iff_eq]; exact (tmod2 _).2 h7
      clear h7
      go_enter Try.func13, Try.ntmps13
      go_wp2
      go_ret
      exact ⟨ret_mb hf.out.symm, (Below.refl _ _).alloc (Nat.le_refl _) _⟩
    · have hf : Hid (decide (mok N S Q) = false) := decide_eq_false (fun h => h7 h.2.2.2.2.2.2.2)
      have d1 : ((S - Q).tmod 2 == 0) = false := by rw [beq_eq_false_iff_ne]; exact fun h => h7 ((tmod2 _).1 h)
      clear h7
      go_enter Try.func13, Try.ntmps13
      go_wp2
      go_ret
      exact ⟨ret_mb hf.out.symm, (Below.refl _ _).alloc (Nat.le_refl _) _⟩
  · have hf : Hid (decide (mok N S Q) = false) := decide_eq_false (fun h => h6 h.2.2.2.2.2.2.1)
    go_enter Try.func13, Try.ntmps13
    go_wp2
    go_ret
    exact ⟨ret_mb hf.out.symm, (Below.refl _ _).alloc (Nat.le_refl _) _⟩
end Go.Proofs.Ytakjcodfcoaadab
