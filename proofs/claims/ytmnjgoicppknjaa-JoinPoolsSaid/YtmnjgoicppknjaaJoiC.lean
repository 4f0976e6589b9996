/- Pools joined: in how many ways, walked. No condition. -/
import Derived.Test.YtmnjgoicppknjaaComO
namespace Go.Proofs.Ytmnjgoicppknjaa
open Go.ChangeShapes Go.WideShapes Go.ChangeAt Go.RowKit
set_option linter.unusedVariables false

def jbad (n m k f : Int) : Prop := n < 0 ∨ m < 0 ∨ 25 < n ∨ 25 < m ∨ f < 0 ∨ k < f
instance (n m k f : Int) : Decidable (jbad n m k f) := by unfold jbad; infer_instance
/-- What Count answers. -/
def jcntR (n m k f : Int) : Int × Int := if jbad n m k f then (0, 2) else (ebin n f * ebin m (k - f), 0)
theorem run_min_int4 {P : Program} (w : World) (ts : Array TypeId) (t : TypeId) (a b c d : Int) :
    (Builtin.min_ ts t #[.int .i64 a, .int .i64 b, .int .i64 c, .int .i64 d]).run P w = .ok (.int .i64 (if d < (if c < (if b < a then b else a) then c else (if b < a then b else a)) then d else (if c < (if b < a then b else a) then c else (if b < a then b else a)))) w := by
  simp [Builtin.min_, Builtin.min2]
theorem ebin_25 {n k : Int} (h : n ≤ 25) : 0 ≤ ebin n k ∧ ebin n k ≤ 33554432 := by
  unfold ebin
  split
  · omega
  · have h1 := bin_le n.toNat k.toNat
    have h2 : 2 ^ n.toNat ≤ 2 ^ 25 := Nat.pow_le_pow_right (by omega) (by omega)
    have h3 : (2 : Nat) ^ 25 = 33554432 := by decide
    omega
set_option maxRecDepth 20000 in
set_option maxHeartbeats 2000000 in
theorem jcnt_any (n m k f : Int) (w : World) (hk : k ≤ 9223372036854775807) :
    Calls Try.prog 17 #[.int .i64 n, .int .i64 m, .int .i64 k, .int .i64 f] w fun e w' => e = .returned (.tuple #[.int .i64 (jcntR n m k f).1, .int .i64 (jcntR n m k f).2]) ∧ ∃ d, w' = w.drewN d := by
  obtain ⟨M, hM⟩ : ∃ M, (if f < (if k < (if m < n then m else n) then k else (if m < n then m else n)) then f else (if k < (if m < n then m else n) then k else (if m < n then m else n))) = M := ⟨_, rfl⟩
  obtain ⟨X, hX⟩ : ∃ X, (if n < m then m else n) = X := ⟨_, rfl⟩
  have hmin : ∀ (u : World) (ts : Array TypeId) (t : TypeId), (Builtin.min_ ts t #[.int .i64 n, .int .i64 m, .int .i64 k, .int .i64 f]).run Try.prog u = .ok (.int .i64 M) u := fun u ts t => by rw [run_min_int4, hM]
  have e1 : M < 0 ↔ n < 0 ∨ m < 0 ∨ k < 0 ∨ f < 0 := by rw [← hM]; repeat' split
                                                        all_goals omega
  have e2 : 25 < X ↔ 25 < n ∨ 25 < m := by rw [← hX]; split <;> omega
  clear hM
  by_cases hb : jbad n m k f
  · have HV : Hid (jcntR n m k f = (0, 2)) := if_pos hb
    unfold jbad at hb
    have hc : M < 0 ∨ (¬ M < 0 ∧ 25 < X) ∨ (¬ M < 0 ∧ ¬ 25 < X ∧ f > k) := by rw [e1, e2]; omega
    clear e1 e2 hb
    rcases hc with h1 | ⟨h1, h2⟩ | ⟨h1, h2, h3⟩
    · clear hX
      go_enter Try.func17, Try.ntmps17
      go_wp2_with fail
      go_ret2
      exact ⟨by rw [HV.out]; rfl, 0, rfl⟩
    · go_enter Try.func17, Try.ntmps17
      go_wp2_with fail
      go_ret2
      exact ⟨by rw [HV.out]; rfl, 0, rfl⟩
    · go_enter Try.func17, Try.ntmps17
      go_wp2_with fail
      go_ret2
      exact ⟨by rw [HV.out]; rfl, 0, rfl⟩
  · have HV : Hid (jcntR n m k f = (ebin n f * ebin m (k - f), 0)) := if_neg hb
    unfold jbad at hb
    have hc : ¬ M < 0 ∧ ¬ 25 < X ∧ ¬ f > k := by rw [e1, e2]; omega
    obtain ⟨h1, h2, h3⟩ := hc
    have HC1 := Lib.hid (fun u => cof_ok n f u (by omega) (by omega) (by omega))
    have HC2 := Lib.hid (fun u => cof_ok m (k - f) u (by omega) (by omega) (by omega))
    have b1 := ebin_25 (n := n) (k := f) (by omega)
    have b2 := ebin_25 (n := m) (k := k - f) (by omega)
    have hw1 : wrap64 (k - f) = k - f := by unfold wrap64; omega
    obtain ⟨p, hp⟩ : ∃ p, ebin n f * ebin m (k - f) = p := ⟨_, rfl⟩
    have hpb : 0 ≤ p ∧ p ≤ 1125899906842624 := by
      rw [← hp]
      have q1 : ebin n f * ebin m (k - f) ≤ 33554432 * ebin m (k - f) := Int.mul_le_mul_of_nonneg_right b1.2 b2.1
      exact ⟨Int.mul_nonneg b1.1 b2.1, by omega⟩
    rw [hp] at HV
    generalize ebin n f = B1 at *
    generalize ebin m (k - f) = B2 at *
    clear e1 e2 hb
    go_enter Try.func17, Try.ntmps17
    go_wp2_with fail
    refine (HC1.out _).mono ?_
    rintro e w1 ⟨rfl, d1, rfl⟩
    go_wp2_with fail
    refine (HC2.out _).mono ?_
    rintro e w1 ⟨rfl, d2, rfl⟩
    go_wp2_with fail
    go_ret2
    exact ⟨by rw [HV.out]; rfl, _, rfl⟩
end Go.Proofs.Ytmnjgoicppknjaa
