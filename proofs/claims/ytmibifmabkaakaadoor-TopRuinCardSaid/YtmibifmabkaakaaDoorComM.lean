/- Choices counted one by one: plain. No condition. -/
import Derived.Test.YtmibifmabkaakaaDoorBinM
namespace Go.Proofs.YtmibifmabkaakaaDoor

/-- One more: what the count becomes. -/
theorem of_step (a i : Nat) : bin (a + i) i / (i + 1) * (a + i + 1) + bin (a + i) i % (i + 1) * (a + i + 1) / (i + 1) = bin (a + (i + 1)) (i + 1) := by
  have h := bin_mul (a + i) i
  have hd := Nat.div_add_mod (bin (a + i) i) (i + 1)
  have e : bin (a + i) i * (a + i + 1) = (i + 1) * (bin (a + i) i / (i + 1) * (a + i + 1)) + bin (a + i) i % (i + 1) * (a + i + 1) := by
    conv => lhs; rw [← hd]
    rw [Nat.add_mul, Nat.mul_assoc]
  have h2 : bin (a + (i + 1)) (i + 1) = bin (a + i) i * (a + i + 1) / (i + 1) := by
    rw [Nat.mul_comm, h, Nat.mul_div_cancel _ (Nat.succ_pos i)]
    rfl
  rw [h2, e, Nat.mul_add_div (Nat.succ_pos i)]
theorem of_flip {n k : Nat} (h : k ≤ n) : bin n (n - k) = bin n k := by
  have := bin_symm (n - k) k
  rwa [show n - k + k = n by omega] at this
theorem of_bounds {a i : Nat} (h : a + i + 1 ≤ 61) : bin (a + i) i / (i + 1) * (a + i + 1) ≤ 2305843009213693952 ∧ bin (a + i) i % (i + 1) * (a + i + 1) ≤ 3721 := by
  refine ⟨?_, ?_⟩
  · have := of_step a i
    have h2 := bin_small (n := a + (i + 1)) (by omega) (i + 1)
    exact Nat.le_trans (Nat.le_trans (Nat.le_add_right _ _) (Nat.le_of_eq this)) h2
  · have h1 : bin (a + i) i % (i + 1) < i + 1 := Nat.mod_lt _ (Nat.succ_pos i)
    have h2 : bin (a + i) i % (i + 1) * (a + i + 1) ≤ 61 * 61 := Nat.mul_le_mul (by omega) (by omega)
    omega
end Go.Proofs.YtmibifmabkaakaaDoor
