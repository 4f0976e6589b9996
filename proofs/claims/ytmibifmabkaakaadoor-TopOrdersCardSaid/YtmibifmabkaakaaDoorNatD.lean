/- A word and one more, divided by a word, by guesses: plain. No condition. -/
import Derived.Test.YtmibifmabkaakaaDoorNatM
import Derived.Test.YtmibifmabkaakaaDoorBigO
import Derived.Lib.BitFns
namespace Go.Proofs.YtmibifmabkaakaaDoor
set_option linter.unusedVariables false

/-- Two digits and one more, by two digits: a guess that is not too small. -/
structure DG (U u v1 v0 q r : Nat) : Prop where
  sum : q * v1 + r = U
  le : (U * 4294967296 + u) / (v1 * 4294967296 + v0) ≤ q
/-- What is known of the numbers. -/
structure DC (U u v1 v0 : Nat) : Prop where
  ub : u < 4294967296
  v0b : v0 < 4294967296
  v1b : v1 < 4294967296
  top : 2147483648 ≤ v1
  lt : U < v1 * 4294967296 + v0
def dff (U u : Nat) (i : Nat) : Nat := if i = 0 then u else if i = 1 then U % 4294967296 else U / 4294967296
def dgg (v1 v0 : Nat) (i : Nat) : Nat := if i = 0 then v0 else v1
section
variable {U u v1 v0 q r : Nat}
theorem fv_dff (U u : Nat) : fv (dff U u) 3 = U * 4294967296 + u := by
  simp only [fv, bp, dff]
  simp
  omega
theorem fv_dgg (v1 v0 : Nat) : fv (dgg v1 v0) 2 = v1 * 4294967296 + v0 := by
  simp only [fv, bp, dgg]
  simp
  omega
theorem DC.fokf (h : DC U u v1 v0) : fok (dff U u) 3 := fun i hi => by
  have := h.ub; have := h.lt; have := h.v1b; have := h.v0b
  rcases (by omega : i = 0 ∨ i = 1 ∨ i = 2) with rfl | rfl | rfl
  · exact h.ub
  · show U % 4294967296 < 4294967296; omega
  · show U / 4294967296 < 4294967296; omega
theorem DC.fokg (h : DC U u v1 v0) : fok (dgg v1 v0) 2 := fun i hi => by
  rcases (by omega : i = 0 ∨ i = 1) with rfl | rfl
  · exact h.v0b
  · exact h.v1b
theorem DC.wide (h : DC U u v1 v0) : fv (dff U u) 3 < fv (dgg v1 v0) 2 * 4294967296 := by
  rw [fv_dff, fv_dgg]
  have := h.lt; have := h.ub
  omega
theorem DG.inv (h : DG U u v1 v0 q r) : GInv (dff U u) (dgg v1 v0) 0 q r := by
  refine ⟨?_, by rw [fv_dff, fv_dgg]; exact h.le⟩
  show q * v1 + r = U / 4294967296 * 4294967296 + U % 4294967296
  rw [h.sum]; omega
theorem DG.of (h : GInv (dff U u) (dgg v1 v0) 0 q r) : DG U u v1 v0 q r := by
  obtain ⟨h1, h2⟩ := h
  rw [fv_dff, fv_dgg] at h2
  refine ⟨?_, h2⟩
  have h3 : q * v1 + r = U / 4294967296 * 4294967296 + U % 4294967296 := h1
  omega
theorem DC.top_le (h : DC U u v1 v0) : U / 4294967296 ≤ v1 := by
  have := h.lt; have := h.v0b
  omega
theorem DC.first (h : DC U u v1 v0) : DG U u v1 v0 (U / v1) (U % v1) := by
  have h1 := GInv.first (g := dgg v1 v0) (m := 0) h.fokf (by have := h.top; show 0 < v1; omega)
  have e : dff U u (0 + 2) * 4294967296 + dff U u (0 + 1) = U := by show U / 4294967296 * 4294967296 + U % 4294967296 = U; omega
  rw [e] at h1
  exact DG.of h1
theorem DG.q_lt (h : DG U u v1 v0 q r) (c : DC U u v1 v0) : q < 4294967298 := h.inv.q_lt c.fokf c.top c.top_le
theorem DG.step (h : DG U u v1 v0 q r) (c : DC U u v1 v0) (hr : r < 4294967296) (hc : 4294967296 ≤ q ∨ r * 4294967296 + u < q * v0) : 0 < q ∧ DG U u v1 v0 (q - 1) (r + v1) := by
  obtain ⟨h1, h2⟩ := h.inv.step c.fokf c.wide hr hc
  exact ⟨h1, DG.of h2⟩
theorem DG.last (h : DG U u v1 v0 q r) (c : DC U u v1 v0) (hq : q < 4294967296) (hc : q * v0 ≤ r * 4294967296 + u) : q = (U * 4294967296 + u) / (v1 * 4294967296 + v0) := by
  have h1 := h.sum
  have h2 := h.le
  have hV : 0 < v1 * 4294967296 + v0 := by have := c.top; omega
  have h3 : q * (v1 * 4294967296 + v0) ≤ U * 4294967296 + u := by
    rw [Nat.mul_add, ← Nat.mul_assoc]
    have h4 : (q * v1 + r) * 4294967296 = U * 4294967296 := by rw [h1]
    rw [Nat.add_mul] at h4
    omega
  have h5 := (Nat.le_div_iff_mul_le hV).2 h3
  exact Nat.le_antisymm h5 h2
theorem DG.broke (h : DG U u v1 v0 q r) (c : DC U u v1 v0) (hr : 4294967296 ≤ r) : q = (U * 4294967296 + u) / (v1 * 4294967296 + v0) := by
  have h1 := h.inv.broke c.fokf c.fokg (by have := c.top; show 0 < v1; omega) c.top_le hr
  have hq : q * v0 ≤ 4294967296 * 4294967296 := Nat.mul_le_mul (by omega) (by have := c.v0b; omega)
  exact h.last c h1.1 (by omega)
end
theorem bitlen_lo : ∀ (f x : Nat), x < 2 ^ f → x < 2 ^ (Lib.bitLenAux f x) ∧ (0 < x → 0 < Lib.bitLenAux f x ∧ 2 ^ (Lib.bitLenAux f x - 1) ≤ x)
  | 0, x, h => by
    have : x = 0 := by simpa using h
    subst this
    exact ⟨by simp [Lib.bitLenAux], fun h => absurd h (by simp)⟩
  | f + 1, x, h => by
    by_cases h0 : x = 0
    · subst h0; exact ⟨by simp [Lib.bitLenAux], fun h => absurd h (by simp)⟩
    · have h1 := bitlen_lo f (x / 2) (by rw [Nat.pow_succ] at h; omega)
      have e : Lib.bitLenAux (f + 1) x = 1 + Lib.bitLenAux f (x / 2) := by simp [Lib.bitLenAux, h0]
      rw [e]
      generalize hL : Lib.bitLenAux f (x / 2) = L at *
      refine ⟨?_, fun _ => ⟨by omega, ?_⟩⟩
      · rw [Nat.add_comm, Nat.pow_succ]; omega
      · rw [Nat.add_sub_cancel_left]
        by_cases hx : 0 < x / 2
        · obtain ⟨h2, h3⟩ := h1.2 hx
          obtain ⟨M, rfl⟩ : ∃ M, L = M + 1 := ⟨L - 1, by omega⟩
          rw [Nat.add_sub_cancel] at h3
          rw [Nat.pow_succ]; omega
        · have : L = 0 := by
            rw [← hL]
            have : x / 2 = 0 := by omega
            rw [this]
            cases f <;> simp [Lib.bitLenAux]
          subst this
          simp; omega
/-- The shift that brings the highest bit up. -/
theorem shift_up {y : Nat} (h0 : 0 < y) (h1 : y < 18446744073709551616) : Lib.bitLen y ≤ 64 ∧ 0 < Lib.bitLen y ∧ 9223372036854775808 ≤ y * 2 ^ (64 - Lib.bitLen y) ∧ y * 2 ^ (64 - Lib.bitLen y) < 18446744073709551616 := by
  obtain ⟨h2, h3⟩ := bitlen_lo 64 y h1
  obtain ⟨h4, h5⟩ := h3 h0
  have h6 : Lib.bitLen y ≤ 64 := Lib.bitLen_le y 64 (by omega) h1
  have e : Lib.bitLenAux 64 y = Lib.bitLen y := rfl
  rw [e] at h2 h4 h5
  generalize Lib.bitLen y = L at *
  refine ⟨h6, h4, ?_, ?_⟩
  · have h7 : 2 ^ (L - 1) * 2 ^ (64 - L) ≤ y * 2 ^ (64 - L) := Nat.mul_le_mul_right _ h5
    rw [← Nat.pow_add, show L - 1 + (64 - L) = 63 by omega] at h7
    exact h7
  · have h7 : y * 2 ^ (64 - L) < 2 ^ L * 2 ^ (64 - L) := Nat.mul_lt_mul_of_pos_right h2 (Nat.pow_pos (by decide))
    rw [← Nat.pow_add, show L + (64 - L) = 64 by omega] at h7
    exact h7
end Go.Proofs.YtmibifmabkaakaaDoor
