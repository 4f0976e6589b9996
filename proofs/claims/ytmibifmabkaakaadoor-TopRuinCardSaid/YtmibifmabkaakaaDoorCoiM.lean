/- Tossing a coin by a fraction: plain. No condition. -/
import Derived.Test.YtmibifmabkaakaaDoorBase
namespace Go.Proofs.YtmibifmabkaakaaDoor
set_option linter.unusedVariables false

/-- A fraction as a value. -/
abbrev FracV (a b : Int) : Value := .agg #[.int .i64 a, .int .i64 b]
def cok (a b : Int) : Bool := decide (1 ≤ b ∧ b ≤ 1099511627776 ∧ 0 ≤ a ∧ a ≤ b)
/-- What is left of the fraction, held against the tape from here on. -/
def ctf (den : Int) : List Bool → Int → Nat → Bool × Int × Int
  | [], r, n => if den ≤ r then (true, n, 0) else if r ≤ 0 then (false, n, 0) else (false, 0, 7)
  | b :: t, r, n => if den ≤ r then (true, n, 0) else if r ≤ 0 then (false, n, 0) else ctf den t (2 * r - if b then den else 0) (n + 1)
theorem ctf_yes {den r : Int} {t : List Bool} {n : Nat} (h : den ≤ r) : ctf den t r n = (true, (n : Int), 0) := by cases t <;> exact if_pos h
theorem ctf_no {den r : Int} {t : List Bool} {n : Nat} (h : ¬ den ≤ r) (h2 : r ≤ 0) : ctf den t r n = (false, (n : Int), 0) := by cases t <;> (rw [ctf, if_neg h, if_pos h2])
theorem ctf_end {den r : Int} {n : Nat} (h : ¬ den ≤ r) (h2 : ¬ r ≤ 0) : ctf den [] r n = (false, 0, 7) := by rw [ctf, if_neg h, if_neg h2]
theorem ctf_step {den r : Int} {t : List Bool} {b : Bool} {n : Nat} (h : ¬ den ≤ r) (h2 : ¬ r ≤ 0) : ctf den (b :: t) r n = ctf den t (2 * r - if b then den else 0) (n + 1) := by rw [ctf, if_neg h, if_neg h2]
def ptoss (t : List Bool) (a b : Int) : Bool × Int × Int := if cok a b = true then ctf b t a 0 else (false, 0, 2)
theorem drop_bool {t : List Bool} {k : Nat} (h : k < t.length) : t.drop k = t[k] :: t.drop (k + 1) := List.drop_eq_getElem_cons h
/-- How much of the tape is used: no more than there is, and some, if it is not sure before. -/
theorem ctf_used (den : Int) : ∀ (t : List Bool) (r : Int) (n : Nat), (ctf den t r n).2.2 = 0 → (n : Int) ≤ (ctf den t r n).2.1 ∧ (ctf den t r n).2.1 ≤ (n : Int) + t.length
  | [], r, n => by
    unfold ctf
    split
    · intro _; simp
    · split
      · intro _; simp
      · intro h; simp at h
  | b :: t, r, n => by
    unfold ctf
    split
    · intro _; simp; omega
    · split
      · intro _; simp; omega
      · intro h
        have := ctf_used den t _ (n + 1) h
        simp at this ⊢
        omega
theorem ctf_err (den : Int) : ∀ (t : List Bool) (r : Int) (n : Nat), (ctf den t r n).2.2 ≠ 0 → ctf den t r n = (false, 0, 7)
  | [], r, n => by
    unfold ctf
    split
    · intro h; exact absurd rfl h
    · split
      · intro h; exact absurd rfl h
      · intro _; rfl
  | b :: t, r, n => by
    unfold ctf
    split
    · intro h; exact absurd rfl h
    · split
      · intro h; exact absurd rfl h
      · exact ctf_err den t _ (n + 1)
theorem ptoss_used {t : List Bool} {a b : Int} (h : (ptoss t a b).2.2 = 0) : 0 ≤ (ptoss t a b).2.1 ∧ (ptoss t a b).2.1 ≤ t.length := by
  unfold ptoss at h ⊢
  split at h
  · next hc =>
    rw [if_pos hc]
    have := ctf_used b t a 0 h
    simp at this
    exact this
  · next hc => simp at h
theorem ptoss_more {t : List Bool} {a b : Int} (h : (ptoss t a b).2.2 = 0) (hy : (ptoss t a b).1 = false) (ha : 0 < a) : 0 < (ptoss t a b).2.1 := by
  unfold ptoss at h hy ⊢
  split at h
  · next hc =>
    rw [if_pos hc] at hy ⊢
    have hc2 := hc
    unfold cok at hc2
    simp at hc2
    by_cases h1 : b ≤ a
    · rw [ctf_yes h1] at hy; simp at hy
    · cases t with
      | nil => rw [ctf_end h1 (by omega)] at h; simp at h
      | cons x t =>
        rw [ctf_step h1 (by omega)] at h ⊢
        have := (ctf_used b t _ (0 + 1) h).1
        omega
  · next hc => simp at h
theorem ptoss_all {t : List Bool} {a : Int} (h : 0 < a) (h2 : a ≤ 1099511627776) : ptoss t a a = (true, 0, 0) := by
  unfold ptoss cok
  rw [decide_eq_true ⟨by omega, h2, by omega, by omega⟩, if_pos rfl, ctf_yes (Int.le_refl a)]
  rfl
theorem ptoss_none {t : List Bool} {b : Int} (h : 0 < b) (h2 : b ≤ 1099511627776) : ptoss t 0 b = (false, 0, 0) := by
  unfold ptoss cok
  rw [decide_eq_true ⟨by omega, h2, by omega, by omega⟩, if_pos rfl, ctf_no (by omega) (by omega)]
  rfl
end Go.Proofs.YtmibifmabkaakaaDoor
