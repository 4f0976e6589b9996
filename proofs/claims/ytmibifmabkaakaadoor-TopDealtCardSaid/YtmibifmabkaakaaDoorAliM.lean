/- Draws by places and levels: plain. No condition. -/
import Derived.Test.YtmibifmabkaakaaDoorSeq
namespace Go.Proofs.YtmibifmabkaakaaDoor
set_option linter.unusedVariables false

/-- The first so many weights are in range. -/
def aokc (l : List Int) : Nat → Bool
  | 0 => true
  | j + 1 => aokc l j && decide (0 ≤ pat l j ∧ pat l j ≤ 1048576)
def asum (l : List Int) : Nat → Int
  | 0 => 0
  | j + 1 => asum l j + pat l j
def aokB (l : List Int) : Bool := decide (1 ≤ l.length ∧ l.length ≤ 400) && aokc l l.length
theorem aokc_at {l : List Int} {n : Nat} (h : aokc l n = true) : ∀ j, j < n → 0 ≤ pat l j ∧ pat l j ≤ 1048576 := by
  induction n with
  | zero => intro j hj; omega
  | succ n ih =>
    simp only [aokc, Bool.and_eq_true, decide_eq_true_eq] at h
    intro j hj
    by_cases e : j = n
    · subst e; exact h.2
    · exact ih h.1 j (by omega)
theorem aokc_pre {l : List Int} {n : Nat} (h : aokc l n = true) : ∀ m, m ≤ n → aokc l m = true := by
  induction n with
  | zero => intro m hm; rw [show m = 0 by omega]; rfl
  | succ n ih =>
    intro m hm
    by_cases e : m = n + 1
    · rw [e]; exact h
    · simp only [aokc, Bool.and_eq_true] at h
      exact ih h.1 m (by omega)
theorem aokc_no {l : List Int} {m n : Nat} (hm : m ≤ n) (h : aokc l m = false) : aokc l n = false := by
  rw [Bool.eq_false_iff] at h ⊢
  exact fun h2 => h (aokc_pre h2 m hm)
theorem asum_bd {l : List Int} {n : Nat} (h : aokc l n = true) : ∀ j, j ≤ n → 0 ≤ asum l j ∧ asum l j ≤ 1048576 * j := by
  intro j
  induction j with
  | zero => intro _; exact ⟨Int.le_refl _, Int.le_refl _⟩
  | succ j ih => intro hj; have := ih (by omega); have := aokc_at h j (by omega); rw [asum]; omega
/-- What Sum answers. -/
def asumR (l : List Int) : Int × Int := if aokB l = true then if asum l l.length = 0 then (0, 3) else (asum l l.length, 0) else (0, 2)

/-- The first place of which P holds; -1: none. -/
def lowf (P : Nat → Bool) : Nat → Int
  | 0 => -1
  | j + 1 => if lowf P j < 0 ∧ P j = true then (j : Int) else lowf P j
theorem lowf_bd (P : Nat → Bool) : ∀ j, -1 ≤ lowf P j ∧ lowf P j < j := by
  intro j
  induction j with
  | zero => exact ⟨Int.le_refl _, by show (-1 : Int) < _; omega⟩
  | succ j ih => rw [lowf]; split <;> omega
theorem lowf_neg {P : Nat → Bool} : ∀ j, lowf P j < 0 → lowf P j = -1 := by
  intro j h
  have := lowf_bd P j
  omega
theorem lowf_none {P : Nat → Bool} : ∀ j, (∀ k, k < j → P k = false) → lowf P j = -1 := by
  intro j
  induction j with
  | zero => intro _; rfl
  | succ j ih => intro h; rw [lowf, if_neg (by rw [h j (by omega)]; simp), ih fun k hk => h k (by omega)]
theorem lowf_not {P : Nat → Bool} : ∀ j, lowf P j < 0 → ∀ k, k < j → P k = false := by
  intro j
  induction j with
  | zero => intro _ k hk; omega
  | succ j ih =>
    intro h k hk
    rw [lowf] at h
    split at h
    · omega
    · next h2 =>
      by_cases e : k = j
      · subst e
        cases hp : P k
        · rfl
        · exact absurd ⟨h, hp⟩ h2
      · exact ih h k (by omega)
theorem lowf_hit {P : Nat → Bool} {k : Nat} (h1 : lowf P k < 0) (h2 : P k = true) : ∀ j, k < j → lowf P j = k := by
  intro j
  induction j with
  | zero => intro h; omega
  | succ j ih =>
    intro h
    rw [lowf]
    by_cases e : j = k
    · subst e; rw [if_pos ⟨h1, h2⟩]
    · have := ih (by omega)
      rw [if_neg (by omega)]; exact this
theorem lowf_is {P : Nat → Bool} : ∀ j k, lowf P j = (k : Nat) → k < j ∧ P k = true := by
  intro j
  induction j with
  | zero => intro k h; simp [lowf] at h
  | succ j ih =>
    intro k h
    rw [lowf] at h
    split at h
    · next h2 => have : j = k := by omega
                 subst this; exact ⟨by omega, h2.2⟩
    · have := ih k h; exact ⟨by omega, this.2⟩
theorem lowf_congr {P Q : Nat → Bool} : ∀ j, (∀ k, k < j → P k = Q k) → lowf P j = lowf Q j := by
  intro j
  induction j with
  | zero => intro _; rfl
  | succ j ih => intro h; rw [lowf, lowf, ih fun k hk => h k (by omega), h j (by omega)]

/-- What is left at each place, which are done, levels, aliases. -/
structure AS where
  L : Nat → Int
  D : Nat → Bool
  V : Nat → Int
  T : Nat → Int
def AS.low (s : AS) (S : Int) : Nat → Bool := fun k => !s.D k && decide (s.L k < S)
def AS.high (s : AS) (S : Int) : Nat → Bool := fun k => !s.D k && decide (S < s.L k)
def updb (f : Nat → Bool) (j : Nat) : Nat → Bool := fun i => if i = j then true else f i
/-- One place is done: a, by an alias b. -/
def AS.step (s : AS) (S : Int) (a b : Nat) : AS := ⟨updf s.L b (s.L b - (S - s.L a)), updb s.D a, updf s.V a (s.L a), updf s.T a b⟩
def AS.start (l : List Int) (n : Nat) (S : Int) : AS := ⟨fun k => pat l k * n, fun _ => false, fun _ => S, fun k => k⟩
def AS.run (S : Int) (n : Nat) : Nat → AS → AS
  | 0, s => s
  | f + 1, s => if lowf (s.low S) n < 0 ∨ lowf (s.high S) n < 0 then s else AS.run S n f (s.step S (lowf (s.low S) n).toNat (lowf (s.high S) n).toNat)
/-- How many are done. -/
def AS.cnt (s : AS) : Nat → Nat
  | 0 => 0
  | j + 1 => AS.cnt s j + if s.D j = true then 1 else 0
theorem AS.cnt_le (s : AS) : ∀ j, s.cnt j ≤ j := by
  intro j
  induction j with
  | zero => exact Nat.le_refl _
  | succ j ih => rw [AS.cnt]; split <;> omega
theorem AS.cnt_lt {s : AS} {k : Nat} (hk : s.D k = false) : ∀ j, k < j → s.cnt j < j := by
  intro j
  induction j with
  | zero => intro h; omega
  | succ j ih =>
    intro h
    rw [AS.cnt]
    by_cases e : j = k
    · subst e
      have := s.cnt_le j
      rw [hk]; simp; omega
    · have := ih (by omega)
      split <;> omega
theorem AS.cnt_step {s : AS} {S : Int} {a b : Nat} (ha : s.D a = false) : ∀ j, (s.step S a b).cnt j = s.cnt j + if a < j then 1 else 0 := by
  intro j
  induction j with
  | zero => rfl
  | succ j ih =>
    rw [AS.cnt, AS.cnt, ih]
    have hD : (s.step S a b).D j = if j = a then true else s.D j := rfl
    rw [hD]
    by_cases e : j = a
    · subst e
      rw [if_neg (show ¬ j < j by omega), if_pos (show j < j + 1 by omega), ha]
      simp
    · rw [if_neg e]
      by_cases e2 : a < j
      · rw [if_pos e2, if_pos (show a < j + 1 by omega)]; omega
      · rw [if_neg e2, if_neg (show ¬ a < j + 1 by omega)]; omega
/-- What is left lies between bounds. -/
def AS.ok (s : AS) (S : Int) (n : Nat) : Prop := (∀ k, k < n → 0 ≤ s.L k ∧ s.L k ≤ 419430400) ∧ 0 ≤ S ∧ S ≤ 419430400
theorem AS.step_ok {s : AS} {S : Int} {n a b : Nat} (h : s.ok S n) (ha : a < n) (hb : b < n) (h1 : s.L a < S) (h2 : S < s.L b) : (s.step S a b).ok S n := by
  obtain ⟨h3, h4⟩ := h
  refine ⟨fun k hk => ?_, h4⟩
  show 0 ≤ updf s.L b (s.L b - (S - s.L a)) k ∧ updf s.L b (s.L b - (S - s.L a)) k ≤ 419430400
  unfold updf
  have ha' := h3 a ha
  have hb' := h3 b hb
  split
  · omega
  · exact h3 k hk
theorem AS.run_stop {s : AS} {S : Int} {n : Nat} (h : lowf (s.low S) n < 0 ∨ lowf (s.high S) n < 0) : ∀ f, AS.run S n f s = s
  | 0 => rfl
  | f + 1 => if_pos h
theorem AS.run_next {s : AS} {S : Int} {n a b f : Nat} (ha : lowf (s.low S) n = (a : Nat)) (hb : lowf (s.high S) n = (b : Nat)) : AS.run S n (f + 1) s = AS.run S n f (s.step S a b) := by
  rw [AS.run, if_neg (by omega), ha, hb, Int.toNat_natCast, Int.toNat_natCast]
/-- What Make answers: levels and aliases. -/
def amakeF (l : List Int) : AS := AS.run (asum l l.length) l.length l.length (AS.start l l.length (asum l l.length))
end Go.Proofs.YtmibifmabkaakaaDoor
