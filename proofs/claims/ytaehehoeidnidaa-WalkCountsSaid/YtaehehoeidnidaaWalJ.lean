/- The reference's QWays, walked. No condition but the bounds, and that the closure says what may be. -/
import Derived.Test.YtaehehoeidnidaaWalI
import Derived.Test.YtaehehoeidnidaaMapK
namespace Go.Proofs.Ytaehehoeidnidaa
open Go.ChangeShapes Go.WideShapes Go.ChangeAt Go.RowKit Go.Maps
set_option linter.unusedVariables false

def stepK (F : Int → Option Int) (g c : Int) (m : Bool) : Int → Option Int := if m = true then fun y => if y = g then some ((F g).getD 0 + c) else F y else F
def gK (x : Int) (j : Nat) : Int := if j = 0 then x - 1 else x + 1
def FK (may : Nat → Int → Bool) (s : Nat) (F : Int → Option Int) (x c : Int) : Nat → Int → Option Int
  | 0 => F
  | j + 1 => stepK (FK may s F x c j) (gK x j) c (may (s + 1) (gK x j))
theorem stepK_same (F : Int → Option Int) (g c : Int) (m : Bool) : (stepK F g c m g).getD 0 = (F g).getD 0 + if m = true then c else 0 := by
  unfold stepK; cases m <;> simp
theorem stepK_other {F : Int → Option Int} {g c y : Int} {m : Bool} (h : y ≠ g) : stepK F g c m y = F y := by
  unfold stepK; cases m <;> simp [h]
theorem FK_at (may : Nat → Int → Bool) (s : Nat) (F : Int → Option Int) (x c : Int) (j : Nat) (hj : j < 2) : FK may s F x c j (gK x j) = F (gK x j) := by
  rcases (by omega : j = 0 ∨ j = 1) with rfl | rfl
  · rfl
  · exact stepK_other (by show x + 1 ≠ x - 1; omega)
/-- What the next map says, with L still to come. -/
def InvK (may : Nat → Int → Bool) (fr : Int) (s : Nat) (F : Int → Option Int) (L : Int → Bool) : Prop :=
  ∀ g, -1000 ≤ g → g ≤ 1000 → (F g).getD 0 = if may (s + 1) g = true then (if L (g - 1) = true then 0 else wN may fr s (g - 1)) + (if L (g + 1) = true then 0 else wN may fr s (g + 1)) else 0
def lessK (L : Int → Bool) (x : Int) : Int → Bool := fun y => L y && !decide (y = x)
theorem lessK_same (L : Int → Bool) (x : Int) : lessK L x x = false := by simp [lessK]
theorem lessK_other {L : Int → Bool} {x y : Int} (h : y ≠ x) : lessK L x y = L y := by simp [lessK, h]
theorem InvK.step {may : Nat → Int → Bool} {fr : Int} {s : Nat} {F : Int → Option Int} {L : Int → Bool} {x c : Int} (h : InvK may fr s F L) (hL : L x = true) (hc : c = wN may fr s x) : InvK may fr s (FK may s F x c 2) (lessK L x) := by
  intro g g1 g2
  have hg := h g g1 g2
  show (stepK (stepK F (x - 1) c (may (s + 1) (x - 1))) (x + 1) c (may (s + 1) (x + 1)) g).getD 0 = _
  by_cases e1 : g = x + 1
  · subst e1
    rw [stepK_same, stepK_other (by omega), hg, show x + 1 - 1 = x by omega, lessK_same, hL, lessK_other (show x + 1 + 1 ≠ x by omega), ← hc]
    cases may (s + 1) (x + 1) <;> simp <;> omega
  · rw [stepK_other e1]
    by_cases e2 : g = x - 1
    · subst e2
      rw [stepK_same, hg, show x - 1 + 1 = x by omega, lessK_same, hL, lessK_other (show x - 1 - 1 ≠ x by omega), ← hc]
      cases may (s + 1) (x - 1) <;> simp
    · rw [stepK_other e2, hg, lessK_other (show g - 1 ≠ x by omega), lessK_other (show g + 1 ≠ x by omega)]
theorem InvK.b {may : Nat → Int → Bool} {fr : Int} {s : Nat} {F : Int → Option Int} {L : Int → Bool} (h : InvK may fr s F L) (hs : s ≤ 56) {g : Int} (h1 : -1000 ≤ g) (h2 : g ≤ 1000) : 0 ≤ (F g).getD 0 ∧ (F g).getD 0 ≤ 144115188075855872 := by
  rw [h g h1 h2]
  have a1 := wN_b56 may fr hs (g - 1)
  have a2 := wN_b56 may fr hs (g + 1)
  split
  · split <;> split <;> omega
  · omega
theorem wN_far {may : Nat → Int → Bool} {fr : Int} : ∀ (s : Nat) (h : Int), (s : Int) < h - fr ∨ h - fr < -(s : Int) → wN may fr s h = 0
  | 0, h, hh => by simp only [wN]; rw [if_neg]; rintro ⟨_, e⟩; omega
  | s + 1, h, hh => by
    simp only [wN]; rw [wN_far s _ (by omega), wN_far s _ (by omega)]; split <;> rfl
/-- A map says how many ways there are after s steps. -/
def SayK (may : Nat → Int → Bool) (fr : Int) (s : Nat) (F : Int → Option Int) : Prop :=
  (∀ h, (F h).getD 0 = wN may fr s h) ∧ ∀ k v, F k = some v → -(100 + (s : Int)) ≤ k ∧ k ≤ 100 + (s : Int)
def KeyK (s : Nat) (F : Int → Option Int) : Prop := ∀ k v, F k = some v → -(100 + (s : Int)) ≤ k ∧ k ≤ 100 + (s : Int)
theorem SayK.start {may : Nat → Int → Bool} {fr : Int} {s : Nat} {F : Int → Option Int} (h : SayK may fr s F) : InvK may fr s (fun _ => none) (fun x => (F x).isSome) := by
  intro g _ _
  have h1 := h.1 (g - 1)
  have h2 := h.1 (g + 1)
  have q : ∀ x, (F x).getD 0 = wN may fr s x → (if (F x).isSome = true then 0 else wN may fr s x) = 0 := by
    intro x hx
    cases hF : F x with
    | none => rw [hF] at hx; simp at hx; simp [← hx]
    | some v => simp
  rw [q _ h1, q _ h2]
  simp
theorem SayK.done {may : Nat → Int → Bool} {fr : Int} {s : Nat} {F : Int → Option Int} {L : Int → Bool} (hfr : -100 ≤ fr ∧ fr ≤ 100) (hs : s + 1 ≤ 56) (h : InvK may fr s F L) (hk : KeyK (s + 1) F) (hL : ∀ x, -2000 ≤ x → x ≤ 2000 → L x = false) : SayK may fr (s + 1) F := by
  refine ⟨fun g => ?_, hk⟩
  by_cases hg : -1000 ≤ g ∧ g ≤ 1000
  · rw [h g hg.1 hg.2, hL _ (by omega) (by omega), hL _ (by omega) (by omega)]
    simp [wN]
  · rw [wN_far _ _ (by omega)]
    cases hF : F g with
    | none => rfl
    | some v => have := hk _ _ hF; omega
theorem KeyK.step {may : Nat → Int → Bool} {s : Nat} {F : Int → Option Int} {x c : Int} (h : KeyK (s + 1) F) (h1 : -(100 + (s : Int)) ≤ x ∧ x ≤ 100 + (s : Int)) : ∀ j, KeyK (s + 1) (FK may s F x c j)
  | 0 => h
  | j + 1 => by
    intro k v hk
    have ih := KeyK.step (may := may) (c := c) h h1 j
    by_cases e : k = gK x j
    · rw [e]; unfold gK; split <;> omega
    · simp only [FK] at hk
      rw [stepK_other e] at hk
      exact ih k v hk
/-- How many are left. -/
def cardK (L : Int → Bool) : Nat → Nat
  | 0 => 0
  | m + 1 => cardK L m + if L ((m : Int) - 1000) = true then 1 else 0
theorem cardK_le (L : Int → Bool) : ∀ m, cardK L m ≤ m
  | 0 => Nat.le_refl _
  | m + 1 => by have := cardK_le L m; simp only [cardK]; split <;> omega
theorem cardK_less {L : Int → Bool} {x : Int} (hL : L x = true) (hx : -1000 ≤ x) : ∀ m, cardK (lessK L x) m + (if x < (m : Int) - 1000 then 1 else 0) = cardK L m
  | 0 => by rw [if_neg (by omega)]; rfl
  | m + 1 => by
    have ih := cardK_less hL hx m
    simp only [cardK]
    have hc : ((m + 1 : Nat) : Int) - 1000 = (m : Int) - 1000 + 1 := by omega
    rw [hc]
    by_cases e : x = (m : Int) - 1000
    · rw [if_neg (show ¬ x < (m : Int) - 1000 by omega)] at ih
      rw [← e, lessK_same, hL, if_pos (show x < x + 1 by omega), if_neg (show ¬ false = true by simp), if_pos rfl]; omega
    · rw [lessK_other (fun h => e h.symm)]
      by_cases h : x < (m : Int) - 1000
      · rw [if_pos h] at ih; rw [if_pos (show x < (m : Int) - 1000 + 1 by omega)]; omega
      · rw [if_neg h] at ih; rw [if_neg (show ¬ x < (m : Int) - 1000 + 1 by omega)]; omega
end Go.Proofs.Ytaehehoeidnidaa
