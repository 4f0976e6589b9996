/- Package bayes: low, walked. No condition but that the numbers are not below 0. -/
import Derived.Test.YtkffakekakhgdaaBayM
import Derived.Test.YtkffakekakhgdaaRuiA
import Derived.BigQuiet
namespace Go.Proofs.Ytkffakekakhgdaa
open Go.ChangeShapes Go.WideShapes Go.ChangeAt Go.RowKit
set_option linter.unusedVariables false

abbrev tN : TypeId := 3
theorem bl64 {k : Nat} (h : k < 9223372036854775807) : wrap64 ((k : Int) + 1) = ((k + 1 : Nat) : Int) := by unfold wrap64; omega
theorem Own.drewB {w : World} {base : Nat} {e : TypeId} {v : Value} {xs : List Value} (h : Own w base e v xs) (n : Nat) : Own (w.drewN n) base e v xs := Own.below h (below_drewN (Below.refl w.heap.size w) n) (Nat.le_refl _)
/-- The first k of one list, the others of another one. -/
def mixf (l m : List Int) (k i : Nat) : Int := if i < k then pat m i else pat l i
theorem mix_zero (l m : List Int) : tab (mixf l m 0) l.length = l := by
  rw [tab_congr (f := mixf l m 0) (g := pat l) fun i _ => if_neg (Nat.not_lt_zero _)]; exact tab_pat l
theorem mix_all (l m : List Int) (h : m.length = l.length) : tab (mixf l m l.length) l.length = m := by
  rw [tab_congr (f := mixf l m l.length) (g := pat m) fun i hi => if_pos hi, ← h]; exact tab_pat m
theorem mix_set (l m : List Int) (k : Nat) : (tab (mixf l m k) l.length).set k (pat m k) = tab (mixf l m (k + 1)) l.length := by
  rw [tab_set]
  refine tab_congr fun i _ => ?_
  unfold updf mixf
  by_cases h : i = k
  · subst h; rw [if_pos rfl, if_pos (by omega)]
  · rw [if_neg h]
    by_cases h2 : i < k
    · rw [if_pos h2, if_pos (by omega)]
    · rw [if_neg h2, if_neg (by omega)]
theorem lowL_at {l : List Int} {k : Nat} (h : k < l.length) : pat (lowL l) k = pat l k / ((max (gcdL l) 1 : Nat) : Int) := by
  rw [pat_get (by rw [lowL_len]; exact h), pat_get h]; simp [lowL]
theorem gcdF_take {l : List Int} {k : Nat} (h : k < l.length) : gcdF 0 (l.take (k + 1)) = Nat.gcd (gcdF 0 (l.take k)) (pat l k).natAbs := by
  rw [pat_take h, gcdF_snoc]
theorem gcdF_bound {l : List Int} {B : Nat} (h : ∀ x ∈ l, x.natAbs ≤ B) : gcdF 0 l ≤ B := by
  cases l with
  | nil => exact Nat.zero_le _
  | cons y l =>
    by_cases hz : gcdF 0 (y :: l) = 0
    · omega
    · -- some number is not 0, and it is divided
      have hex : ∃ x ∈ y :: l, x ≠ 0 := by
        refine Classical.byContradiction fun hn => hz ?_
        have h0 : ∀ x ∈ y :: l, x = 0 := fun x hx => Classical.byContradiction fun hne => hn ⟨x, hx, hne⟩
        have : ∀ (m : List Int), (∀ x ∈ m, x = 0) → gcdF 0 m = 0 := fun m => by
          induction m with
          | nil => exact fun _ => rfl
          | cons a m ih => exact fun hm => by rw [gcdF_cons, hm a (List.mem_cons_self ..)]; exact ih fun x hx => hm x (List.mem_cons_of_mem _ hx)
        exact this _ h0
      obtain ⟨x, hx, hne⟩ := hex
      have h1 : gcdF 0 (y :: l) ∣ x.natAbs := Int.ofNat_dvd_left.1 ((gcdF_dvd (y :: l) 0).2 x hx)
      have h2 := Nat.le_of_dvd (by omega) h1
      have h3 := h x hx
      omega
end Go.Proofs.Ytkffakekakhgdaa
