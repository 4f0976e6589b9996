/- pool.Add walked, where nothing is wrong. No condition. -/
import Derived.Test.YtmnjgoicppknjaaPoolB
namespace Go.Proofs.Ytmnjgoicppknjaa
open Go.ChangeShapes Go.WideShapes Go.ChangeAt Go.RowKit

theorem padde_zero {r k d : Int} {n : Nat} (h : padde r k d n = 0) : fright r k n ∧ k ≠ 1099511627776 ∧ 0 ≤ d ∧ d ≤ k := by
  unfold padde at h
  by_cases h0 : fright r k n
  · rw [if_pos h0] at h
    by_cases h1 : k = 1099511627776
    · rw [if_pos h1] at h; simp at h
    · rw [if_neg h1] at h
      by_cases h2 : d < 0 ∨ k < d
      · rw [if_pos h2] at h; simp at h
      · exact ⟨h0, h1, by omega, by omega⟩
  · rw [if_neg h0] at h; simp at h

theorem own_is {w : World} {base : Nat} {A : Option Addr} {n c : Nat} {l : List Int} {r k : Int} (h : Own w base 3 (.slice A n c) (l.map (.int .i64))) (hn : n = l.length) : PoolIs w (PoolV r k (.slice A n c)) (r, k, l) := by
  subst hn
  exact ⟨_, _, rfl, h.tseg⟩

end Go.Proofs.Ytmnjgoicppknjaa
