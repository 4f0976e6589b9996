/- Pools: what may be, walked in the program and in the reference. No condition. -/
import Derived.Test.YtmibifmabkaakaaDoorBase
namespace Go.Proofs.YtmibifmabkaakaaDoor
open Go.ChangeShapes Go.WideShapes Go.ChangeAt Go.RowKit

abbrev pcells (r k : Int) (v : Value) : Array Value := #[.int .i64 r, .int .i64 k, v]
abbrev PoolV (r k : Int) (v : Value) : Value := .agg (pcells r k v)
def fright (r k : Int) (n : Nat) : Prop := 1 ≤ r ∧ r ≤ 400 ∧ 0 ≤ k ∧ k ≤ 1099511627776 ∧ (n : Int) = min r k
instance (r k : Int) (n : Nat) : Decidable (fright r k n) := by unfold fright; infer_instance
theorem ret_fr {r k : Int} {n : Nat} {b : Bool} (h : decide (fright r k n) = b) : Ending.returned (.bool b) = .returned (.bool (decide (fright r k n))) := by rw [h]

theorem fright_min {r k : Int} {n : Nat} (v : Int) (h1 : 1 ≤ r) (h2 : r ≤ 400) (h3 : 0 ≤ k) (h4 : k ≤ 1099511627776) (hv : min r k = v) : decide (fright r k n) = ((n : Int) == v) := by
  subst hv
  unfold fright
  by_cases h : (n : Int) = min r k <;> simp [h1, h2, h3, h4, h]

theorem ret_fr2 {r k : Int} {n : Nat} (h : decide (fright r k n) = ((n : Int) == k)) (e : r = k) : Ending.returned (.bool ((n : Int) == r)) = .returned (.bool (decide (fright r k n))) := by rw [h, e]

set_option maxRecDepth 20000 in
set_option maxHeartbeats 1000000 in
theorem right_any (A : Option Addr) (r k : Int) (n c : Nat) (w : World) :
    Calls Tryd.prog 92 #[PoolV r k (.slice A n c)] w fun e w' => e = .returned (.bool (decide (fright r k n))) ∧ Below w.heap.size w w' := by
  have HA : Hid (Below w.heap.size w (w.alloc (.cells (pcells r k (.slice A n c)) 113))) := (Below.refl _ _).alloc (Nat.le_refl _) _
  by_cases h0 : r < k
  · by_cases h1 : 1 ≤ r
    · by_cases h2 : r ≤ 400
      · by_cases h3 : 0 ≤ k
        · by_cases h4 : k ≤ 1099511627776
          · have hf : Hid (decide (fright r k n) = ((n : Int) == r)) := fright_min _ h1 h2 h3 h4 (by omega)
            go_enter Tryd.func92, Tryd.ntmps92
            go_wp2
            go_ret
            exact ⟨ret_fr hf.out, HA.out⟩
          · have hf : Hid (decide (fright r k n) = false) := decide_eq_false fun h => h4 h.2.2.2.1
            go_enter Tryd.func92, Tryd.ntmps92
            go_wp2
            go_ret
            exact ⟨ret_fr hf.out, HA.out⟩
        · exfalso; omega
      · have hf : Hid (decide (fright r k n) = false) := decide_eq_false fun h => h2 h.2.1
        go_enter Tryd.func92, Tryd.ntmps92
        go_wp2
        go_ret
        exact ⟨ret_fr hf.out, HA.out⟩
    · have hf : Hid (decide (fright r k n) = false) := decide_eq_false fun h => h1 h.1
      go_enter Tryd.func92, Tryd.ntmps92
      go_wp2
      go_ret
      exact ⟨ret_fr hf.out, HA.out⟩
  · by_cases h1 : 1 ≤ r
    · by_cases h2 : r ≤ 400
      · by_cases h3 : 0 ≤ k
        · by_cases h4 : k ≤ 1099511627776
          · have hf : Hid (decide (fright r k n) = ((n : Int) == k)) := fright_min _ h1 h2 h3 h4 (by omega)
            go_enter Tryd.func92, Tryd.ntmps92
            go_wp2
            all_goals
              go_ret
              first | exact ⟨ret_fr hf.out, HA.out⟩ | exact ⟨ret_fr2 hf.out (by omega), HA.out⟩
          · exfalso; omega
        · have hf : Hid (decide (fright r k n) = false) := decide_eq_false fun h => h3 h.2.2.1
          go_enter Tryd.func92, Tryd.ntmps92
          go_wp2
          go_ret
          exact ⟨ret_fr hf.out, HA.out⟩
      · have hf : Hid (decide (fright r k n) = false) := decide_eq_false fun h => h2 h.2.1
        go_enter Tryd.func92, Tryd.ntmps92
        go_wp2
        go_ret
        exact ⟨ret_fr hf.out, HA.out⟩
    · have hf : Hid (decide (fright r k n) = false) := decide_eq_false fun h => h1 h.1
      go_enter Tryd.func92, Tryd.ntmps92
      go_wp2
      go_ret
      exact ⟨ret_fr hf.out, HA.out⟩

set_option maxRecDepth 20000 in
set_option maxHeartbeats 1000000 in
theorem rright_any (A : Option Addr) (r k : Int) (n c : Nat) (w : World) :
    Calls Tryd.prog 95 #[PoolV r k (.slice A n c)] w fun e w' => e = .returned (.bool (decide (fright r k n))) ∧ Below w.heap.size w w' := by
  have HA : Hid (Below w.heap.size w (w.alloc (.cells (pcells r k (.slice A n c)) 113))) := (Below.refl _ _).alloc (Nat.le_refl _) _
  by_cases h0 : r < k
  · by_cases h1 : 1 ≤ r
    · by_cases h2 : r ≤ 400
      · by_cases h3 : 0 ≤ k
        · by_cases h4 : k ≤ 1099511627776
          · have hf : Hid (decide (fright r k n) = ((n : Int) == r)) := fright_min _ h1 h2 h3 h4 (by omega)
            go_enter Tryd.func95, Tryd.ntmps95
            go_wp2
            go_ret
            exact ⟨ret_fr hf.out, HA.out⟩
          · have hf : Hid (decide (fright r k n) = false) := decide_eq_false fun h => h4 h.2.2.2.1
            go_enter Tryd.func95, Tryd.ntmps95
            go_wp2
            go_ret
            exact ⟨ret_fr hf.out, HA.out⟩
        · exfalso; omega
      · have hf : Hid (decide (fright r k n) = false) := decide_eq_false fun h => h2 h.2.1
        go_enter Tryd.func95, Tryd.ntmps95
        go_wp2
        go_ret
        exact ⟨ret_fr hf.out, HA.out⟩
    · have hf : Hid (decide (fright r k n) = false) := decide_eq_false fun h => h1 h.1
      go_enter Tryd.func95, Tryd.ntmps95
      go_wp2
      go_ret
      exact ⟨ret_fr hf.out, HA.out⟩
  · by_cases h1 : 1 ≤ r
    · by_cases h2 : r ≤ 400
      · by_cases h3 : 0 ≤ k
        · by_cases h4 : k ≤ 1099511627776
          · have hf : Hid (decide (fright r k n) = ((n : Int) == k)) := fright_min _ h1 h2 h3 h4 (by omega)
            go_enter Tryd.func95, Tryd.ntmps95
            go_wp2
            go_ret
            exact ⟨ret_fr hf.out, HA.out⟩
          · exfalso; omega
        · have hf : Hid (decide (fright r k n) = false) := decide_eq_false fun h => h3 h.2.2.1
          go_enter Tryd.func95, Tryd.ntmps95
          go_wp2
          go_ret
          exact ⟨ret_fr hf.out, HA.out⟩
      · have hf : Hid (decide (fright r k n) = false) := decide_eq_false fun h => h2 h.2.1
        go_enter Tryd.func95, Tryd.ntmps95
        go_wp2
        go_ret
        exact ⟨ret_fr hf.out, HA.out⟩
    · have hf : Hid (decide (fright r k n) = false) := decide_eq_false fun h => h1 h.1
      go_enter Tryd.func95, Tryd.ntmps95
      go_wp2
      go_ret
      exact ⟨ret_fr hf.out, HA.out⟩

end Go.Proofs.YtmibifmabkaakaaDoor
