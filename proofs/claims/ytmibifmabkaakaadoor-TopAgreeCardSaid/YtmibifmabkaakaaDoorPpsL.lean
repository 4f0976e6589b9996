/- Plain facts on steps through parts, and Share walked. No condition. -/
import Derived.Test.YtmibifmabkaakaaDoorPpsY
namespace Go.Proofs.YtmibifmabkaakaaDoor
open Go.ChangeShapes Go.WideShapes Go.ChangeAt Go.RowKit

/-- Whose part a place lies in. -/
def loc : List Int → Int → Int → Nat
  | [], _, _ => 0
  | z :: zs, m, p => if p < z * m then 0 else loc zs m (p - z * m) + 1

def pend (zs : List Int) (m : Int) (k : Nat) : Int := (zs.take k).sum * m
theorem pend_zero (zs : List Int) (m : Int) : pend zs m 0 = 0 := by simp [pend]
theorem pend_succ (zs : List Int) (m : Int) (k : Nat) (h : k < zs.length) : pend zs m (k + 1) = pend zs m k + zs[k] * m := by
  unfold pend; rw [take_sum zs k h, Int.add_mul]
theorem wok_mul (zs : List Int) (hw : wok zs) (m : Int) (h1 : 1 ≤ m) (h2 : m ≤ 400) (k : Nat) (h : k < zs.length) : 0 ≤ zs[k] * m ∧ zs[k] * m ≤ 419430400 := by
  have := hw zs[k] (List.getElem_mem h)
  constructor
  · exact Int.mul_nonneg this.1 (by omega)
  · calc zs[k] * m ≤ 1048576 * m := Int.mul_le_mul_of_nonneg_right this.2 (by omega)
      _ ≤ 419430400 := by omega
theorem pend_bounds (zs : List Int) (hw : wok zs) (m : Int) (h1 : 1 ≤ m) (h2 : m ≤ 400) (k : Nat) (h : k ≤ zs.length) (hl : zs.length ≤ 400) : 0 ≤ pend zs m k ∧ pend zs m k ≤ 419430400 * k := by
  induction k with
  | zero => simp [pend_zero]
  | succ k ih =>
    have := ih (by omega)
    have h3 := wok_mul zs hw m h1 h2 k (by omega)
    rw [pend_succ zs m k (by omega)]
    omega
theorem pend_mono (zs : List Int) (hw : wok zs) (m : Int) (h1 : 1 ≤ m) (h2 : m ≤ 400) (k : Nat) (h : k ≤ zs.length) : pend zs m k ≤ zs.sum * m := by
  have key : ∀ j, pend zs m (zs.length - j) ≤ zs.sum * m := by
    intro j
    induction j with
    | zero => simp [pend]
    | succ j ih =>
      by_cases hj : j < zs.length
      · have h3 := wok_mul zs hw m h1 h2 (zs.length - (j + 1)) (by omega)
        have h4 := pend_succ zs m (zs.length - (j + 1)) (by omega)
        have e : zs.length - (j + 1) + 1 = zs.length - j := by omega
        rw [e] at h4
        omega
      · have e : zs.length - (j + 1) = zs.length - j := by omega
        rw [e]; exact ih
  have := key (zs.length - k)
  have e : zs.length - (zs.length - k) = k := by omega
  rwa [e] at this
theorem loc_at (zs : List Int) (m : Int) (hm : 0 ≤ m) : ∀ (k : Nat) (p : Int), wok zs → k < zs.length → pend zs m k ≤ p → p < pend zs m (k + 1) → loc zs m p = k := by
  induction zs with
  | nil => intro k p _ h; simp at h
  | cons z zs ih =>
    intro k p hw hk h1 h2
    have hz := hw z (by simp)
    have hw' : wok zs := fun x hx => hw x (by simp [hx])
    have hsum : ∀ j, pend (z :: zs) m (j + 1) = z * m + pend zs m j := by
      intro j; simp [pend, Int.add_mul]
    unfold loc
    cases k with
    | zero =>
      rw [hsum, pend_zero] at h2
      rw [if_pos (by omega)]
    | succ k =>
      rw [hsum] at h1 h2
      have hn : 0 ≤ pend zs m k := by
        unfold pend
        refine Int.mul_nonneg (wok_sum _ (fun x hx => hw' x (List.mem_of_mem_take hx))).1 hm
      rw [if_neg (by omega), ih k (p - z * m) hw' (by simpa using hk) (by omega) (by omega)]

/-- The step's places. -/
def pnext (zs : List Int) (start : Int) (j : Nat) : Int := start + j * zs.sum
theorem pnext_zero (zs : List Int) (start : Int) : pnext zs start 0 = start := by simp [pnext]
theorem pnext_succ (zs : List Int) (start : Int) (j : Nat) : pnext zs start (j + 1) = pnext zs start j + zs.sum := by
  unfold pnext; rw [Int.natCast_succ, Int.add_mul]; omega
def ppts (zs : List Int) (m start : Int) (j : Nat) : List Int := (List.range j).map fun i => (loc zs m (pnext zs start i) : Int)
theorem ppts_succ (zs : List Int) (m start : Int) (j : Nat) : ppts zs m start (j + 1) = ppts zs m start j ++ [(loc zs m (pnext zs start j) : Int)] := by
  unfold ppts; rw [List.range_succ, List.map_append]; rfl
theorem ppts_len (zs : List Int) (m start : Int) (j : Nat) : (ppts zs m start j).length = j := by simp [ppts]
theorem pnext_lt (zs : List Int) (start : Int) (m j : Nat) (hs : 0 ≤ start) (h0 : 0 < zs.sum) (h : pnext zs start j < zs.sum * m) : j < m := by
  unfold pnext at h
  by_cases hj : j < m
  · exact hj
  · exfalso
    have : (m : Int) * zs.sum ≤ j * zs.sum := Int.mul_le_mul_of_nonneg_right (by omega) (by omega)
    rw [Int.mul_comm zs.sum] at h
    omega
theorem pnext_ge (zs : List Int) (start : Int) (m j : Nat) (hs0 : 0 ≤ start) (hs : start < zs.sum) (hj : j < m) : pnext zs start j < zs.sum * m := by
  unfold pnext
  have h0 : (j : Int) * zs.sum + zs.sum = (j + 1) * zs.sum := by rw [Int.add_mul]; omega
  by_cases hp : 0 ≤ zs.sum
  · have : ((j : Int) + 1) * zs.sum ≤ m * zs.sum := Int.mul_le_mul_of_nonneg_right (by omega) hp
    rw [Int.mul_comm zs.sum]
    omega
  · exfalso; omega

def pshare (zs : List Int) (many k : Int) : Int × Int :=
  if (psum zs many).2 = 0 then (if 0 ≤ k ∧ k < zs.length then (zs.getD k.toNat 0 * many, 0) else (0, 3)) else (0, (psum zs many).2)
end Go.Proofs.YtmibifmabkaakaaDoor
