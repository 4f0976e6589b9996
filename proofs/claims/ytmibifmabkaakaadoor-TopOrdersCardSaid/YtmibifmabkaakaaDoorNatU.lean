/- Numbers of words: Add, walked. No condition but that the words are words. -/
import Derived.Test.YtmibifmabkaakaaDoorNatR
import Derived.Test.YtmibifmabkaakaaDoorNatB
namespace Go.Proofs.YtmibifmabkaakaaDoor
open Go.ChangeShapes Go.WideShapes Go.ChangeAt Go.RowKit
set_option linter.unusedVariables false

abbrev tQ : TypeId := 34
theorem w64n {n : Nat} (h : n ≤ 9223372036854775807) : wrap64 (n : Int) = (n : Int) := by unfold wrap64; omega
theorem w64s {n : Nat} (h : n < 9223372036854775807) : wrap64 ((n : Int) + 1) = ((n + 1 : Nat) : Int) := by unfold wrap64; omega
theorem wok_nil : wok [] := fun i hi => by cases hi
theorem add_step {a b : List Nat} {o : List Nat} {cr k : Nat} (ka : wok a) (kb : wok b) (ho : o.length = k) (hk : wok o) (hc : cr ≤ 1) (he : nv o + cr * wB ^ k = gv (wo a) k + gv (wo b) k) :
    wok (o ++ [(wo a k + wo b k + cr) % wB]) ∧ (wo a k + wo b k + cr) / wB ≤ 1 ∧ nv (o ++ [(wo a k + wo b k + cr) % wB]) + (wo a k + wo b k + cr) / wB * wB ^ (k + 1) = gv (wo a) (k + 1) + gv (wo b) (k + 1) := by
  have h1 := ka.all k
  have h2 := kb.all k
  refine ⟨wok_snoc hk (Nat.mod_lt _ (by decide)), ?_, ?_⟩
  · show (wo a k + wo b k + cr) / 18446744073709551616 ≤ 1
    have h1' : wo a k < 18446744073709551616 := h1
    have h2' : wo b k < 18446744073709551616 := h2
    omega
  rw [nv_snoc, ho, gv, gv, wp_succ]
  have h3 := Nat.mod_add_div (wo a k + wo b k + cr) wB
  generalize (wo a k + wo b k + cr) % wB = s at *
  generalize (wo a k + wo b k + cr) / wB = q at *
  have h4 : (s + wB * q) * wB ^ k = (wo a k + wo b k + cr) * wB ^ k := by rw [h3]
  rw [Nat.add_mul, Nat.add_mul, Nat.add_mul, Nat.mul_comm wB q, Nat.mul_assoc, Nat.mul_comm wB (wB ^ k)] at h4
  omega
theorem add_last {a b : List Nat} {o : List Nat} {cr N : Nat} (ka : wok a) (kb : wok b) (hk : wok o) (la : a.length ≤ N) (lb : b.length ≤ N) (he : nv o + cr * wB ^ (N + 1) = gv (wo a) (N + 1) + gv (wo b) (N + 1)) : nv o = nv a + nv b := by
  rw [nv_gv (by omega), nv_gv (by omega)] at he
  have h1 : nv a < wB ^ N := Nat.lt_of_lt_of_le (nv_lt ka) (Nat.pow_le_pow_right (by decide) la)
  have h2 : nv b < wB ^ N := Nat.lt_of_lt_of_le (nv_lt kb) (Nat.pow_le_pow_right (by decide) lb)
  have h3 : wB ^ (N + 1) = wB ^ N * 18446744073709551616 := wp_succ N
  generalize wB ^ N = P at *
  rw [h3] at he
  have h4 : cr = 0 := by
    rcases Nat.eq_zero_or_pos cr with h | h
    · exact h
    · have : 1 * (P * 18446744073709551616) ≤ cr * (P * 18446744073709551616) := Nat.mul_le_mul_right _ h
      omega
  subst h4
  omega
/-- What is handed back: words that are cut to the last one that is not 0. -/
theorem trim_own {A : Option Addr} {o : List Nat} {c : Nat} {u : World} {B : Nat} (ho : Own u B tQ (.slice A o.length c) (u64s o)) (hk : wok o) (m : Nat) :
    Seg (u.drewN m) (u.drewN m).heap.size A (u64s (wd (nv o))) ∧ (wd (nv o)).length = wlen o o.length := by
  have h1 := ho.seg.pre (wlen o o.length)
  rw [← List.map_take, take_wlen hk] at h1
  refine ⟨h1, ?_⟩
  rw [← take_wlen hk]
  have := wlen_le o o.length
  simp; omega
end Go.Proofs.YtmibifmabkaakaaDoor
