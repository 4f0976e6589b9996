/- PermDeals: the law as the lifting wants it. No condition. -/
import Derived.Test.YtmcbkjepjijfjaaPerX
namespace Go.Proofs.Ytmcbkjepjijfjaa
open Go.ChangeShapes Go.WideShapes Go.ChangeAt Go.RowKit
set_option linter.unusedVariables false

theorem dealL_len (d : List Int) : (dealL d).length ≤ 20 := by
  unfold dealL
  split
  · next h => rw [tab_len]; exact h.1
  · exact Nat.zero_le _
theorem PermDeals_walk (A0 : Option Addr) (z0 : List Int) (c0 : Nat) (A1 : Option Addr) (z1 : List Int) (c1 : Nat) (A2 : Option Addr) (z2 : List Int) (c2 : Nat) (w : World)
    (hc0 : z0.length ≤ c0) (hm0 : c0 ≤ maxLen) (_hw0 : ∀ n, n ∈ z0 → (Lit.int .i64 n).wf = true) (s0 : Seg w w.heap.size A0 (z0.map (.int .i64)))
    (hc1 : z1.length ≤ c1) (hm1 : c1 ≤ maxLen) (_hw1 : ∀ n, n ∈ z1 → (Lit.int .i64 n).wf = true) (s1 : Seg w w.heap.size A1 (z1.map (.int .i64)))
    (hc2 : z2.length ≤ c2) (hm2 : c2 ≤ maxLen) (_hw2 : ∀ n, n ∈ z2 → (Lit.int .i64 n).wf = true) (s2 : Seg w w.heap.size A2 (z2.map (.int .i64))) :
    Calls Try.prog 4 #[.slice A0 z0.length c0, .slice A1 z1.length c1, .slice A2 z2.length c2] w fun e w' => e = .returned (.bool true) ∧ Below w.heap.size w w' := by
  unfold maxLen at hm0 hm1 hm2
  have m0 : z0.length ≤ 9223372036854775807 := by omega
  have m1 : z1.length ≤ 9223372036854775807 := by omega
  have m2 : z2.length ≤ 9223372036854775807 := by omega
  have hld : (dealL z0).length ≤ 9223372036854775807 := by have := dealL_len z0; omega
  have H1 := fun u h => deal_any z0 A0 c0 u h m0
  have H2 := fun u h => ddeal_any z0 A0 c0 u h m0
  have H3 := fun u h => code_any z1 A1 c1 u h m1 hc1
  have H4 := fun u h h2 => then_any z1 z2 A1 A2 c1 c2 u h h2 m1 m2
  have H5 := fun u h => back_any z1 A1 c1 u h m1
  have H6 := fun u h => pright_any z1 A1 c1 u h m1
  have H7 := fun u h => dright_any z1 A1 c1 u h m1
  have H8 := fun u h => dright_any z2 A2 c2 u h m2
  cases hg : permB z1 with
  | false =>
    have e1 : codeL z1 = [] := by unfold codeL; rw [hg]; rfl
    have e2 : codeE z1 = 1 := by unfold codeE; rw [hg]; rfl
    have e3 : backL z1 = [] := by unfold backL; rw [hg]; rfl
    have e4 : thenL z1 z2 = [] := by unfold thenL thenG; rw [hg]; rfl
    have e5 : thenE z1 z2 = 1 := by unfold thenE thenG; rw [hg]; rfl
    rw [e1, e2] at H3
    rw [e4, e5] at H4
    rw [e3, e2] at H5
    rw [hg] at H6 H7
    exact deals_no z0 z1 z2 _ [] [] [] _ A0 A1 A2 c0 c1 c2 w s0 s1 s2 hld H1 H2 H3 H4 H5 H6 H7
  | true =>
    have e1 : codeL z1 = tab (codef z1) z1.length := by unfold codeL; rw [hg]; rfl
    have e2 : codeE z1 = 0 := by unfold codeE; rw [hg]; rfl
    have e3 : backL z1 = tab (bkf z1 z1.length) z1.length := by unfold backL; rw [hg]; rfl
    have hl := permB_len hg
    rw [e2] at H3 H5
    rw [hg] at H6 H7
    have hf : ∀ k, k < z1.length → 0 ≤ pat z1 k ∧ pat z1 k < z1.length ∧ pat (codeL z1) k = (lessn (z1.drop k) (pat z1 k) (z1.drop k).length : Nat) ∧ pat (backL z1) (pat z1 k).toNat = k := by
      intro k hk
      have hr := permB_range hg hk
      refine ⟨hr.1, hr.2, ?_, ?_⟩
      · rw [e1, pat_tab hk]
        unfold codef
        rw [List.length_drop, show z1.length - k = z1.length - (k + 1) + 1 by omega, lessn_self]
      · rw [e3, pat_tab (by omega)]
        exact bkf_at hg _ (Nat.le_refl _) k hk
    have hc : (codeL z1).length = z1.length := by rw [e1, tab_len]
    have hb : (backL z1).length = z1.length := by rw [e3, tab_len]
    by_cases hq : permB z2 = true ∧ z1.length = z2.length
    · have ht : thenG z1 z2 = true := by unfold thenG; rw [hg, hq.1, decide_eq_true hq.2]; rfl
      have e4 : thenL z1 z2 = tab (fun k => pat z2 (pat z1 k).toNat) z1.length := by unfold thenL; rw [if_pos ht]
      have e5 : thenE z1 z2 = 0 := by unfold thenE; rw [if_pos ht]
      rw [e5] at H4
      exact deals_all z0 z1 z2 _ _ _ _ _ A0 A1 A2 c0 c1 c2 w s0 s1 s2 hld H1 H2 H3 H4 H5 H6 H7 _ hc1 hl hc hb hf H8 hq.1 hq.2 e4
    · have ht : ¬ thenG z1 z2 = true := by unfold thenG; rw [hg]; simpa using hq
      have e4 : thenL z1 z2 = [] := by unfold thenL; rw [if_neg ht]
      have e5 : thenE z1 z2 = 1 := by unfold thenE; rw [if_neg ht]
      rw [e4, e5] at H4
      refine deals_q z0 z1 z2 _ _ [] _ _ A0 A1 A2 c0 c1 c2 w s0 s1 s2 hld H1 H2 H3 H4 H5 H6 H7 _ hc1 hl hc hb hf H8 ?_
      cases h : permB z2 with
      | false => exact .inl rfl
      | true => exact .inr ⟨rfl, fun e => hq ⟨h, e⟩⟩
end Go.Proofs.Ytmcbkjepjijfjaa
