/- CoinTells: the law as the lifting wants it. No condition. -/
import Derived.Test.YtmcbkjepjijfjaaCoiL
namespace Go.Proofs.Ytmcbkjepjijfjaa
open Go.ChangeShapes Go.WideShapes Go.ChangeAt Go.RowKit
set_option linter.unusedVariables false

set_option maxRecDepth 100000 in
theorem open_frac {H : Type} {enc : TypeId × Value → H} {W : World} {v : Value} {d : DataW H} {ps : List MemPlace} {r : Reach} {b0 : Nat}
    (h : DataW.Trod enc Try.prog W 0 (fun _ => true) true 62 v d ps) (hv : Value.okWide Try.prog W r b0 62 v) :
    ∃ p : Int × Int, v = FracV p.1 p.2 ∧ True := by
  obtain ⟨v0, v1, y0, y1, n, rfl, rfl, rfl, h0, h1⟩ := Joins.open_agg2 Try.underlying62 (by kernel_rfl) (by kernel_rfl) hv h
  obtain ⟨a, e0, x0, z0⟩ := DataW.trod_int Try.underlying3 h0
  obtain ⟨b, e1, x1, z1⟩ := DataW.trod_int Try.underlying3 h1
  simp at e0 e1
  subst e0 e1
  exact ⟨(a, b), rfl, trivial⟩
theorem coiwf_bd {n : Int} (h : (Lit.int .i64 n).wf = true) : -9223372036854775808 ≤ n ∧ n ≤ 9223372036854775807 := by
  simp [Lit.wf, IntKind.min, IntKind.max, IntKind.bits, IntKind.signed] at h; omega
theorem CoinTells_walk (A0 : Option Addr) (z0 : List Bool) (c0 : Nat) (x1 : Int × Int) (A2 : Option Addr) (z2 : List Int) (c2 : Nat) (w : World) (hc0 : z0.length ≤ c0) (hm0 : c0 ≤ maxLen) (s0 : Seg w w.heap.size A0 (z0.map .bool)) (R0 : c0 * 1 ≤ 140737488351232) (_s1 : True)
    (hc2 : z2.length ≤ c2) (hm2 : c2 ≤ maxLen) (hw2 : ∀ n, n ∈ z2 → (Lit.int .i64 n).wf = true) (s2 : Seg w w.heap.size A2 (z2.map (.int .i64))) :
    Calls Try.prog 9 #[.slice A0 z0.length c0, FracV x1.1 x1.2, .slice A2 z2.length c2] w fun e w' => e = .returned (.bool true) ∧ Below w.heap.size w w' := by
  unfold maxLen at hm2
  have ht : z0.length < 140737488355328 := by omega
  have hl : z2.length ≤ 9223372036854775807 := by omega
  have hx : ∀ x, x ∈ z2 → x ≤ 9223372036854775807 := fun x hx => (coiwf_bd (hw2 x hx)).2
  exact coin_law z0 z2 x1.1 x1.2 A0 A2 c0 c2 w s0 s2 _ _ _ _ (fun u h => toss_any2 z0 _ _ A0 c0 u h ht) (fun u h => ctoss_any z0 _ _ A0 c0 u h ht) (fun u h => turn_coin z0 _ _ A0 c0 u h ht hc0) (fun u h => cturn_any z0 _ _ A0 c0 u h ht hc0) (fun u h h2 => cof_coin z0 z2 A0 A2 c0 c2 u h h2 ht hc0 hl hx) (fun u h h2 => rof_coin z0 z2 A0 A2 c0 c2 u h h2 ht hc0 hl hx) (fun u => coright_any _ _ u) (fun u => cright2_any _ _ u)
end Go.Proofs.Ytmcbkjepjijfjaa
