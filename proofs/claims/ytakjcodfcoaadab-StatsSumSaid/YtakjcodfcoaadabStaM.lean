/- The law StatsSum as the lifting wants it. No condition. -/
import Derived.Test.YtakjcodfcoaadabStaL
import Derived.Lib.SmallJoins
namespace Go.Proofs.Ytakjcodfcoaadab
open Go.ChangeShapes Go.WideShapes Go.ChangeAt Go.RowKit

theorem wf_i64 {n : Int} (h : (Lit.int .i64 n).wf = true) : -9223372036854775808 ≤ n ∧ n ≤ 9223372036854775807 := by
  simp [Lit.wf, IntKind.min, IntKind.max, IntKind.bits, IntKind.signed] at h
  omega
theorem open_mom {H : Type} {enc : TypeId × Value → H} {W : World} {v : Value} {d : DataW H} {ps : List MemPlace} {r : Reach} {b0 : Nat}
    (h : DataW.Trod enc Try.prog W 0 (fun _ => true) true 24 v d ps) (hv : Value.okWide Try.prog W r b0 24 v) :
    ∃ p : Int × Int × Int, v = MomV p.1 p.2.1 p.2.2 ∧ ((-9223372036854775808 ≤ p.2.1 ∧ p.2.1 ≤ 9223372036854775807) ∧ (-9223372036854775808 ≤ p.2.2 ∧ p.2.2 ≤ 9223372036854775807)) := by
  obtain ⟨v0, v1, v2, y0, y1, y2, n, rfl, rfl, rfl, h0, h1, h2⟩ := Joins.open_agg3 Try.underlying24 (by kernel_rfl) (by kernel_rfl) hv h
  obtain ⟨a, e0, x0, z0⟩ := DataW.trod_int Try.underlying3 h0
  obtain ⟨b, e1, x1, z1⟩ := DataW.trod_int Try.underlying3 h1
  obtain ⟨c, e2, x2, z2⟩ := DataW.trod_int Try.underlying3 h2
  simp at e0 e1 e2
  subst e0 e1 e2
  exact ⟨(a, b, c), rfl, wf_i64 z1, wf_i64 z2⟩
theorem StatsSum_walk (A : Option Addr) (zs : List Int) (c : Nat) (p q : Int × Int × Int) (w : World) (hc : zs.length ≤ c) (hm : c ≤ maxLen) (_hw : ∀ n ∈ zs, (Lit.int .i64 n).wf = true) (hs : Seg w w.heap.size A (zs.map (.int .i64)))
    (s1 : (-9223372036854775808 ≤ p.2.1 ∧ p.2.1 ≤ 9223372036854775807) ∧ (-9223372036854775808 ≤ p.2.2 ∧ p.2.2 ≤ 9223372036854775807)) (s2 : (-9223372036854775808 ≤ q.2.1 ∧ q.2.1 ≤ 9223372036854775807) ∧ (-9223372036854775808 ≤ q.2.2 ∧ q.2.2 ≤ 9223372036854775807)) :
    Calls Try.prog 3 #[.slice A zs.length c, MomV p.1 p.2.1 p.2.2, MomV q.1 q.2.1 q.2.2] w fun e w' => e = .returned (.bool true) ∧ Below w.heap.size w w' :=
  StatsSum_core A zs c p.1 p.2.1 p.2.2 q.1 q.2.1 q.2.2 w hs (by unfold maxLen at hm; omega) s1.1 s1.2 s2.1 s2.2
end Go.Proofs.Ytakjcodfcoaadab
