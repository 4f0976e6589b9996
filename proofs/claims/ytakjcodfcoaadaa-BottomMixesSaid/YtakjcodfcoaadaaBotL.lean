/- BottomMixes: the law's function, walked. No condition. -/
import Derived.Test.YtakjcodfcoaadaaBotW
import Derived.Test.YtakjcodfcoaadaaBotX
namespace Go.Proofs.Ytakjcodfcoaadaa
open Go.ChangeShapes Go.WideShapes Go.ChangeAt Go.RowKit
set_option linter.unusedVariables false

set_option maxHeartbeats 2000000 in
theorem botmix_aux (x z u : BitVec 64) (w : World) (h1 : ∀ w, Calls Try.prog 9 #[W64 x] w fun e w' => e = .returned (W64 z) ∧ w = w')
    (h2 : ∀ w, Calls Try.prog 10 #[W64 x] w fun e w' => e = .returned (W64 z) ∧ Below w.heap.size w w')
    (h3 : ∀ w, Calls Try.prog 11 #[W64 x] w fun e w' => e = .returned (W64 u) ∧ w = w')
    (h4 : ∀ w, Calls Try.prog 10 #[W64 u] w fun e w' => e = .returned (W64 x) ∧ Below w.heap.size w w') :
    Calls Try.prog 3 #[W64 x] w fun e w' => e = .returned (.bool true) ∧ Below w.heap.size w w' := by
  have H1 := Lib.hid h1
  have H2 := Lib.hid h2
  have H3 := Lib.hid h3
  have H4 := Lib.hid h4
  clear h1 h2 h3 h4
  go_enter Try.func3, Try.ntmps3
  go_wp2_with fail
  refine (H1.out _).mono ?_
  rintro e w' ⟨rfl, rfl⟩
  go_wp2_with fail
  refine (H2.out _).mono ?_
  rintro e w1 ⟨rfl, hb1⟩
  have B1 := Lib.hid hb1
  clear hb1
  go_wp2_with fail
  refine (H3.out _).mono ?_
  rintro e w' ⟨rfl, rfl⟩
  go_wp2_with fail
  refine (H4.out _).mono ?_
  rintro e w2 ⟨rfl, hb2⟩
  have B2 : Hid (Below w.heap.size w w2) := B1.out.trans (hb2.mono B1.out.size)
  clear hb2 B1
  go_wp2_with fail
  go_ret
  exact ⟨rfl, B2.out⟩
theorem BottomMixes_walk (a0 : Int) (W : World) (w0 : (Lit.int .u64 a0).wf = true) :
    Calls Try.prog 3 #[.int .u64 a0] W fun e w' => e = .returned (.bool true) ∧ Below W.heap.size W w' := by
  have w1 : 0 ≤ a0 ∧ a0 ≤ 18446744073709551615 := by
    simp [Lit.wf] at w0
    exact w0
  obtain ⟨x, rfl⟩ := wv_of a0 w1.1 (by omega)
  have h4 := lmix_any (bunmix x)
  rw [bmix_unmix] at h4
  exact botmix_aux x _ _ W (mix_any x) (lmix_any x) (unmix_any x) h4
end Go.Proofs.Ytakjcodfcoaadaa
