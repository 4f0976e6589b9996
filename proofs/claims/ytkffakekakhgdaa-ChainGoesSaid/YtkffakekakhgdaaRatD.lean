/- Fractions in memory: the other way round; products, walked. No condition but the size. -/
import Derived.Test.YtkffakekakhgdaaRatC
import Derived.Test.YtkffakekakhgdaaBigY
namespace Go.Proofs.Ytkffakekakhgdaa
open Go.ChangeShapes Go.WideShapes Go.ChangeAt Go.RowKit
set_option linter.unusedVariables false

theorem fits_mul {x y : Int} {L : Nat} (hx : Fits x L) (hy : Fits y L) : Fits (x * y) (L + L) := by
  unfold Fits at *
  rw [Int.natAbs_mul, bp_add]
  exact Nat.mul_lt_mul'' hx hy
set_option maxRecDepth 20000 in
set_option maxHeartbeats 4000000 in
theorem ratNeg_any (g gx : Nat) (n d : Int) (L : Nat) (w : World) (hg : RatBlk w g) (hn : IntZ w gx 0 n) (hd : IntZ w gx 2 d) (h0 : d ≠ 0) (fn : Fits n L) (fd : Fits d L) (l1 : 1 ≤ L) (hL : L < 8796093022207) :
    Calls Try.prog 110 #[.pointer (some ⟨g, 0, none⟩), .pointer (some ⟨gx, 0, none⟩)] w fun e w' => e = .returned (.pointer (some ⟨g, 0, none⟩)) ∧ PutR w w' g (frN (-n) d) (frD (-n) d) := by
  have HG := Lib.hid hg
  have HN := Lib.hid hn
  have HD := Lib.hid hd
  have H0 := Lib.hid h0
  have HF := Lib.hid (And.intro fn.neg (And.intro fd (And.intro l1 hL)))
  clear hg hn hd h0 fn fd l1 hL
  go_enter Try.func110, Try.ntmps110
  go_wp2_with fail
  refine (neg_any w.heap.size gx 0 n _ (newBlk _ _ _) (HN.out.alloc _)).mono ?_
  rintro e w1 ⟨rfl, hp⟩
  have P1 := Lib.hid hp.new
  clear hp
  go_wp2_with fail
  refine (denom_any gx d w1 (HD.out.below P1.out.2.2.1) H0.out).mono ?_
  rintro e w2 ⟨rfl, hp⟩
  have P2 := Lib.hid hp
  have HB : Hid (Below w.heap.size w w2) := P1.out.2.2.1.trans (hp.2.2.1.mono P1.out.2.2.1.size)
  clear hp
  go_wp2_with fail
  refine (setFrac_any g w.heap.size 0 w1.heap.size 0 (-n) d L w2 (HG.out.below HB.out) (P1.out.1.below P2.out.2.2.1) P2.out.1 H0.out HF.out.1 HF.out.2.1 HF.out.2.2.1 HF.out.2.2.2).mono ?_
  rintro e w3 ⟨rfl, hp⟩
  have P3 := Lib.hid hp
  clear hp
  go_wp2_with fail
  go_ret
  exact ⟨rfl, P3.out.1, P3.out.2.1, P3.out.2.2.1, (grown_of_below HB.out _).trans P3.out.2.2.2⟩
end Go.Proofs.Ytkffakekakhgdaa
