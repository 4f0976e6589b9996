/- Fractions in memory: made anew; their two numbers, walked. No condition but the size. -/
import Derived.Test.YtkffakekakhgdaaRatB
namespace Go.Proofs.Ytkffakekakhgdaa
open Go.ChangeShapes Go.WideShapes Go.ChangeAt Go.RowKit
set_option linter.unusedVariables false

/-- A new block with the fraction n through d. -/
def NewR (w w' : World) (g : Nat) (n d : Int) : Prop := IntZ w' g 0 n ∧ IntZ w' g 2 d ∧ RatBlk w' g ∧ Below w.heap.size w w' ∧ w.heap.size ≤ g
theorem fits_i64 {n : Int} (h1 : -9223372036854775808 ≤ n) (h2 : n ≤ 9223372036854775807) : Fits n 2 := by
  unfold Fits; have e : bp 2 = 18446744073709551616 := rfl; omega
theorem newRatBlk (w : World) (p q r s : Value) : RatBlk (w.alloc (.cells #[p, q, r, s] tR)) w.heap.size := ⟨_, _, _, _, Blk.new w tR _⟩
set_option maxRecDepth 20000 in
set_option maxHeartbeats 4000000 in
theorem newRat_any (n d : Int) (w : World) (h1 : -9223372036854775808 ≤ n) (h2 : n ≤ 9223372036854775807) (h3 : -9223372036854775808 ≤ d) (h4 : d ≤ 9223372036854775807) (h0 : d ≠ 0) :
    Calls Try.prog 51 #[.int .i64 n, .int .i64 d] w fun e w' => e = .returned (.pointer (some ⟨w.heap.size, 0, none⟩)) ∧ NewR w w' w.heap.size (frN n d) (frD n d) := by
  have HN := Lib.hid (fun u => newInt_any n u h1 h2)
  have HD := Lib.hid (fun u => newInt_any d u h3 h4)
  have FN := Lib.hid (fits_i64 h1 h2)
  have FD := Lib.hid (fits_i64 h3 h4)
  have H0 := Lib.hid h0
  clear h1 h2 h3 h4 h0
  go_enter Try.func51, Try.ntmps51
  go_wp2_with fail
  refine (HN.out _).mono ?_
  rintro e w1 ⟨rfl, hp⟩
  have P1 := Lib.hid hp
  clear hp
  go_wp2_with fail
  refine (HD.out _).mono ?_
  rintro e w2 ⟨rfl, hp⟩
  have P2 := Lib.hid hp
  clear hp
  go_wp2_with fail
  have e1 : (w.alloc (.cells #[.bool false, .slice none 0 0, .bool false, .slice none 0 0] tR)).heap.size = w.heap.size + 1 := by simp
  have HR2 : Hid (RatBlk w2 w.heap.size) := ((newRatBlk w (.bool false) (.slice none 0 0) (.bool false) (.slice none 0 0)).below P1.out.2.2.1).below P2.out.2.2.1
  have HZ1 : Hid (IntZ w2 (w.heap.size + 1) 0 n) := by have h := P1.out.1.below P2.out.2.2.1; rw [e1] at h; exact h
  have HBB : Hid (Below w.heap.size w w2) := (((Below.refl _ w).alloc (Nat.le_refl _) _).trans (P1.out.2.2.1.mono (by simp))).trans (P2.out.2.2.1.mono (Nat.le_trans (by simp) P1.out.2.2.1.size))
  clear e1
  refine (setFrac_any w.heap.size (w.heap.size + 1) 0 w1.heap.size 0 n d 2 w2 HR2.out HZ1.out P2.out.1 H0.out FN.out FD.out (by decide) (by decide)).mono ?_
  rintro e w3 ⟨rfl, hp⟩
  have P3 := Lib.hid hp
  clear hp
  go_wp2_with fail
  go_ret
  exact ⟨rfl, P3.out.1, P3.out.2.1, P3.out.2.2.1, Below.grown HBB.out P3.out.2.2.2 HBB.out.size (fun q hq => by injection hq with hq; omega), Nat.le_refl _⟩
set_option maxRecDepth 20000 in
set_option maxHeartbeats 2000000 in
theorem num_any (g : Nat) (n : Int) (w : World) (hx : IntZ w g 0 n) :
    Calls Try.prog 77 #[.pointer (some ⟨g, 0, none⟩)] w fun e w' => e = .returned (.pointer (some ⟨w.heap.size, 0, none⟩)) ∧ NewZ w w' w.heap.size n := by
  have HX := Lib.hid hx
  clear hx
  go_enter Try.func77, Try.ntmps77
  go_wp2_with fail
  refine (setZ_any w.heap.size g 0 n _ (newBlk _ _ _) (HX.out.alloc _)).mono ?_
  rintro e w1 ⟨rfl, hp⟩
  have P1 := Lib.hid hp.new
  clear hp
  go_wp2_with fail
  go_ret
  exact ⟨rfl, P1.out⟩
set_option maxRecDepth 20000 in
set_option maxHeartbeats 2000000 in
theorem denom_any (g : Nat) (d : Int) (w : World) (hx : IntZ w g 2 d) (h0 : d ≠ 0) :
    Calls Try.prog 78 #[.pointer (some ⟨g, 0, none⟩)] w fun e w' => e = .returned (.pointer (some ⟨w.heap.size, 0, none⟩)) ∧ NewZ w w' w.heap.size d := by
  have HX := Lib.hid hx
  have hs : Hid (sgn d = 1 ∨ sgn d = -1) := by unfold Hid sgn; rw [if_neg h0]; split <;> omega
  clear hx h0
  go_enter Try.func78, Try.ntmps78
  go_wp2_with fail
  refine (sign_any g 2 d w HX.out).mono ?_
  rintro e w' ⟨rfl, rfl⟩
  rcases hs.out with h | h
  all_goals
    rw [h]
    clear h
    go_wp2_with fail
    refine (setZ_any w.heap.size g 2 d _ (newBlk _ _ _) (HX.out.alloc _)).mono ?_
    rintro e w1 ⟨rfl, hp⟩
    have P1 := Lib.hid hp.new
    clear hp
    go_wp2_with fail
    go_ret
    exact ⟨rfl, P1.out⟩
end Go.Proofs.Ytkffakekakhgdaa
