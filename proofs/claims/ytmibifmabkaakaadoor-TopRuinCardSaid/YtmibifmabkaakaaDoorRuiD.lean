/- Package ruin: lowest terms, what is wrong with a game, Well; walked. -/
import Derived.Test.YtmibifmabkaakaaDoorRuiC
import Derived.Test.YtmibifmabkaakaaDoorCoiM
namespace Go.Proofs.YtmibifmabkaakaaDoor
open Go.ChangeShapes Go.WideShapes Go.ChangeAt Go.RowKit
set_option linter.unusedVariables false

theorem rquo {c d : Nat} (h : 0 < d) : Int.tdiv (c : Int) (d : Int) = ((c / d : Nat) : Int) := by
  rw [Int.tdiv_eq_ediv_of_nonneg (by omega)]; rfl
abbrev fcs (a b : Int) : Array Value := #[.int .i64 a, .int .i64 b]
abbrev tF : TypeId := 44
theorem fcs_one (a b : Int) : (fcs a b).all (·.oneCell') = true := by simp [fcs, Value.oneCell']
set_option maxRecDepth 20000 in
set_option maxHeartbeats 2000000 in
theorem low_any (p q : Nat) (w : World) (hp : p ≤ 9223372036854775807) (hq : q ≤ 9223372036854775807) (h0 : 0 < q) :
    Calls Tryd.prog 63 #[.int .i64 p, .int .i64 q] w fun e w' => e = .returned (FracV (p / Nat.gcd p q : Nat) (q / Nat.gcd p q : Nat)) ∧ Below w.heap.size w w' := by
  have HC := Lib.hid (fun u => rgcd_any p q u hp hq)
  have hB0 := Blk.new w tF (fcs 0 0)
  have c0 := hB0.cell 0 (u := .int .i64 0) rfl
  have c1 := hB0.cell 1 (u := .int .i64 0) rfl
  have f0 := hB0.frozen 0
  have f1 := hB0.frozen 1
  have HB0 := Lib.hid hB0
  have hgp : 0 < Nat.gcd p q := Nat.gcd_pos_of_pos_right _ h0
  obtain ⟨g, hg⟩ : ∃ g, g = Nat.gcd p q := ⟨_, rfl⟩
  rw [← hg] at hgp
  have HG := Lib.hid hg
  have q1 := rquo (c := p) hgp
  have q2 := rquo (c := q) hgp
  have l1 : p / g ≤ p := Nat.div_le_self _ _
  have l2 : q / g ≤ q := Nat.div_le_self _ _
  have hz : ¬ (g : Int) = 0 := by omega
  rw [← hg]
  generalize p / g = P at *
  generalize q / g = Q at *
  have u1 : IntKind.i64.wrap (P : Int) = (P : Int) := IntWalk.i64_in _ (by omega)
  have u2 : IntKind.i64.wrap (Q : Int) = (Q : Int) := IntWalk.i64_in _ (by omega)
  clear hp hq h0 hgp hg l1 l2 hB0
  go_enter Tryd.func63, Tryd.ntmps63
  go_wp2_with fail
  refine (HC.out _).mono ?_
  rintro e w1 ⟨rfl, n, rfl⟩
  rw [← HG.out]
  --LOOK1
  have d0 := c0
  go_wp2_with fail
  go_region
  --LOOK2
  go_wp2_with fail
  refine bodyPost_ret (v := FracV P Q) (results_c Tryd.results63 _ rfl ((HB0.out.set_ 0 _).set_ 1 _) Tryd.underlying44 rfl (by kernel_rfl)) rfl ⟨rfl, ?_⟩
  exact (((below_drewN ((Below.refl _ _).alloc (Nat.le_refl _) _) _).setCell (Nat.le_refl _) _).setCell (Nat.le_refl _) _)
def wbad (win lose top : Int) : Prop := win < 1 ∨ lose < 1 ∨ 9 < win ∨ 9 < lose ∨ top < 1 ∨ 16 < top
instance (win lose top : Int) : Decidable (wbad win lose top) := by unfold wbad; infer_instance
set_option maxRecDepth 20000 in
set_option maxHeartbeats 2000000 in
theorem wrong_bad (win lose top : Int) (w : World) (h : wbad win lose top) :
    Calls Tryd.prog 61 #[.int .i64 win, .int .i64 lose, .int .i64 top] w fun e w' => e = .returned (.int .i64 2) ∧ w' = w := by
  unfold wbad at h
  rcases (by omega : win < 1 ∨ (¬ win < 1 ∧ lose < 1) ∨ (¬ win < 1 ∧ ¬ lose < 1 ∧ 9 < win) ∨ (¬ win < 1 ∧ ¬ lose < 1 ∧ ¬ 9 < win ∧ 9 < lose) ∨ (¬ win < 1 ∧ ¬ lose < 1 ∧ ¬ 9 < win ∧ ¬ 9 < lose ∧ top < 1) ∨ (¬ win < 1 ∧ ¬ lose < 1 ∧ ¬ 9 < win ∧ ¬ 9 < lose ∧ ¬ top < 1 ∧ 16 < top)) with h1 | ⟨h0, h1⟩ | ⟨h0, h1, h2⟩ | ⟨h0, h1, h2, h3⟩ | ⟨h0, h1, h2, h3, h4⟩ | ⟨h0, h1, h2, h3, h4, h5⟩
  all_goals
    clear h
    go_enter Tryd.func61, Tryd.ntmps61
    go_wp2_with fail
    go_ret
    exact ⟨rfl, rfl⟩
set_option maxRecDepth 20000 in
set_option maxHeartbeats 2000000 in
theorem wrong_ok (win lose top : Int) (w : World) (h : ¬ wbad win lose top) :
    Calls Tryd.prog 61 #[.int .i64 win, .int .i64 lose, .int .i64 top] w fun e w' => e = .returned (.int .i64 0) ∧ w' = w := by
  unfold wbad at h
  obtain ⟨h0, h1, h2, h3, h4, h5⟩ : ¬ win < 1 ∧ ¬ lose < 1 ∧ ¬ 9 < win ∧ ¬ 9 < lose ∧ ¬ top < 1 ∧ ¬ 16 < top := by omega
  clear h
  go_enter Tryd.func61, Tryd.ntmps61
  go_wp2_with fail
  go_ret
  exact ⟨rfl, rfl⟩
end Go.Proofs.YtmibifmabkaakaaDoor
