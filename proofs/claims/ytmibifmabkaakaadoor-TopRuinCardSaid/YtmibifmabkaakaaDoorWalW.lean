/- The law WalkCounts: what is wrong, walked on both sides. No condition. -/
import Derived.Test.YtmibifmabkaakaaDoorDicW
import Derived.Test.YtmibifmabkaakaaDoorWalP
namespace Go.Proofs.YtmibifmabkaakaaDoor
open Go.ChangeShapes Go.WideShapes Go.ChangeAt Go.RowKit
set_option linter.unusedVariables false

def nB (n : Int) : Bool := decide (n < 0) || decide (56 < n)
def wrK (b : Bool) (l : List Int) : Nat → Bool
  | 0 => b
  | k + 1 => wrK b l k || (decide (dk l k < -100) || decide (100 < dk l k))
theorem wrK_mono {b : Bool} {l : List Int} {j m : Nat} (h : wrK b l j = true) (hm : j ≤ m) : wrK b l m = true := by
  induction m with
  | zero => obtain rfl : j = 0 := by omega
            exact h
  | succ m ih =>
    by_cases e : j = m + 1
    · subst e; exact h
    · simp only [wrK]; rw [ih (by omega)]; rfl
def wrB (n : Int) (l : List Int) : Bool := wrK (nB n) l l.length
set_option maxRecDepth 20000 in
set_option maxHeartbeats 4000000 in
theorem wwrong_any (n : Int) (A : Option Addr) (l : List Int) (c : Nat) (w : World) (hs : Seg w w.heap.size A (l.map (.int .i64))) (hm : l.length ≤ 9223372036854775807) :
    Calls Tryd.prog 59 #[.int .i64 n, .slice A l.length c] w fun e w' => e = .returned (.bool (wrB n l)) ∧ w = w' := by
  have HS := Lib.hid hs
  have HM := Lib.hid hm
  clear hs hm
  rcases (by omega : n < 0 ∨ (¬ n < 0 ∧ 56 < n) ∨ (¬ n < 0 ∧ ¬ 56 < n)) with h | ⟨h, h2⟩ | ⟨h, h2⟩
  · have HB : Hid (wrB n l = true) := wrK_mono (j := 0) (by unfold wrK nB; rw [decide_eq_true h]; rfl) (Nat.zero_le _)
    have b1 : decide (n < 0) = true := decide_eq_true h
    clear h
    go_enter Tryd.func59, Tryd.ntmps59
    go_wp2_with fail
    go_ret
    exact ⟨by rw [HB.out]; rfl, rfl⟩
  · have HB : Hid (wrB n l = true) := wrK_mono (j := 0) (by unfold wrK nB; rw [decide_eq_true h2]; simp) (Nat.zero_le _)
    have b1 : decide (n < 0) = false := decide_eq_false h
    have b2 : decide (56 < n) = true := decide_eq_true h2
    clear h h2
    go_enter Tryd.func59, Tryd.ntmps59
    go_wp2_with fail
    go_ret
    exact ⟨by rw [HB.out]; rfl, rfl⟩
  · have HB : Hid (nB n = false) := (by unfold Hid nB; rw [decide_eq_false h, decide_eq_false h2]; rfl)
    have b1 : decide (n < 0) = false := decide_eq_false h
    have b2 : decide (56 < n) = false := decide_eq_false h2
    clear h h2
    go_enter Tryd.func59, Tryd.ntmps59
    go_wp2_with fail
    go_loop [15] (fun s15 => ∃ k : Nat, k ≤ l.length ∧ Hid (wrK (nB n) l k = false) ∧ s15 = .int .i64 k) (fun s15 => l.length - (intOf s15).toNat)
    case atStart => exact ⟨0, Nat.zero_le _, HB.out, rfl⟩
    case round =>
      obtain ⟨k, hk, hf, rfl⟩ := hrel
      by_cases hlt : k < l.length
      · have i1 : (k : Int) < (l.length : Int) := by omega
        obtain ⟨ad, rfl, _, c0⟩ := HS.out.dk hlt
        have uk : Hid (wrap64 ((k : Int) + 1) = ((k + 1 : Nat) : Int)) := dk64 (by have := HM.out; omega)
        have HK := Lib.hid (And.intro hk hlt)
        have hst : wrK (nB n) l (k + 1) = (wrK (nB n) l k || (decide (dk l k < -100) || decide (100 < dk l k))) := rfl
        rw [hf.out] at hst
        generalize dk l k = x at *
        clear hk hlt
        rcases (by omega : x < -100 ∨ (¬ x < -100 ∧ 100 < x) ∨ (¬ x < -100 ∧ ¬ 100 < x)) with g | ⟨g, g2⟩ | ⟨g, g2⟩
        · have HST : Hid (wrB n l = true) := wrK_mono (by rw [hst, decide_eq_true g]; rfl) HK.out.2
          have d1 : decide (x < -100) = true := decide_eq_true g
          clear hst g
          go_wp2_with fail
          go_ret
          exact ⟨by rw [HST.out]; rfl, rfl⟩
        · have HST : Hid (wrB n l = true) := wrK_mono (by rw [hst, decide_eq_true g2]; simp) HK.out.2
          have d1 : decide (x < -100) = false := decide_eq_false g
          have d2 : decide (100 < x) = true := decide_eq_true g2
          clear hst g g2
          go_wp2_with fail
          go_ret
          exact ⟨by rw [HST.out]; rfl, rfl⟩
        · have HST : Hid (wrK (nB n) l (k + 1) = false) := by unfold Hid; rw [hst, decide_eq_false g, decide_eq_false g2]; rfl
          have d1 : decide (x < -100) = false := decide_eq_false g
          have d2 : decide (100 < x) = false := decide_eq_false g2
          clear hst g g2
          go_wp2_with fail
          go_round
          case rel => exact ⟨k + 1, HK.out.2, HST, by first | rfl | rw [uk.out]⟩
          case measure => (try rw [uk.out]); have := HK.out; simp [intOf]; omega
      · obtain rfl : k = l.length := by omega
        have HF : Hid (wrB n l = false) := hf.out
        go_wp2_with fail
        go_ret
        exact ⟨by rw [HF.out]; rfl, rfl⟩
end Go.Proofs.YtmibifmabkaakaaDoor
