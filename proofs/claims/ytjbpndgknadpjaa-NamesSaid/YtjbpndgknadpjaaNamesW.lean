/- The law Names, walked: each constant has its value. No condition. -/
import Derived.Test.YtjbpndgknadpjaaBase
namespace Go.Proofs.Ytjbpndgknadpjaa
open Go.ChangeShapes Go.WideShapes Go.ChangeAt Go.RowKit

theorem names8 (j : Nat) (h : j < 8) : (#[.int .i64 0, .int .i64 1, .int .i64 2, .int .i64 3, .int .i64 4, .int .i64 5, .int .i64 6, .int .i64 7] : Array Value)[j]? = some (.int .i64 j) := by
  rcases (by omega : j = 0 ∨ j = 1 ∨ j = 2 ∨ j = 3 ∨ j = 4 ∨ j = 5 ∨ j = 6 ∨ j = 7) with rfl | rfl | rfl | rfl | rfl | rfl | rfl | rfl <;> rfl
def four (j : Nat) : Int := match j with | 0 => 400 | 1 => 64 | 2 => 20 | _ => 1099511627776
theorem names4 (j : Nat) (h : j < 4) : (#[.int .i64 400, .int .i64 64, .int .i64 20, .int .i64 1099511627776] : Array Value)[j]? = some (.int .i64 (four j)) := by
  rcases (by omega : j = 0 ∨ j = 1 ∨ j = 2 ∨ j = 3) with rfl | rfl | rfl | rfl <;> rfl

set_option maxHeartbeats 400000 in
theorem Names_walk (w : World) :
    Calls Try.prog 3 #[] w fun e w' => e = .returned (.bool true) ∧ Below w.heap.size w w' := by
  have hb1 := Blk.new w 22 #[.int .i64 0, .int .i64 1, .int .i64 2, .int .i64 3, .int .i64 4, .int .i64 5, .int .i64 6, .int .i64 7]
  have hb2 := Blk.new (w.alloc (.cells #[.int .i64 0, .int .i64 1, .int .i64 2, .int .i64 3, .int .i64 4, .int .i64 5, .int .i64 6, .int .i64 7] 22)) 3 #[.int .i64 400, .int .i64 64, .int .i64 20, .int .i64 1099511627776]
  have hb3 := Blk.new ((w.alloc (.cells #[.int .i64 0, .int .i64 1, .int .i64 2, .int .i64 3, .int .i64 4, .int .i64 5, .int .i64 6, .int .i64 7] 22)).alloc (.cells #[.int .i64 400, .int .i64 64, .int .i64 20, .int .i64 1099511627776] 3)) 3 #[.int .i64 400, .int .i64 64, .int .i64 20, .int .i64 1099511627776]
  have H1 := Lib.hid hb1
  have H2 := Lib.hid (hb2.alloc (.cells #[.int .i64 400, .int .i64 64, .int .i64 20, .int .i64 1099511627776] 3))
  have H3 := Lib.hid hb3
  have HB : Below w.heap.size w (((w.alloc (.cells #[.int .i64 0, .int .i64 1, .int .i64 2, .int .i64 3, .int .i64 4, .int .i64 5, .int .i64 6, .int .i64 7] 22)).alloc (.cells #[.int .i64 400, .int .i64 64, .int .i64 20, .int .i64 1099511627776] 3)).alloc (.cells #[.int .i64 400, .int .i64 64, .int .i64 20, .int .i64 1099511627776] 3)) := (((Below.refl _ _).alloc (Nat.le_refl _) _).alloc (by simp) _).alloc (by simp; omega) _
  have HBB := Lib.hid HB
  clear hb1 hb2 hb3 HB
  go_enter Try.func3, Try.ntmps3
  go_wp2
  go_loop [10] (fun i => ∃ j : Nat, j ≤ 8 ∧ i = .int .i64 j) (fun i => 8 - (intOf i).toNat)
  case atStart => exact ⟨0, Nat.zero_le _, rfl⟩
  case round =>
    obtain ⟨j, hj, rfl⟩ := hrel
    by_cases hlt : j < 8
    · have hc := H1.out.cell j (names8 j hlt)
      go_wp2
      go_round
      case rel => exact ⟨j + 1, by omega, by go_num⟩
      case measure => simp [intOf]; omega
    · have hj8 : j = 8 := by omega
      subst hj8
      clear hlt hj
      go_wp2
      go_loopw [23] (fun i wr => ∃ j : Nat, j ≤ 4 ∧ i = .int .i64 j ∧ ∃ n, wr = ((((w.alloc (.cells #[.int .i64 0, .int .i64 1, .int .i64 2, .int .i64 3, .int .i64 4, .int .i64 5, .int .i64 6, .int .i64 7] 22)).alloc (.cells #[.int .i64 400, .int .i64 64, .int .i64 20, .int .i64 1099511627776] 3)).alloc (.cells #[.int .i64 400, .int .i64 64, .int .i64 20, .int .i64 1099511627776] 3))).drewN n) (fun i _ => 4 - (intOf i).toNat)
      case atStart => exact ⟨0, Nat.zero_le _, rfl, 0, rfl⟩
      case round =>
        obtain ⟨j, hj, rfl, n, rfl⟩ := hrel
        by_cases hlt : j < 4
        · have hc := H2.out.cell j (names4 j hlt)
          have hd := H3.out.cell j (names4 j hlt)
          simp only [World.size_alloc] at hc hd
          have hi : (j : Int) < 4 := by omega
          generalize four j = v at hc hd
          go_wp2
          go_quiet (fail)
          go_wp2
          go_roundw
          case rel => exact ⟨j + 1, by omega, by go_num, _, rfl⟩
          case measure => simp [intOf]; omega
        · go_wp2
          go_ret
          exact ⟨rfl, below_drewN HBB.out _⟩
end Go.Proofs.Ytjbpndgknadpjaa
