/- slices.Equal at []int, walked: whether two lists are the same. No condition. -/
import Derived.Test.YtkffakekakhgdaaBase
namespace Go.Proofs.Ytkffakekakhgdaa
open Go.ChangeShapes Go.WideShapes Go.ChangeAt Go.RowKit

theorem take_step_ints (zs ys : List Int) (j : Nat) (h1 : j < zs.length) (h2 : j < ys.length) (h : zs.take j = ys.take j) (e : zs[j] = ys[j]) : zs.take (j + 1) = ys.take (j + 1) := by
  rw [List.take_succ_eq_append_getElem h1, List.take_succ_eq_append_getElem h2, h, e]

set_option maxHeartbeats 400000 in
theorem eq_ints (zs ys : List Int) (A C : Option Addr) (c d B : Nat) (w : World) (hs : Seg w B A (zs.map (.int .i64))) (ht : Seg w B C (ys.map (.int .i64))) (hm : zs.length ≤ 9223372036854775807) :
    Calls Try.prog 21 #[.slice A zs.length c, .slice C ys.length d] w fun e w' => e = .returned (.bool (decide (zs = ys))) ∧ ∃ n, w' = w.drewN n := by
  by_cases hl : zs.length = ys.length
  · have b0 : ((zs.length : Int) != (ys.length : Int)) = false := by rw [hl]; simp
    have HL := Lib.hid hl
    have hle : zs.length ≤ ys.length := by omega
    clear hl
    go_enter Try.func21, Try.ntmps21
    go_wp2
    go_loopw [13] (fun i wr => ∃ j : Nat, j ≤ zs.length ∧ i = .int .i64 j ∧ Hid (zs.take j = ys.take j) ∧ ∃ n, wr = w.drewN n) (fun i _ => zs.length - (intOf i).toNat)
    case atStart => exact ⟨0, Nat.zero_le _, rfl, rfl, 0, rfl⟩
    case round =>
      obtain ⟨j, hj, rfl, hp, n, rfl⟩ := hrel
      by_cases hlt : j < zs.length
      · have hlt2 : j < ys.length := by omega
        have hi1 : (j : Int) < (zs.length : Int) := by omega
        have hi2 : (j : Int) < (ys.length : Int) := by omega
        obtain ⟨ad, rfl, _, hc⟩ := hs.int hlt
        obtain ⟨ae, rfl, _, hd⟩ := ht.int hlt2
        have hstep := Lib.hid (take_step_ints zs ys j hlt hlt2 hp.out)
        by_cases he : zs[j] = ys[j]
        · have b1 : (zs[j] != ys[j]) = false := by rw [he]; simp
          have HE := Lib.hid he
          generalize zs[j] = x at *
          generalize ys[j] = y at *
          clear he
          go_wp2
          go_quiet (fail)
          go_wp2
          go_roundw
          case rel => exact ⟨j + 1, by omega, by go_num, hstep.out HE.out, _, rfl⟩
          case measure => simp [intOf]; omega
        · have b1 : (zs[j] != ys[j]) = true := by simpa using he
          have hne : Hid (decide (zs = ys) = false) := by
            refine decide_eq_false (fun h => he ?_)
            subst h
            rfl
          generalize zs[j] = x at *
          generalize ys[j] = y at *
          clear he hstep
          go_wp2
          go_quiet (fail)
          go_wp2
          go_ret
          exact ⟨by rw [hne.out]; rfl, n + nq, by rw [World.drewN_drewN]⟩
      · have heq : Hid (decide (zs = ys) = true) := by
          refine decide_eq_true ?_
          have h1 := hp.out
          rw [List.take_of_length_le (by omega), List.take_of_length_le (by have := HL.out; omega)] at h1
          exact h1
        go_wp2
        go_ret
        exact ⟨by rw [heq.out]; rfl, _, rfl⟩
  · have b0 : ((zs.length : Int) != (ys.length : Int)) = true := by simp; omega
    have hne : Hid (decide (zs = ys) = false) := decide_eq_false (fun h => hl (by rw [h]))
    clear hl
    go_enter Try.func21, Try.ntmps21
    go_wp2
    go_ret
    exact ⟨by rw [hne.out]; rfl, 0, rfl⟩
end Go.Proofs.Ytkffakekakhgdaa
