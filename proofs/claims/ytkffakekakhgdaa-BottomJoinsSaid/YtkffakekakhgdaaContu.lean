/- slices.Index and Contains at []uint64, walked. No condition. -/
import Derived.Test.YtkffakekakhgdaaBase
namespace Go.Proofs.Ytkffakekakhgdaa
open Go.ChangeShapes Go.WideShapes Go.ChangeAt Go.RowKit
set_option linter.unusedVariables false

theorem take_mem_stepw {zs : List Int} {v : Int} {j : Nat} (h : ¬ v ∈ zs.take j) (hj : j < zs.length) (e : ¬ v = zs[j]) : ¬ v ∈ zs.take (j + 1) := by
  rw [List.take_succ_eq_append_getElem hj, List.mem_append, List.mem_singleton]
  rintro (h1 | h1)
  · exact h h1
  · exact e h1
set_option maxHeartbeats 400000 in
theorem index_u64s (zs : List Int) (v : Int) (A : Option Addr) (c B : Nat) (w : World) (hs : Seg w B A (zs.map (.int .u64))) (hm : zs.length ≤ 9223372036854775807) :
    Calls Try.prog 44 #[.slice A zs.length c, .int .u64 v] w fun e w' => (∃ i : Int, e = .returned (.int .i64 i) ∧ (0 ≤ i ↔ v ∈ zs)) ∧ w = w' := by
  go_enter Try.func44, Try.ntmps44
  go_wp2_with fail
  go_loop [8] (fun s8 => ∃ j : Nat, j ≤ zs.length ∧ s8 = .int .i64 j ∧ Hid (¬ v ∈ zs.take j)) (fun s8 => zs.length - (intOf s8).toNat)
  case atStart => exact ⟨0, Nat.zero_le _, rfl, by simp [Hid]⟩
  case round =>
    obtain ⟨j, hj, rfl, hp⟩ := hrel
    by_cases hlt : j < zs.length
    · have hi1 : (j : Int) < (zs.length : Int) := by omega
      obtain ⟨ad, rfl, _, hc⟩ := hs.int hlt
      by_cases he : v = zs[j]
      · have HM : Hid (decide (0 ≤ (j : Int)) = decide (v ∈ zs)) := by
          unfold Hid
          rw [decide_eq_true (show v ∈ zs by rw [he]; exact List.getElem_mem hlt), decide_eq_true (by omega)]
        have b1 : (v == zs[j]) = true := by simp [he]
        generalize zs[j] = x at *
        clear he
        go_wp2_with fail
        go_ret
        exact ⟨⟨_, rfl, decide_eq_decide.1 HM.out⟩, rfl⟩
      · have HM : Hid (¬ v ∈ zs.take (j + 1)) := take_mem_stepw hp.out hlt he
        have b1 : (v == zs[j]) = false := by simpa using he
        generalize zs[j] = x at *
        clear he
        go_wp2_with fail
        go_round
        case rel => exact ⟨j + 1, by omega, by go_num, HM⟩
        case measure => simp [intOf]; omega
    · have HM : Hid (decide (0 ≤ (-1 : Int)) = decide (v ∈ zs)) := by
        have h := hp.out
        rw [List.take_of_length_le (by omega)] at h
        unfold Hid
        rw [decide_eq_false h]; rfl
      have hi1 : ¬ (j : Int) < (zs.length : Int) := by omega
      go_wp2_with fail
      go_ret
      exact ⟨⟨_, rfl, decide_eq_decide.1 HM.out⟩, rfl⟩
theorem contains_u64s (zs : List Int) (v : Int) (A : Option Addr) (c B : Nat) (w : World) (hs : Seg w B A (zs.map (.int .u64))) (hm : zs.length ≤ 9223372036854775807) :
    Calls Try.prog 13 #[.slice A zs.length c, .int .u64 v] w fun e w' => e = .returned (.bool (decide (v ∈ zs))) ∧ w = w' := by
  go_enter Try.func13, Try.ntmps13
  go_wp2_with fail
  refine (index_u64s zs v A c B _ hs hm).mono ?_
  rintro e w' ⟨⟨i, rfl, hi⟩, rfl⟩
  have HI := Lib.hid hi
  clear hi
  go_wp2_with fail
  go_ret
  exact ⟨by rw [← decide_eq_decide.2 HI.out]; rfl, rfl⟩
end Go.Proofs.Ytkffakekakhgdaa
