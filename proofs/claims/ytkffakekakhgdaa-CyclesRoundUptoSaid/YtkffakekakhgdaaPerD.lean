/- Orders: whether a list is one, by the reference, walked. No condition. -/
import Derived.Test.YtkffakekakhgdaaPerM
import Derived.BigQuiet
import Derived.IntWalk
namespace Go.Proofs.Ytkffakekakhgdaa
open Go.ChangeShapes Go.WideShapes Go.ChangeAt Go.RowKit
set_option linter.unusedVariables false

theorem count_take {p : List Int} {i : Nat} (h : i < p.length) (x : Int) : (p.take (i + 1)).count x = (p.take i).count x + if pat p i = x then 1 else 0 := by
  rw [pat_take h, List.count_append, List.count_singleton]
  simp
set_option maxRecDepth 20000 in
set_option maxHeartbeats 4000000 in
theorem dright_any (p : List Int) (A : Option Addr) (c : Nat) (w : World) (hs : Seg w w.heap.size A (p.map (.int .i64))) (hm : p.length ≤ 9223372036854775807) :
    Calls Try.prog 31 #[.slice A p.length c] w fun e w' => e = .returned (.bool (permB p)) ∧ w = w' := by
  have HS := Lib.hid hs
  clear hs
  obtain ⟨b, hb⟩ : ∃ b, decide (p.length ≤ 20) = b := ⟨_, rfl⟩
  have hbi : decide ((p.length : Int) ≤ 20) = b := by rw [← hb]; apply decide_eq_decide.2; omega
  have HP : Hid (permB p = (b && dokc p p.length)) := by unfold Hid permB; rw [permB_eq, hb]
  go_enter Try.func31, Try.ntmps31
  go_wp2_with fail
  go_loop [3, 13] (fun s3 s13 => ∃ j : Nat, j ≤ p.length ∧ s13 = .int .i64 j ∧ s3 = .bool (b && dokc p j)) (fun _ s13 => p.length - (intOf s13).toNat)
  case atStart => exact ⟨0, Nat.zero_le _, rfl, by simp [dokc]⟩
  case round =>
    obtain ⟨j, hj, rfl, rfl⟩ := hrel
    have HV : Hid (∃ v, (b && dokc p j) = v) := ⟨_, rfl⟩
    by_cases hlt : j < p.length
    · have HST : Hid ((b && dokc p (j + 1)) = ((b && dokc p j) && decide (p.count (j : Int) = 1))) := by unfold Hid; rw [dokc, Bool.and_assoc]
      generalize (b && dokc p j) = v at *
      clear hb hbi HV
      have i2 : (j : Int) < (p.length : Int) := by omega
      go_wp2_with fail
      go_loop [5, 18] (fun s5 s18 => ∃ i : Nat, i ≤ p.length ∧ s18 = .int .i64 i ∧ s5 = .int .i64 ((p.take i).count (j : Int) : Nat)) (fun _ s18 => p.length - (intOf s18).toNat)
      case atStart => exact ⟨0, Nat.zero_le _, rfl, by simp⟩
      case round =>
        obtain ⟨i, hi, rfl, rfl⟩ := hrel
        have HCT : Hid (∀ h : i < p.length, (p.take (i + 1)).count (j : Int) = (p.take i).count (j : Int) + if pat p i = (j : Int) then 1 else 0) := fun h => count_take h _
        have HEN : Hid (¬ i < p.length → (p.take i).count (j : Int) = p.count (j : Int)) := fun h => by rw [List.take_of_length_le (by omega)]
        have hcl : (p.take i).count (j : Int) ≤ i := by
          have h1 := List.count_le_length (a := (j : Int)) (l := p.take i)
          have h2 := List.length_take_le i p
          omega
        by_cases hlt2 : i < p.length
        · have i3 : (i : Int) < (p.length : Int) := by omega
          obtain ⟨ad, rfl, _, hcell⟩ := HS.out.pat hlt2
          have HC := Lib.hid (HCT.out hlt2)
          generalize (p.take i).count (j : Int) = n at *
          generalize pat p i = x at *
          by_cases hx : x = (j : Int)
          · have b1 : (x == (j : Int)) = true := by simp [hx]
            have HX : Hid ((p.take (i + 1)).count (j : Int) = n + 1) := by unfold Hid; rw [HC.out, if_pos hx]
            clear hx
            go_wp2_with fail
            go_round
            case rel => exact ⟨i + 1, by omega, by go_num, by rw [HX.out]; go_num⟩
            case measure => simp [intOf]; omega
          · have b1 : (x == (j : Int)) = false := by simpa using hx
            have HX : Hid ((p.take (i + 1)).count (j : Int) = n) := by unfold Hid; rw [HC.out, if_neg hx]; rfl
            clear hx
            go_wp2_with fail
            go_round
            case rel => exact ⟨i + 1, by omega, by go_num, by rw [HX.out]⟩
            case measure => simp [intOf]; omega
        · have i3 : ¬ (i : Int) < (p.length : Int) := by omega
          have HE := Lib.hid (HEN.out hlt2)
          generalize (p.take i).count (j : Int) = n at *
          rw [← HE.out] at HST
          have hd : ((n : Int) == 1) = decide (n = 1) := by rw [Bool.eq_iff_iff]; simp; omega
          cases v with
          | true =>
            go_wp2_with fail
            go_round
            case rel => exact ⟨j + 1, by omega, by go_num, by rw [HST.out]; rfl⟩
            case measure => simp [intOf]; omega
          | false =>
            go_wp2_with fail
            go_round
            case rel => exact ⟨j + 1, by omega, by go_num, by rw [HST.out]; rfl⟩
            case measure => simp [intOf]; omega
    · have i2 : ¬ (j : Int) < (p.length : Int) := by omega
      have HJ : Hid (j = p.length) := by unfold Hid; omega
      rw [← HJ.out] at HP
      generalize (b && dokc p j) = v at *
      go_wp2_with fail
      go_ret
      exact ⟨by rw [HP.out]; rfl, rfl⟩
end Go.Proofs.Ytkffakekakhgdaa
