/- Package stats, the middle: the law's own search, walked. No condition but the slice's own size. -/
import Derived.Test.YtmnjgoicppknjaaMidX
namespace Go.Proofs.Ytmnjgoicppknjaa
open Go.ChangeShapes Go.WideShapes Go.ChangeAt Go.RowKit
set_option linter.unusedVariables false

theorem less_take {zs : List Int} {j : Nat} (h : j < zs.length) (v : Int) : lessN (zs.take (j + 1)) v = lessN (zs.take j) v + (if pat zs j < v then 1 else 0) := by
  unfold lessN
  rw [pat_take h, List.countP_append]
  congr 1
  simp [List.countP_cons]
theorem same_take {zs : List Int} {j : Nat} (h : j < zs.length) (v : Int) : sameN (zs.take (j + 1)) v = sameN (zs.take j) v + (if pat zs j = v then 1 else 0) := by
  unfold sameN
  rw [pat_take h, List.countP_append]
  congr 1
  simp [List.countP_cons]
theorem less_len (zs : List Int) (v : Int) : lessN zs v ≤ zs.length := List.countP_le_length
theorem same_len (zs : List Int) (v : Int) : sameN zs v ≤ zs.length := List.countP_le_length
theorem drop_pat {zs : List Int} {i : Nat} (h : i < zs.length) : zs.drop i = pat zs i :: zs.drop (i + 1) := by
  rw [pat_get h]; exact List.drop_eq_getElem_cons h
set_option maxRecDepth 20000 in
set_option maxHeartbeats 2000000 in
theorem at_any (g : Nat) (A : Option Addr) (zs : List Int) (c : Nat) (k : Int) (w : World) (hb : w.cell? ⟨g, 0, none⟩ = some (.slice A zs.length c)) (hs : Seg w w.heap.size A (zs.map (.int .i64))) (hl : zs.length ≤ 400) :
    Calls Try.prog 103 #[.int .i64 k, .pointer (some ⟨g, 0, none⟩)] w fun e w' => e = .returned (.int .i64 (midF zs k zs)) ∧ w' = w := by
  have HS := Lib.hid hs
  have HL := Lib.hid hl
  clear hs hl
  go_enter Try.func103, Try.ntmps103
  go_wp2_with fail
  go_loop [12] (fun s12 => ∃ i : Nat, i ≤ zs.length ∧ s12 = .int .i64 i ∧ Hid (midF zs k (zs.drop i) = midF zs k zs)) (fun s12 => zs.length - (intOf s12).toNat)
  case atStart => exact ⟨0, Nat.zero_le _, rfl, by unfold Hid; rw [List.drop_zero]⟩
  case round =>
    obtain ⟨i, hi, rfl, hmid⟩ := hrel
    by_cases hlt : i < zs.length
    · have i1 : (i : Int) < (zs.length : Int) := by omega
      obtain ⟨ad, rfl, _, x1⟩ := HS.out.pat hlt
      have HST : Hid (midF zs k (zs.drop i) = if (lessN zs (pat zs i) : Int) ≤ k ∧ k < (lessN zs (pat zs i) : Int) + (sameN zs (pat zs i) : Int) then pat zs i else midF zs k (zs.drop (i + 1))) := by
        unfold Hid; rw [drop_pat hlt, midF]
      have HI1 := Lib.hid hlt
      generalize pat zs i = v at *
      go_wp2_with fail
      skip --LOOKA
      go_loop [6, 7, 18] (fun s6 s7 s18 => ∃ j : Nat, j ≤ zs.length ∧ s6 = .int .i64 (lessN (zs.take j) v : Nat) ∧ s7 = .int .i64 (sameN (zs.take j) v : Nat) ∧ s18 = .int .i64 j) (fun _ _ s18 => zs.length - (intOf s18).toNat)
      case atStart => exact ⟨0, Nat.zero_le _, rfl, rfl, rfl⟩
      case round =>
        obtain ⟨j, hj, rfl, rfl, rfl⟩ := hrel
        by_cases hjt : j < zs.length
        · have i2 : (j : Int) < (zs.length : Int) := by omega
          obtain ⟨ad', e1, _, x2⟩ := HS.out.pat hjt
          injection e1 with e1; subst e1
          have hl1 := less_len (zs.take j) v
          have hl2 := same_len (zs.take j) v
          rw [List.length_take] at hl1 hl2
          have hl3 := HL.out
          have HS1 : Hid (lessN (zs.take (j + 1)) v = lessN (zs.take j) v + (if pat zs j < v then 1 else 0)) := less_take hjt v
          have HS2 : Hid (sameN (zs.take (j + 1)) v = sameN (zs.take j) v + (if pat zs j = v then 1 else 0)) := same_take hjt v
          generalize pat zs j = x at *
          generalize lessN (zs.take j) v = l1 at *
          generalize sameN (zs.take j) v = l2 at *
          rcases (by omega : x < v ∨ x = v ∨ v < x) with h | h | h
          · have e1 : Hid (lessN (zs.take (j + 1)) v = l1 + 1) := by unfold Hid; rw [HS1.out, if_pos h]
            have e2 : Hid (sameN (zs.take (j + 1)) v = l2) := by unfold Hid; rw [HS2.out, if_neg (by omega), Nat.add_zero]
            have he : (x == v) = false := by simp; omega
            go_wp2_with fail
            go_round
            case rel => exact ⟨j + 1, by omega, by rw [e1.out]; go_num, by rw [e2.out], by go_num⟩
            case measure => simp [intOf]; omega
          · have e1 : Hid (lessN (zs.take (j + 1)) v = l1) := by unfold Hid; rw [HS1.out, if_neg (by omega), Nat.add_zero]
            have e2 : Hid (sameN (zs.take (j + 1)) v = l2 + 1) := by unfold Hid; rw [HS2.out, if_pos h]
            have hn : ¬ x < v := by omega
            have he : (x == v) = true := by simp; omega
            clear h
            go_wp2_with fail
            go_round
            case rel => exact ⟨j + 1, by omega, by rw [e1.out], by rw [e2.out]; go_num, by go_num⟩
            case measure => simp [intOf]; omega
          · have e1 : Hid (lessN (zs.take (j + 1)) v = l1) := by unfold Hid; rw [HS1.out, if_neg (by omega), Nat.add_zero]
            have e2 : Hid (sameN (zs.take (j + 1)) v = l2) := by unfold Hid; rw [HS2.out, if_neg (by omega), Nat.add_zero]
            have hn : ¬ x < v := by omega
            have he : (x == v) = false := by simp; omega
            go_wp2_with fail
            go_round
            case rel => exact ⟨j + 1, by omega, by rw [e1.out], by rw [e2.out], by go_num⟩
            case measure => simp [intOf]; omega
        · obtain rfl : j = zs.length := by omega
          rw [List.take_length]
          have hl1 := less_len zs v
          have hl2 := same_len zs v
          have hl3 := HL.out
          generalize lessN zs v = l1 at *
          generalize sameN zs v = l2 at *
          have hw : wrap64 ((l1 : Int) + (l2 : Int)) = (l1 : Int) + (l2 : Int) := by unfold wrap64; omega
          rcases (by omega : ((l1 : Int) ≤ k ∧ k < (l1 : Int) + (l2 : Int)) ∨ ((l1 : Int) ≤ k ∧ ¬ k < (l1 : Int) + (l2 : Int)) ∨ ¬ (l1 : Int) ≤ k) with ⟨h1, h2⟩ | ⟨h1, h2⟩ | h1
          · have HR : Hid (midF zs k zs = v) := by unfold Hid; rw [← hmid.out, HST.out, if_pos ⟨h1, h2⟩]
            go_wp2_with fail
            go_ret
            exact ⟨by rw [HR.out]; rfl, rfl⟩
          · have HR : Hid (midF zs k (zs.drop (i + 1)) = midF zs k zs) := by unfold Hid; rw [← hmid.out, HST.out, if_neg (fun q => h2 q.2)]
            go_wp2_with fail
            go_round
            case rel => exact ⟨i + 1, HI1.out, by go_num, HR⟩
            case measure => simp [intOf]; have := HI1.out; omega
          · have HR : Hid (midF zs k (zs.drop (i + 1)) = midF zs k zs) := by unfold Hid; rw [← hmid.out, HST.out, if_neg (fun q => h1 q.1)]
            go_wp2_with fail
            go_round
            case rel => exact ⟨i + 1, HI1.out, by go_num, HR⟩
            case measure => simp [intOf]; have := HI1.out; omega
    · obtain rfl : i = zs.length := by omega
      have HR : Hid (midF zs k zs = 0) := by unfold Hid; rw [← hmid.out, List.drop_length]; rfl
      go_wp2_with fail
      go_ret
      exact ⟨by rw [HR.out]; rfl, rfl⟩
end Go.Proofs.Ytmnjgoicppknjaa
