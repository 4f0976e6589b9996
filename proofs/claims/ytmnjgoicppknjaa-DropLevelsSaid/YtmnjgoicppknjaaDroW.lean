/- Package drop: what is wrong with weights, told by the program and by the reference, walked. No condition. -/
import Derived.Test.YtmnjgoicppknjaaMidS
import Derived.BigQuiet
import Derived.IntWalk
namespace Go.Proofs.Ytmnjgoicppknjaa
open Go.ChangeShapes Go.WideShapes Go.ChangeAt Go.RowKit
set_option linter.unusedVariables false

def dall (zs : List Int) : Prop := ∀ x ∈ zs, 1 ≤ x ∧ x ≤ 1048576
instance (zs : List Int) : Decidable (dall zs) := by unfold dall; infer_instance
theorem dall_take (zs : List Int) (k : Nat) (h : k < zs.length) : dall (zs.take (k + 1)) ↔ dall (zs.take k) ∧ 1 ≤ pat zs k ∧ pat zs k ≤ 1048576 := by
  unfold dall
  rw [pat_take h]
  constructor
  · intro a
    exact ⟨fun x hx => a x (List.mem_append.2 (Or.inl hx)), a _ (List.mem_append.2 (Or.inr (List.mem_singleton.2 rfl)))⟩
  · rintro ⟨a, b⟩ x hx
    rw [List.mem_append] at hx
    rcases hx with hx | hx
    · exact a x hx
    · rw [List.mem_singleton] at hx; subst hx; exact b
/-- Are weights, and how many are kept, right? -/
def drok (zs : List Int) (keep : Int) : Prop := (zs.length ≤ 400 ∧ 1 ≤ keep ∧ keep ≤ 400) ∧ dall zs
instance (zs : List Int) (keep : Int) : Decidable (drok zs keep) := by unfold drok; infer_instance
def dwe (zs : List Int) (keep : Int) : Int := if drok zs keep then 0 else 2
theorem dwe_ok {zs : List Int} {keep : Int} (h : drok zs keep) : dwe zs keep = 0 := if_pos h
theorem dwe_no {zs : List Int} {keep : Int} (h : ¬ drok zs keep) : dwe zs keep = 2 := if_neg h
theorem ret_de {a b : Int} (h : a = b) : Ending.returned (.int .i64 a) = .returned (.int .i64 b) := by rw [h]
set_option maxRecDepth 20000 in
set_option maxHeartbeats 2000000 in
theorem dwrong_any (A : Option Addr) (zs : List Int) (c : Nat) (keep : Int) (w : World) (hs : Seg w w.heap.size A (zs.map (.int .i64))) :
    Calls Try.prog 109 #[.slice A zs.length c, .int .i64 keep] w fun e w' => e = .returned (.int .i64 (dwe zs keep)) ∧ w' = w := by
  have HS := Lib.hid hs
  clear hs
  rcases (by omega : 400 < zs.length ∨ (¬ 400 < zs.length ∧ keep < 1) ∨ (¬ 400 < zs.length ∧ ¬ keep < 1 ∧ 400 < keep) ∨ (¬ 400 < zs.length ∧ ¬ keep < 1 ∧ ¬ 400 < keep)) with h | ⟨h, h1⟩ | ⟨h, h1, h2⟩ | ⟨h, h1, h2⟩
  · have HR : Hid (dwe zs keep = 2) := dwe_no (fun q => by have := q.1.1; omega)
    have i0 : (400 : Int) < (zs.length : Int) := by omega
    go_enter Try.func109, Try.ntmps109
    go_wp2_with fail
    go_ret
    exact ⟨by rw [HR.out]; rfl, rfl⟩
  · have HR : Hid (dwe zs keep = 2) := dwe_no (fun q => by have := q.1.2.1; omega)
    have i0 : ¬ (400 : Int) < (zs.length : Int) := by omega
    go_enter Try.func109, Try.ntmps109
    go_wp2_with fail
    go_ret
    exact ⟨by rw [HR.out]; rfl, rfl⟩
  · have HR : Hid (dwe zs keep = 2) := dwe_no (fun q => by have := q.1.2.2; omega)
    have i0 : ¬ (400 : Int) < (zs.length : Int) := by omega
    go_enter Try.func109, Try.ntmps109
    go_wp2_with fail
    go_ret
    exact ⟨by rw [HR.out]; rfl, rfl⟩
  · have i0 : ¬ (400 : Int) < (zs.length : Int) := by omega
    have HBS : Hid (zs.length ≤ 400 ∧ 1 ≤ keep ∧ keep ≤ 400) := ⟨by omega, by omega, by omega⟩
    go_enter Try.func109, Try.ntmps109
    go_wp2_with fail
    go_loop [20] (fun s20 => ∃ k : Nat, k ≤ zs.length ∧ s20 = .int .i64 k ∧ Hid (dall (zs.take k))) (fun s20 => zs.length - (intOf s20).toNat)
    case atStart => exact ⟨0, Nat.zero_le _, rfl, fun x hx => by simp at hx⟩
    case round =>
      obtain ⟨k, hk, rfl, hall⟩ := hrel
      by_cases hlt : k < zs.length
      · have i1 : (k : Int) < (zs.length : Int) := by omega
        obtain ⟨ad, rfl, _, x1⟩ := HS.out.pat hlt
        have HWT := Lib.hid (dall_take zs k hlt)
        have HNO : Hid (¬ (1 ≤ pat zs k ∧ pat zs k ≤ 1048576) → dwe zs keep = 2) := fun q => dwe_no (fun p => q (by rw [pat_get hlt]; exact p.2 _ (List.getElem_mem hlt)))
        generalize pat zs k = z at *
        rcases (by omega : z < 1 ∨ (¬ z < 1 ∧ 1048576 < z) ∨ (¬ z < 1 ∧ ¬ 1048576 < z)) with q | ⟨q, q1⟩ | ⟨q, q1⟩
        · have HR := Lib.hid (HNO.out (by omega))
          go_wp2_with fail
          go_ret
          exact ⟨by rw [HR.out]; rfl, rfl⟩
        · have HR := Lib.hid (HNO.out (by omega))
          go_wp2_with fail
          go_ret
          exact ⟨by rw [HR.out]; rfl, rfl⟩
        · have HN : Hid (dall (zs.take (k + 1))) := HWT.out.2 ⟨hall.out, by omega, by omega⟩
          go_wp2_with fail
          go_round
          case rel => exact ⟨k + 1, by omega, by go_num, HN⟩
          case measure => simp [intOf]; omega
      · obtain rfl : k = zs.length := by omega
        have HR : Hid (dwe zs keep = 0) := dwe_ok ⟨HBS.out, by have := hall.out; rwa [List.take_length] at this⟩
        go_wp2_with fail
        go_ret
        exact ⟨by rw [HR.out]; rfl, rfl⟩
set_option maxRecDepth 20000 in
set_option maxHeartbeats 4000000 in
theorem kwrong_any (A : Option Addr) (zs : List Int) (c : Nat) (keep : Int) (w : World) (hs : Seg w w.heap.size A (zs.map (.int .i64))) (hl : zs.length ≤ 9223372036854775807) :
    Calls Try.prog 108 #[.slice A zs.length c, .int .i64 keep] w fun e w' => e = .returned (.int .i64 (dwe zs keep)) ∧ w' = w := by
  have HS := Lib.hid hs
  clear hs
  have hcs : ((zs.length : Int) < 401 ∧ 0 < keep ∧ keep < 401) ∨ ¬ (zs.length : Int) < 401 ∨ ((zs.length : Int) < 401 ∧ ¬ 0 < keep) ∨ ((zs.length : Int) < 401 ∧ 0 < keep ∧ ¬ keep < 401) := by omega
  have HLL := Lib.hid hl
  rcases hcs with ⟨g1, g2, g3⟩ | g1 | ⟨g1, g2⟩ | ⟨g1, g2, g3⟩
  · have HB : Hid (true = decide (zs.length ≤ 400 ∧ 1 ≤ keep ∧ keep ≤ 400)) := by unfold Hid; rw [decide_eq_true (by omega)]
    go_enter Try.func108, Try.ntmps108
    go_wp2_with fail
    clear g1 g2 g3
    go_loop [5, 21] (fun s5 s21 => ∃ (k : Nat) (b : Bool), k ≤ zs.length ∧ s21 = .int .i64 k ∧ s5 = .bool b ∧ Hid (b = decide ((zs.length ≤ 400 ∧ 1 ≤ keep ∧ keep ≤ 400) ∧ dall (zs.take k)))) (fun _ s21 => zs.length - (intOf s21).toNat)
    case atStart =>
      refine ⟨0, true, Nat.zero_le _, rfl, rfl, ?_⟩
      unfold Hid; rw [HB.out]; simp [dall]
    case round =>
      obtain ⟨k, b, hk, rfl, rfl, hb⟩ := hrel
      by_cases hlt : k < zs.length
      · have i1 : (k : Int) < (zs.length : Int) := by omega
        obtain ⟨ad, rfl, _, x1⟩ := HS.out.pat hlt
        have HWT := Lib.hid (dall_take zs k hlt)
        have HN1 : Hid (b = false → false = decide ((zs.length ≤ 400 ∧ 1 ≤ keep ∧ keep ≤ 400) ∧ dall (zs.take (k + 1)))) := fun e => by
          rw [decide_eq_false]
          intro q
          have h2 := hb.out
          rw [e, decide_eq_true ⟨q.1, (HWT.out.1 q.2).1⟩] at h2
          cases h2
        have HN2 : Hid (¬ (1 ≤ pat zs k ∧ pat zs k ≤ 1048576) → false = decide ((zs.length ≤ 400 ∧ 1 ≤ keep ∧ keep ≤ 400) ∧ dall (zs.take (k + 1)))) := fun e => by
          rw [decide_eq_false]
          intro q
          exact e (HWT.out.1 q.2).2
        have HN3 : Hid (b = true → (1 ≤ pat zs k ∧ pat zs k ≤ 1048576) → true = decide ((zs.length ≤ 400 ∧ 1 ≤ keep ∧ keep ≤ 400) ∧ dall (zs.take (k + 1)))) := fun e q => by
          have h2 := hb.out
          rw [e] at h2
          have h3 := of_decide_eq_true h2.symm
          rw [decide_eq_true ⟨h3.1, HWT.out.2 ⟨h3.2, q⟩⟩]
        generalize pat zs k = z at *
        clear hb HWT
        cases b with
        | false =>
          have HN := Lib.hid (HN1.out rfl)
          go_wp2_with fail
          go_round
          case rel => exact ⟨k + 1, false, by omega, by go_num, rfl, HN⟩
          case measure => simp [intOf]; omega
        | true =>
          rcases (by omega : ¬ 0 < z ∨ (0 < z ∧ ¬ z ≤ 1048576) ∨ (0 < z ∧ z ≤ 1048576)) with q | ⟨q, q1⟩ | ⟨q, q1⟩
          · have HN := Lib.hid (HN2.out (by omega))
            go_wp2_with fail
            go_round
            case rel => exact ⟨k + 1, false, by omega, by go_num, rfl, HN⟩
            case measure => simp [intOf]; omega
          · have HN := Lib.hid (HN2.out (by omega))
            go_wp2_with fail
            go_round
            case rel => exact ⟨k + 1, false, by omega, by go_num, rfl, HN⟩
            case measure => simp [intOf]; omega
          · have HN := Lib.hid (HN3.out rfl ⟨by omega, by omega⟩)
            go_wp2_with fail
            go_round
            case rel => exact ⟨k + 1, true, by omega, by go_num, rfl, HN⟩
            case measure => simp [intOf]; omega
      · obtain rfl : k = zs.length := by omega
        have hf : Hid (b = decide (drok zs keep)) := by have := hb.out; rw [List.take_length] at this; exact this
        clear hb
        cases b with
        | true =>
          have HR : Hid (dwe zs keep = 0) := dwe_ok (of_decide_eq_true hf.out.symm)
          go_wp2_with fail
          go_ret
          exact ⟨by rw [HR.out]; rfl, rfl⟩
        | false =>
          have HR : Hid (dwe zs keep = 2) := dwe_no (of_decide_eq_false hf.out.symm)
          go_wp2_with fail
          go_ret
          exact ⟨by rw [HR.out]; rfl, rfl⟩
  · have HB : Hid (false = decide (zs.length ≤ 400 ∧ 1 ≤ keep ∧ keep ≤ 400)) := by unfold Hid; rw [decide_eq_false (by omega)]
    go_enter Try.func108, Try.ntmps108
    go_wp2_with fail
    clear g1
    go_loop [5, 21] (fun s5 s21 => ∃ (k : Nat) (b : Bool), k ≤ zs.length ∧ s21 = .int .i64 k ∧ s5 = .bool b ∧ Hid (b = decide ((zs.length ≤ 400 ∧ 1 ≤ keep ∧ keep ≤ 400) ∧ dall (zs.take k)))) (fun _ s21 => zs.length - (intOf s21).toNat)
    case atStart =>
      refine ⟨0, false, Nat.zero_le _, rfl, rfl, ?_⟩
      unfold Hid; rw [HB.out]; simp [dall]
    case round =>
      obtain ⟨k, b, hk, rfl, rfl, hb⟩ := hrel
      by_cases hlt : k < zs.length
      · have i1 : (k : Int) < (zs.length : Int) := by omega
        obtain ⟨ad, rfl, _, x1⟩ := HS.out.pat hlt
        have HWT := Lib.hid (dall_take zs k hlt)
        have HN1 : Hid (b = false → false = decide ((zs.length ≤ 400 ∧ 1 ≤ keep ∧ keep ≤ 400) ∧ dall (zs.take (k + 1)))) := fun e => by
          rw [decide_eq_false]
          intro q
          have h2 := hb.out
          rw [e, decide_eq_true ⟨q.1, (HWT.out.1 q.2).1⟩] at h2
          cases h2
        have HN2 : Hid (¬ (1 ≤ pat zs k ∧ pat zs k ≤ 1048576) → false = decide ((zs.length ≤ 400 ∧ 1 ≤ keep ∧ keep ≤ 400) ∧ dall (zs.take (k + 1)))) := fun e => by
          rw [decide_eq_false]
          intro q
          exact e (HWT.out.1 q.2).2
        have HN3 : Hid (b = true → (1 ≤ pat zs k ∧ pat zs k ≤ 1048576) → true = decide ((zs.length ≤ 400 ∧ 1 ≤ keep ∧ keep ≤ 400) ∧ dall (zs.take (k + 1)))) := fun e q => by
          have h2 := hb.out
          rw [e] at h2
          have h3 := of_decide_eq_true h2.symm
          rw [decide_eq_true ⟨h3.1, HWT.out.2 ⟨h3.2, q⟩⟩]
        generalize pat zs k = z at *
        clear hb HWT
        cases b with
        | false =>
          have HN := Lib.hid (HN1.out rfl)
          go_wp2_with fail
          go_round
          case rel => exact ⟨k + 1, false, by omega, by go_num, rfl, HN⟩
          case measure => simp [intOf]; omega
        | true =>
          rcases (by omega : ¬ 0 < z ∨ (0 < z ∧ ¬ z ≤ 1048576) ∨ (0 < z ∧ z ≤ 1048576)) with q | ⟨q, q1⟩ | ⟨q, q1⟩
          · have HN := Lib.hid (HN2.out (by omega))
            go_wp2_with fail
            go_round
            case rel => exact ⟨k + 1, false, by omega, by go_num, rfl, HN⟩
            case measure => simp [intOf]; omega
          · have HN := Lib.hid (HN2.out (by omega))
            go_wp2_with fail
            go_round
            case rel => exact ⟨k + 1, false, by omega, by go_num, rfl, HN⟩
            case measure => simp [intOf]; omega
          · have HN := Lib.hid (HN3.out rfl ⟨by omega, by omega⟩)
            go_wp2_with fail
            go_round
            case rel => exact ⟨k + 1, true, by omega, by go_num, rfl, HN⟩
            case measure => simp [intOf]; omega
      · obtain rfl : k = zs.length := by omega
        have hf : Hid (b = decide (drok zs keep)) := by have := hb.out; rw [List.take_length] at this; exact this
        clear hb
        cases b with
        | true =>
          have HR : Hid (dwe zs keep = 0) := dwe_ok (of_decide_eq_true hf.out.symm)
          go_wp2_with fail
          go_ret
          exact ⟨by rw [HR.out]; rfl, rfl⟩
        | false =>
          have HR : Hid (dwe zs keep = 2) := dwe_no (of_decide_eq_false hf.out.symm)
          go_wp2_with fail
          go_ret
          exact ⟨by rw [HR.out]; rfl, rfl⟩
  · have HB : Hid (false = decide (zs.length ≤ 400 ∧ 1 ≤ keep ∧ keep ≤ 400)) := by unfold Hid; rw [decide_eq_false (by omega)]
    go_enter Try.func108, Try.ntmps108
    go_wp2_with fail
    clear g1 g2
    go_loop [5, 21] (fun s5 s21 => ∃ (k : Nat) (b : Bool), k ≤ zs.length ∧ s21 = .int .i64 k ∧ s5 = .bool b ∧ Hid (b = decide ((zs.length ≤ 400 ∧ 1 ≤ keep ∧ keep ≤ 400) ∧ dall (zs.take k)))) (fun _ s21 => zs.length - (intOf s21).toNat)
    case atStart =>
      refine ⟨0, false, Nat.zero_le _, rfl, rfl, ?_⟩
      unfold Hid; rw [HB.out]; simp [dall]
    case round =>
      obtain ⟨k, b, hk, rfl, rfl, hb⟩ := hrel
      by_cases hlt : k < zs.length
      · have i1 : (k : Int) < (zs.length : Int) := by omega
        obtain ⟨ad, rfl, _, x1⟩ := HS.out.pat hlt
        have HWT := Lib.hid (dall_take zs k hlt)
        have HN1 : Hid (b = false → false = decide ((zs.length ≤ 400 ∧ 1 ≤ keep ∧ keep ≤ 400) ∧ dall (zs.take (k + 1)))) := fun e => by
          rw [decide_eq_false]
          intro q
          have h2 := hb.out
          rw [e, decide_eq_true ⟨q.1, (HWT.out.1 q.2).1⟩] at h2
          cases h2
        have HN2 : Hid (¬ (1 ≤ pat zs k ∧ pat zs k ≤ 1048576) → false = decide ((zs.length ≤ 400 ∧ 1 ≤ keep ∧ keep ≤ 400) ∧ dall (zs.take (k + 1)))) := fun e => by
          rw [decide_eq_false]
          intro q
          exact e (HWT.out.1 q.2).2
        have HN3 : Hid (b = true → (1 ≤ pat zs k ∧ pat zs k ≤ 1048576) → true = decide ((zs.length ≤ 400 ∧ 1 ≤ keep ∧ keep ≤ 400) ∧ dall (zs.take (k + 1)))) := fun e q => by
          have h2 := hb.out
          rw [e] at h2
          have h3 := of_decide_eq_true h2.symm
          rw [decide_eq_true ⟨h3.1, HWT.out.2 ⟨h3.2, q⟩⟩]
        generalize pat zs k = z at *
        clear hb HWT
        cases b with
        | false =>
          have HN := Lib.hid (HN1.out rfl)
          go_wp2_with fail
          go_round
          case rel => exact ⟨k + 1, false, by omega, by go_num, rfl, HN⟩
          case measure => simp [intOf]; omega
        | true =>
          rcases (by omega : ¬ 0 < z ∨ (0 < z ∧ ¬ z ≤ 1048576) ∨ (0 < z ∧ z ≤ 1048576)) with q | ⟨q, q1⟩ | ⟨q, q1⟩
          · have HN := Lib.hid (HN2.out (by omega))
            go_wp2_with fail
            go_round
            case rel => exact ⟨k + 1, false, by omega, by go_num, rfl, HN⟩
            case measure => simp [intOf]; omega
          · have HN := Lib.hid (HN2.out (by omega))
            go_wp2_with fail
            go_round
            case rel => exact ⟨k + 1, false, by omega, by go_num, rfl, HN⟩
            case measure => simp [intOf]; omega
          · have HN := Lib.hid (HN3.out rfl ⟨by omega, by omega⟩)
            go_wp2_with fail
            go_round
            case rel => exact ⟨k + 1, true, by omega, by go_num, rfl, HN⟩
            case measure => simp [intOf]; omega
      · obtain rfl : k = zs.length := by omega
        have hf : Hid (b = decide (drok zs keep)) := by have := hb.out; rw [List.take_length] at this; exact this
        clear hb
        cases b with
        | true =>
          have HR : Hid (dwe zs keep = 0) := dwe_ok (of_decide_eq_true hf.out.symm)
          go_wp2_with fail
          go_ret
          exact ⟨by rw [HR.out]; rfl, rfl⟩
        | false =>
          have HR : Hid (dwe zs keep = 2) := dwe_no (of_decide_eq_false hf.out.symm)
          go_wp2_with fail
          go_ret
          exact ⟨by rw [HR.out]; rfl, rfl⟩
  · have HB : Hid (false = decide (zs.length ≤ 400 ∧ 1 ≤ keep ∧ keep ≤ 400)) := by unfold Hid; rw [decide_eq_false (by omega)]
    go_enter Try.func108, Try.ntmps108
    go_wp2_with fail
    clear g1 g2 g3
    go_loop [5, 21] (fun s5 s21 => ∃ (k : Nat) (b : Bool), k ≤ zs.length ∧ s21 = .int .i64 k ∧ s5 = .bool b ∧ Hid (b = decide ((zs.length ≤ 400 ∧ 1 ≤ keep ∧ keep ≤ 400) ∧ dall (zs.take k)))) (fun _ s21 => zs.length - (intOf s21).toNat)
    case atStart =>
      refine ⟨0, false, Nat.zero_le _, rfl, rfl, ?_⟩
      unfold Hid; rw [HB.out]; simp [dall]
    case round =>
      obtain ⟨k, b, hk, rfl, rfl, hb⟩ := hrel
      by_cases hlt : k < zs.length
      · have i1 : (k : Int) < (zs.length : Int) := by omega
        obtain ⟨ad, rfl, _, x1⟩ := HS.out.pat hlt
        have HWT := Lib.hid (dall_take zs k hlt)
        have HN1 : Hid (b = false → false = decide ((zs.length ≤ 400 ∧ 1 ≤ keep ∧ keep ≤ 400) ∧ dall (zs.take (k + 1)))) := fun e => by
          rw [decide_eq_false]
          intro q
          have h2 := hb.out
          rw [e, decide_eq_true ⟨q.1, (HWT.out.1 q.2).1⟩] at h2
          cases h2
        have HN2 : Hid (¬ (1 ≤ pat zs k ∧ pat zs k ≤ 1048576) → false = decide ((zs.length ≤ 400 ∧ 1 ≤ keep ∧ keep ≤ 400) ∧ dall (zs.take (k + 1)))) := fun e => by
          rw [decide_eq_false]
          intro q
          exact e (HWT.out.1 q.2).2
        have HN3 : Hid (b = true → (1 ≤ pat zs k ∧ pat zs k ≤ 1048576) → true = decide ((zs.length ≤ 400 ∧ 1 ≤ keep ∧ keep ≤ 400) ∧ dall (zs.take (k + 1)))) := fun e q => by
          have h2 := hb.out
          rw [e] at h2
          have h3 := of_decide_eq_true h2.symm
          rw [decide_eq_true ⟨h3.1, HWT.out.2 ⟨h3.2, q⟩⟩]
        generalize pat zs k = z at *
        clear hb HWT
        cases b with
        | false =>
          have HN := Lib.hid (HN1.out rfl)
          go_wp2_with fail
          go_round
          case rel => exact ⟨k + 1, false, by omega, by go_num, rfl, HN⟩
          case measure => simp [intOf]; omega
        | true =>
          rcases (by omega : ¬ 0 < z ∨ (0 < z ∧ ¬ z ≤ 1048576) ∨ (0 < z ∧ z ≤ 1048576)) with q | ⟨q, q1⟩ | ⟨q, q1⟩
          · have HN := Lib.hid (HN2.out (by omega))
            go_wp2_with fail
            go_round
            case rel => exact ⟨k + 1, false, by omega, by go_num, rfl, HN⟩
            case measure => simp [intOf]; omega
          · have HN := Lib.hid (HN2.out (by omega))
            go_wp2_with fail
            go_round
            case rel => exact ⟨k + 1, false, by omega, by go_num, rfl, HN⟩
            case measure => simp [intOf]; omega
          · have HN := Lib.hid (HN3.out rfl ⟨by omega, by omega⟩)
            go_wp2_with fail
            go_round
            case rel => exact ⟨k + 1, true, by omega, by go_num, rfl, HN⟩
            case measure => simp [intOf]; omega
      · obtain rfl : k = zs.length := by omega
        have hf : Hid (b = decide (drok zs keep)) := by have := hb.out; rw [List.take_length] at this; exact this
        clear hb
        cases b with
        | true =>
          have HR : Hid (dwe zs keep = 0) := dwe_ok (of_decide_eq_true hf.out.symm)
          go_wp2_with fail
          go_ret
          exact ⟨by rw [HR.out]; rfl, rfl⟩
        | false =>
          have HR : Hid (dwe zs keep = 2) := dwe_no (of_decide_eq_false hf.out.symm)
          go_wp2_with fail
          go_ret
          exact ⟨by rw [HR.out]; rfl, rfl⟩
end Go.Proofs.Ytmnjgoicppknjaa
