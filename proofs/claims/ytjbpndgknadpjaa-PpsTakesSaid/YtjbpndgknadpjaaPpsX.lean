/- Sums of weights of package pps, and the reference's, walked. No condition. -/
import Derived.Test.YtjbpndgknadpjaaPpsW
namespace Go.Proofs.Ytjbpndgknadpjaa
open Go.ChangeShapes Go.WideShapes Go.ChangeAt Go.RowKit

set_option maxRecDepth 20000 in
set_option maxHeartbeats 1000000 in
theorem jsum_no (A : Option Addr) (zs : List Int) (c B : Nat) (many : Int) (w : World) (hs : Seg w B A (zs.map (.int .i64))) (hm : zs.length ≤ maxLen) (h : ¬ (zs.length ≤ 400 ∧ 1 ≤ many ∧ many ≤ 400)) :
    Calls Try.prog 10 #[.slice A zs.length c, .int .i64 many] w fun e w' => e = .returned (.tuple #[.int .i64 (psum zs many).1, .int .i64 (psum zs many).2]) ∧ w = w' := by
  have hf : Hid (psum zs many = (0, 2)) := by unfold Hid psum; rw [if_neg (fun hh => h ⟨hh.1, hh.2.1, hh.2.2.1⟩)]
  unfold maxLen at hm
  have HM := Lib.hid hm
  clear hm
  by_cases h1 : 400 < zs.length
  · have d1 : decide ((zs.length : Int) < 401) = false := decide_eq_false (by omega)
    clear h
    go_enter Try.func10, Try.ntmps10
    go_wp2
    go_loop [6, 7, 23] (fun s o i => ∃ (k : Nat) (n : Int), k ≤ zs.length ∧ i = .int .i64 k ∧ s = .int .i64 n ∧ o = .bool false) (fun _ _ i => zs.length - (intOf i).toNat)
    case atStart => exact ⟨0, 0, Nat.zero_le _, rfl, rfl, rfl⟩
    case round =>
      obtain ⟨k, n, hk, rfl, rfl, rfl⟩ := hrel
      by_cases hlt : k < zs.length
      · have hm := HM.out
        obtain ⟨ad, rfl, _, hc⟩ := hs.int hlt
        generalize zs[k] = z at *
        go_wp2
        go_round
        case rel => exact ⟨k + 1, _, by omega, by go_num, rfl, rfl⟩
        case measure => simp [intOf]; omega
      · go_wp2
        go_ret2
        exact ⟨ret_psum hf.out, rfl⟩
  by_cases h2 : many < 1
  · have d1 : decide ((zs.length : Int) < 401) = true := decide_eq_true (by omega)
    have d2 : decide (0 < many) = false := decide_eq_false (by omega)
    clear h
    go_enter Try.func10, Try.ntmps10
    go_wp2
    go_loop [6, 7, 23] (fun s o i => ∃ (k : Nat) (n : Int), k ≤ zs.length ∧ i = .int .i64 k ∧ s = .int .i64 n ∧ o = .bool false) (fun _ _ i => zs.length - (intOf i).toNat)
    case atStart => exact ⟨0, 0, Nat.zero_le _, rfl, rfl, rfl⟩
    case round =>
      obtain ⟨k, n, hk, rfl, rfl, rfl⟩ := hrel
      by_cases hlt : k < zs.length
      · have hm := HM.out
        obtain ⟨ad, rfl, _, hc⟩ := hs.int hlt
        generalize zs[k] = z at *
        go_wp2
        go_round
        case rel => exact ⟨k + 1, _, by omega, by go_num, rfl, rfl⟩
        case measure => simp [intOf]; omega
      · go_wp2
        go_ret2
        exact ⟨ret_psum hf.out, rfl⟩
  have h3 : 400 < many := by omega
  · have d1 : decide ((zs.length : Int) < 401) = true := decide_eq_true (by omega)
    have d2 : decide (0 < many) = true := decide_eq_true (by omega)
    have d3 : decide (many < 401) = false := decide_eq_false (by omega)
    clear h
    go_enter Try.func10, Try.ntmps10
    go_wp2
    go_loop [6, 7, 23] (fun s o i => ∃ (k : Nat) (n : Int), k ≤ zs.length ∧ i = .int .i64 k ∧ s = .int .i64 n ∧ o = .bool false) (fun _ _ i => zs.length - (intOf i).toNat)
    case atStart => exact ⟨0, 0, Nat.zero_le _, rfl, rfl, rfl⟩
    case round =>
      obtain ⟨k, n, hk, rfl, rfl, rfl⟩ := hrel
      by_cases hlt : k < zs.length
      · have hm := HM.out
        obtain ⟨ad, rfl, _, hc⟩ := hs.int hlt
        generalize zs[k] = z at *
        go_wp2
        go_round
        case rel => exact ⟨k + 1, _, by omega, by go_num, rfl, rfl⟩
        case measure => simp [intOf]; omega
      · go_wp2
        go_ret2
        exact ⟨ret_psum hf.out, rfl⟩
end Go.Proofs.Ytjbpndgknadpjaa
