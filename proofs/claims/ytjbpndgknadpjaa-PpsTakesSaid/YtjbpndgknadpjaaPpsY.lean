/- The reference's sum of the weights, at a length and a count in range. No condition. -/
import Derived.Test.YtjbpndgknadpjaaPpsX
namespace Go.Proofs.Ytjbpndgknadpjaa
open Go.ChangeShapes Go.WideShapes Go.ChangeAt Go.RowKit

set_option maxRecDepth 20000 in
set_option maxHeartbeats 1000000 in
theorem jsum_good (A : Option Addr) (zs : List Int) (c B : Nat) (many : Int) (w : World) (hs : Seg w B A (zs.map (.int .i64))) (h1 : zs.length ≤ 400) (h2 : 1 ≤ many) (h3 : many ≤ 400) :
    Calls Try.prog 10 #[.slice A zs.length c, .int .i64 many] w fun e w' => e = .returned (.tuple #[.int .i64 (psum zs many).1, .int .i64 (psum zs many).2]) ∧ w = w' := by
  have d1 : decide ((zs.length : Int) < 401) = true := decide_eq_true (by omega)
  have d2 : decide (0 < many) = true := decide_eq_true (by omega)
  have d3 : decide (many < 401) = true := decide_eq_true (by omega)
  go_enter Try.func10, Try.ntmps10
  go_wp2
  go_loop [6, 7, 23] (fun s o i => ∃ (k : Nat) (n : Int) (b : Bool), k ≤ zs.length ∧ i = .int .i64 k ∧ s = .int .i64 n ∧ o = .bool b ∧ Hid (b = decide (wok (zs.take k)) ∧ (b = true → n = (zs.take k).sum))) (fun _ _ i => zs.length - (intOf i).toNat)
  case atStart => exact ⟨0, 0, true, Nat.zero_le _, rfl, rfl, rfl, by unfold Hid wok; simp⟩
  case round =>
    obtain ⟨k, n, b, hk, rfl, rfl, rfl, hw⟩ := hrel
    by_cases hlt : k < zs.length
    · obtain ⟨ad, rfl, _, hc⟩ := hs.int hlt
      have hsum := Lib.hid (take_sum zs k hlt)
      have hwt := Lib.hid (wok_take zs k hlt)
      cases b with
      | false =>
        have hw2 : Hid (¬ wok (zs.take (k + 1))) := by
          have := hw.out.1
          unfold Hid
          rw [hwt.out]
          intro hh
          simp [hh.1] at this
        clear hwt hw
        generalize zs[k] = z at *
        go_wp2
        go_round
        case rel => exact ⟨k + 1, _, false, by omega, by go_num, rfl, rfl, by have := hw2.out; unfold Hid; simp [this]⟩
        case measure => simp [intOf]; omega
      | true =>
        have hwk : Hid (wok (zs.take k)) := by have := hw.out.1; unfold Hid; simpa [eq_comm] using this
        have hn : Hid (n = (zs.take k).sum) := hw.out.2 rfl
        obtain ⟨b1, b2⟩ := wok_sum _ hwk.out
        have b3 : (zs.take k).length ≤ 400 := by rw [List.length_take]; omega
        have hn1 : 0 ≤ n := by have := hn.out; omega
        have hn2 : n ≤ 419430400 := by have := hn.out; omega
        clear b2 b3 b1
        by_cases c1 : zs[k] < 0
        · have hw2 : Hid (¬ wok (zs.take (k + 1))) := by
            unfold Hid; rw [hwt.out]; omega
          have e1 : decide (0 ≤ zs[k]) = false := decide_eq_false (by omega)
          clear hwt hw
          generalize zs[k] = z at *
          go_wp2
          go_round
          case rel => exact ⟨k + 1, _, false, by omega, by go_num, rfl, rfl, by have := hw2.out; unfold Hid; simp [this]⟩
          case measure => simp [intOf]; omega
        by_cases c2 : 1048576 < zs[k]
        · have hw2 : Hid (¬ wok (zs.take (k + 1))) := by
            unfold Hid; rw [hwt.out]; omega
          have e1 : decide (0 ≤ zs[k]) = true := decide_eq_true (by omega)
          have e2 : decide (zs[k] ≤ 1048576) = false := decide_eq_false (by omega)
          clear hwt hw
          generalize zs[k] = z at *
          go_wp2
          go_round
          case rel => exact ⟨k + 1, _, false, by omega, by go_num, rfl, rfl, by have := hw2.out; unfold Hid; simp [this]⟩
          case measure => simp [intOf]; omega
        have hw2 : Hid (wok (zs.take (k + 1))) := hwt.out.2 ⟨hwk.out, by omega, by omega⟩
        have e1 : decide (0 ≤ zs[k]) = true := decide_eq_true (by omega)
        have e2 : decide (zs[k] ≤ 1048576) = true := decide_eq_true (by omega)
        have c3 : 0 ≤ zs[k] := by omega
        have c4 : zs[k] ≤ 1048576 := by omega
        clear hwt hw c1 c2
        generalize zs[k] = z at *
        go_wp2
        go_round
        case rel => exact ⟨k + 1, _, true, by omega, by go_num, rfl, rfl, by have := hw2.out; unfold Hid; simp [this, hsum.out, hn.out]⟩
        case measure => simp [intOf]; omega
    · have hkl : Hid (k = zs.length) := by unfold Hid; omega
      have htk : Hid (zs.take k = zs) := List.take_of_length_le (by omega)
      cases b with
      | false =>
        have hf : Hid (psum zs many = (0, 2)) := by
          have := hw.out.1
          rw [htk.out] at this
          unfold Hid psum; rw [if_neg]
          rintro ⟨_, _, _, hh⟩
          simp [hh] at this
        clear hw
        go_wp2
        go_ret2
        exact ⟨ret_psum hf.out, rfl⟩
      | true =>
        have hwz : Hid (wok zs) := by have := hw.out.1; rw [htk.out] at this; unfold Hid; simpa [eq_comm] using this
        have hn : Hid (n = zs.sum) := by have := hw.out.2 rfl; rwa [htk.out] at this
        clear hw
        by_cases hz : n = 0
        · have hf : Hid (psum zs many = (0, 3)) := by unfold Hid psum; rw [if_pos ⟨by omega, by omega, by omega, hwz.out⟩, if_pos (by rw [← hn.out]; exact hz)]
          have hb : (n == 0) = true := by simp [hz]
          clear hz
          go_wp2
          go_ret2
          exact ⟨ret_psum hf.out, rfl⟩
        · have hf : Hid (psum zs many = (n, 0)) := by unfold Hid psum; rw [if_pos ⟨by omega, by omega, by omega, hwz.out⟩, if_neg (by rw [← hn.out]; exact hz), hn.out]
          have hb : (n == 0) = false := by simpa using hz
          clear hz
          go_wp2
          go_ret2
          exact ⟨ret_psum hf.out, rfl⟩

theorem jsum_any (A : Option Addr) (zs : List Int) (c B : Nat) (many : Int) (w : World) (hs : Seg w B A (zs.map (.int .i64))) (hm : zs.length ≤ maxLen) :
    Calls Try.prog 10 #[.slice A zs.length c, .int .i64 many] w fun e w' => e = .returned (.tuple #[.int .i64 (psum zs many).1, .int .i64 (psum zs many).2]) ∧ w = w' := by
  by_cases h : zs.length ≤ 400 ∧ 1 ≤ many ∧ many ≤ 400
  · exact jsum_good A zs c B many w hs h.1 h.2.1 h.2.2
  · exact jsum_no A zs c B many w hs hm h
end Go.Proofs.Ytjbpndgknadpjaa
