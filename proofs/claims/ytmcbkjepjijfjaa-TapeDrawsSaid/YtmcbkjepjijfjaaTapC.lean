/- Drawing one number, by the reference, walked. No condition. -/
import Derived.Test.YtmcbkjepjijfjaaTapB
namespace Go.Proofs.Ytmcbkjepjijfjaa
open Go.ChangeShapes Go.WideShapes Go.ChangeAt Go.RowKit
set_option linter.unusedVariables false

set_option maxRecDepth 20000 in
set_option maxHeartbeats 4000000 in
theorem bbelow_many (t : List Bool) (A : Option Addr) (c B N W : Nat) (w : World) (hs : Seg w B A (t.map .bool)) (hm : (t.length : Int) ≤ 9223372036854775000) (r : Int × Int × Int) (hr : Hid (pbel t W N (t.length + 1) 0 = r)) (hN : 2 ≤ N) (hN2 : (N : Int) ≤ 1099511627776) (hW : Hid (blen (N - 1) = W)) (hW0 : 0 < W) (hW1 : W ≤ 40) :
    Calls Try.prog 32 #[.slice A t.length c, .int .i64 N] w fun e w' => e = V3 r ∧ w = w' := by
  have i1 : ¬ (N : Int) < 1 := by omega
  have i2 : ¬ (1099511627776 : Int) < (N : Int) := by omega
  have i3 : (N : Int) - 1 = ((N - 1 : Nat) : Int) := by omega
  have HS := Lib.hid hs
  clear hs
  obtain ⟨M, hM⟩ : ∃ M, M = N - 1 := ⟨_, rfl⟩
  have hM1 : (M : Int) < 1099511627776 := by omega
  rw [← hM] at i3 hW
  clear hM
  go_enter Try.func32, Try.ntmps32
  go_wp2_with fail
  clear i1 i2 i3
  go_loop [7, 8] (fun s7 s8 => ∃ k y : Nat, s7 = .int .i64 k ∧ s8 = .int .i64 y ∧ k + blen y = W ∧ y ≤ M) (fun _ s8 => (intOf s8).toNat)
  case atStart => exact ⟨0, M, rfl, rfl, by rw [hW.out]; omega, Nat.le_refl _⟩
  case round =>
    obtain ⟨k, y, rfl, rfl, hky, hyM⟩ := hrel
    by_cases hy : 0 < y
    · have hh := blen_half (m := y) (by omega)
      have i4 : 0 < (y : Int) := by omega
      have hc1 : (y : Int) / 2 = ((y / 2 : Nat) : Int) := (Int.natCast_ediv _ _).symm
      have hle : y / 2 ≤ y := Nat.div_le_self _ _
      have HL : Hid (y / 2 < y) := by unfold Hid; omega
      generalize y / 2 = z at *
      go_wp2_with fail
      go_round
      case rel => exact ⟨k + 1, z, by go_num, by go_num, by omega, by omega⟩
      case measure => have := HL.out; simp [intOf]; omega
    · obtain rfl : y = 0 := by omega
      rw [blen_zero] at hky
      obtain rfl : k = W := by omega
      have i4 : ((k : Int) == 0) = false := by simp; omega
      go_wp2_with fail
      go_loop [9, 10, 31] (fun s9 s10 s31 => ∃ q i f : Nat, s31 = .int .i64 (q * k + i : Nat) ∧ s9 = .int .i64 (tval t (q * k) i : Nat) ∧ s10 = .int .i64 i ∧ i < k ∧ q * k + i ≤ t.length ∧ f + q = t.length + 1 ∧ Hid (pbel t k N f q = r)) (fun _ _ s31 => t.length - (intOf s31).toNat)
      case atStart => exact ⟨0, 0, t.length + 1, by rw [Nat.zero_mul]; rfl, rfl, rfl, hW0, by omega, by omega, hr⟩
      case round =>
        obtain ⟨q, i, f, rfl, rfl, rfl, hik, hqi, hf, hp⟩ := hrel
        have HKW : Hid ((q + 1) * k = q * k + k) := by unfold Hid; rw [Nat.add_mul, Nat.one_mul]
        have hkl : q ≤ q * k := Nat.le_mul_of_pos_right _ hW0
        by_cases hlt : q * k + i < t.length
        · have HHIT : Hid (¬ t.length < q * k + k → tval t (q * k) k < N → r = (((tval t (q * k) k : Nat) : Int), ((q * k + k : Nat) : Int), 0)) := fun h0 h => by
            rw [← hp.out, pbel_hit (by omega) (by rw [HKW.out]; exact h0) h, HKW.out]
          have HNEXT : Hid (¬ t.length < q * k + k → ¬ tval t (q * k) k < N → pbel t k N (f - 1) (q + 1) = r) := fun h0 h => by
            obtain ⟨g, rfl⟩ : ∃ g, f = g + 1 := ⟨f - 1, by omega⟩
            rw [← hp.out, pbel_next (by rw [HKW.out]; exact h0) h]; rfl
          have HTW : Hid (tval t (q * k) (i + 1) = 2 * tval t (q * k) i + tb t (q * k + i)) := rfl
          have hts := tval_small (t := t) (a := q * k) (m := i) (w := k) (by omega) (by omega)
          have hxi : (tval t (q * k) i : Int) < 2199023255552 := by omega
          clear hts
          obtain ⟨ad, rfl, _, hcell⟩ := HS.out.bool hlt
          have hb := tb_get hlt
          have i5 : ((q * k + i : Nat) : Int) < (t.length : Int) := by omega
          by_cases hi1 : i + 1 = k
          · have i6 : (((i : Int) + 1) == (k : Int)) = true := by simp; omega
            have hnl : ¬ t.length < q * k + k := by omega
            have HTE : Hid (tval t (q * k) k = 2 * tval t (q * k) i + tb t (q * k + i)) := by have h := HTW.out; rw [hi1] at h; exact h
            have HH2 := Lib.hid (HHIT.out hnl)
            have HN2 := Lib.hid (HNEXT.out hnl)
            have HPK : Hid (q * k + k = q * k + i + 1) := by unfold Hid; omega
            clear HHIT HNEXT HTW hp
            rw [HTE.out] at HH2 HN2
            clear HTE
            generalize hU : q * k = U at *
            generalize tval t U i = x at *
            generalize hP : U + i = P at *
            generalize t[P] = b at *
            have hPi : (P : Int) + 1 ≤ 9223372036854775000 := by omega
            cases b with
            | true =>
              rw [hb, if_pos rfl] at HH2 HN2
              clear hb
              by_cases hx : 2 * x + 1 < N
              · have HR := Lib.hid (HH2.out hx)
                have i7 : 2 * (x : Int) + 1 < (N : Int) := by omega
                go_wp2_with fail
                refine bodyPost_ret (v := .tuple #[.int .i64 (2 * x + 1 : Nat), .int .i64 (P + 1 : Nat), .int .i64 0]) (by simp [results, Try.results32, go_sem]) rfl ⟨by rw [HR.out, HPK.out], rfl⟩
              · have HR := Lib.hid (HN2.out hx)
                have i7 : ¬ 2 * (x : Int) + 1 < (N : Int) := by omega
                go_wp2_with fail
                go_round
                case rel => exact ⟨q + 1, 0, f - 1, by rw [HKW.out, Nat.add_zero, HPK.out]; go_num, rfl, rfl, hW0, by rw [HKW.out]; omega, by omega, HR⟩
                case measure => simp [intOf]; omega
            | false =>
              rw [hb, if_neg (by decide), Nat.add_zero] at HH2 HN2
              clear hb
              by_cases hx : 2 * x < N
              · have HR := Lib.hid (HH2.out hx)
                have i7 : 2 * (x : Int) < (N : Int) := by omega
                go_wp2_with fail
                refine bodyPost_ret (v := .tuple #[.int .i64 (2 * x : Nat), .int .i64 (P + 1 : Nat), .int .i64 0]) (by simp [results, Try.results32, go_sem]) rfl ⟨by rw [HR.out, HPK.out], rfl⟩
              · have HR := Lib.hid (HN2.out hx)
                have i7 : ¬ 2 * (x : Int) < (N : Int) := by omega
                go_wp2_with fail
                go_round
                case rel => exact ⟨q + 1, 0, f - 1, by rw [HKW.out, Nat.add_zero, HPK.out]; go_num, rfl, rfl, hW0, by rw [HKW.out]; omega, by omega, HR⟩
                case measure => simp [intOf]; omega
          · have i6 : (((i : Int) + 1) == (k : Int)) = false := by simp; omega
            have HP0 := Lib.hid hp
            clear HHIT HNEXT hp
            generalize hU : q * k = U at *
            generalize tval t U i = x at *
            have HPK : Hid (U + (i + 1) = U + i + 1) := rfl
            generalize hP : U + i = P at *
            generalize t[P] = b at *
            have hPi : (P : Int) + 1 ≤ 9223372036854775000 := by omega
            cases b with
            | true =>
              have HV : Hid (tval t U (i + 1) = 2 * x + 1) := by unfold Hid; rw [HTW.out, hb]; rfl
              clear hb
              go_wp2_with fail
              go_round
              case rel => exact ⟨q, i + 1, f, by rw [hU, HPK.out]; go_num, by rw [hU, HV.out]; go_num, by go_num, by omega, by rw [hU]; omega, hf, HP0⟩
              case measure => simp [intOf]; omega
            | false =>
              have HV : Hid (tval t U (i + 1) = 2 * x) := by unfold Hid; rw [HTW.out, hb]; rfl
              clear hb
              go_wp2_with fail
              go_round
              case rel => exact ⟨q, i + 1, f, by rw [hU, HPK.out]; go_num, by rw [hU, HV.out]; go_num, by go_num, by omega, by rw [hU]; omega, hf, HP0⟩
              case measure => simp [intOf]; omega
        · have HE : Hid (r = (0, 0, 7)) := by unfold Hid; rw [← hp.out]; exact pbel_end (by rw [HKW.out]; omega)
          have i5 : ¬ ((q * k + i : Nat) : Int) < (t.length : Int) := by omega
          generalize q * k = U at *
          generalize tval t U i = x at *
          generalize U + i = P at *
          go_wp2_with fail
          refine bodyPost_ret (v := .tuple #[.int .i64 0, .int .i64 0, .int .i64 7]) (by simp [results, Try.results32, go_sem]) rfl ⟨by rw [HE.out], rfl⟩
theorem bbelow_one (t : List Bool) (A : Option Addr) (c : Nat) (w : World) :
    Calls Try.prog 32 #[.slice A t.length c, .int .i64 1] w fun e w' => e = V3 (0, 0, 0) ∧ w = w' := by
  go_enter Try.func32, Try.ntmps32
  go_wp2_with fail
  go_loop [7, 8] (fun s7 s8 => s7 = .int .i64 0 ∧ s8 = .int .i64 0) (fun _ _ => 0)
  case atStart => exact ⟨rfl, rfl⟩
  case round =>
    obtain ⟨rfl, rfl⟩ := hrel
    go_wp2_with fail
    refine bodyPost_ret (v := .tuple #[.int .i64 0, .int .i64 0, .int .i64 0]) (by simp [results, Try.results32, go_sem]) rfl ⟨rfl, rfl⟩
theorem bbelow_bad (t : List Bool) (A : Option Addr) (c : Nat) (n : Int) (w : World) (h : n < 1 ∨ 1099511627776 < n) :
    Calls Try.prog 32 #[.slice A t.length c, .int .i64 n] w fun e w' => e = V3 (0, 0, 2) ∧ w = w' := by
  by_cases h1 : n < 1
  · clear h
    go_enter Try.func32, Try.ntmps32
    go_wp2_with fail
    refine bodyPost_ret (v := .tuple #[.int .i64 0, .int .i64 0, .int .i64 2]) (by simp [results, Try.results32, go_sem]) rfl ⟨rfl, rfl⟩
  · have h2 : (1099511627776 : Int) < n := by omega
    clear h
    go_enter Try.func32, Try.ntmps32
    go_wp2_with fail
    refine bodyPost_ret (v := .tuple #[.int .i64 0, .int .i64 0, .int .i64 2]) (by simp [results, Try.results32, go_sem]) rfl ⟨rfl, rfl⟩
theorem bbelow_any (t : List Bool) (A : Option Addr) (c B : Nat) (n : Int) (w : World) (hs : Seg w B A (t.map .bool)) (hm : (t.length : Int) ≤ 9223372036854775000) :
    Calls Try.prog 32 #[.slice A t.length c, .int .i64 n] w fun e w' => e = V3 (pbelow t n) ∧ w = w' := by
  by_cases h : n < 1 ∨ 1099511627776 < n
  · rw [show pbelow t n = (0, 0, 2) from if_pos h]; exact bbelow_bad t A c n w h
  · by_cases h1 : n = 1
    · subst h1; rw [pbelow_one]; exact bbelow_one t A c w
    · obtain ⟨N, rfl⟩ : ∃ N : Nat, n = N := ⟨n.toNat, by omega⟩
      have hb : blen (N - 1) = blen (((N : Int) - 1).toNat) := by congr 1; omega
      have h0 : 0 < blen (N - 1) := by unfold blen; rw [if_neg (by omega)]; omega
      refine bbelow_many t A c B N (blen (N - 1)) w hs hm _ ?_ (by omega) (by omega) rfl h0 (blen_le (by omega))
      rw [show pbelow t N = pbel t (blen (((N : Int) - 1).toNat)) (N : Int).toNat (t.length + 1) 0 from if_neg h, ← hb]
      rfl
end Go.Proofs.Ytmcbkjepjijfjaa
