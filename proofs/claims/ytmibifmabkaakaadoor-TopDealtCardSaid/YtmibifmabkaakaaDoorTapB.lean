/- Drawing one number, walked twice. No condition. -/
import Derived.Test.YtmibifmabkaakaaDoorTapW
namespace Go.Proofs.YtmibifmabkaakaaDoor
open Go.ChangeShapes Go.WideShapes Go.ChangeAt Go.RowKit
set_option linter.unusedVariables false

abbrev V3 (r : Int × Int × Int) : Ending := .returned (.tuple #[.int .i64 r.1, .int .i64 r.2.1, .int .i64 r.2.2])
theorem tb_get {t : List Bool} {i : Nat} (h : i < t.length) : tb t i = if t[i] = true then 1 else 0 := by
  unfold tb; simp [h]
set_option maxRecDepth 20000 in
set_option maxHeartbeats 4000000 in
theorem below_many (t : List Bool) (A : Option Addr) (c B N W : Nat) (w : World) (hs : Seg w B A (t.map .bool)) (hc : t.length ≤ c) (hm : (t.length : Int) ≤ 9223372036854775000) (r : Int × Int × Int) (hr : Hid (pbel t W N (t.length + 1) 0 = r)) (hN : 2 ≤ N) (hN2 : (N : Int) ≤ 1099511627776) (hW : Hid (blen (N - 1) = W)) (hW0 : 0 < W) (hW1 : W ≤ 40)
    (hwid : ∀ w, Calls Tryd.prog 91 #[.int .i64 N] w fun e w' => e = .returned (.int .i64 W) ∧ w = w') :
    Calls Tryd.prog 73 #[.slice A t.length c, .int .i64 N] w fun e w' => e = V3 r ∧ w = w' := by
  have HWD := Lib.hid hwid
  have i1 : ¬ (N : Int) < 1 := by omega
  have i2 : ¬ (1099511627776 : Int) < (N : Int) := by omega
  have HS := Lib.hid hs
  clear hwid hs
  go_enter Tryd.func73, Tryd.ntmps73
  go_wp2_with fail
  refine (HWD.out _).mono ?_
  rintro e w' ⟨rfl, rfl⟩
  go_wp2_with fail
  clear i1 i2 HWD
  go_loop [8] (fun s8 => ∃ c f : Nat, s8 = .int .i64 (c * W : Nat) ∧ c * W ≤ t.length ∧ c ≤ t.length ∧ f + c = t.length + 1 ∧ Hid (pbel t W N f c = r)) (fun s8 => t.length + 1 - (intOf s8).toNat)
  case atStart => exact ⟨0, t.length + 1, by rw [Nat.zero_mul]; rfl, by omega, by omega, by omega, hr⟩
  case round =>
    obtain ⟨k, f, rfl, hk, hk2, hf, hp⟩ := hrel
    have HKW : Hid ((k + 1) * W = k * W + W) := by unfold Hid; rw [Nat.add_mul, Nat.one_mul]
    by_cases h1 : t.length < k * W + W
    · have HE : Hid (r = (0, 0, 7)) := by unfold Hid; rw [← hp.out]; exact pbel_end (by rw [HKW.out]; exact h1)
      generalize k * W = U at *
      have i3 : (t.length : Int) - (U : Int) < (W : Int) := by omega
      go_wp2_with fail
      refine bodyPost_ret (v := .tuple #[.int .i64 0, .int .i64 0, .int .i64 7]) (by simp [results, Tryd.results73, go_sem]) rfl ⟨by rw [HE.out], rfl⟩
    · have HN := Lib.hid (show ¬ t.length < (k + 1) * W by rw [HKW.out]; exact h1)
      obtain ⟨g, hg⟩ : ∃ g, f = g + 1 := ⟨f - 1, by omega⟩
      have HHIT : Hid (tval t (k * W) W < N → r = (((tval t (k * W) W : Nat) : Int), ((k * W + W : Nat) : Int), 0)) := fun h => by
        rw [← hp.out, pbel_hit (by omega) HN.out h, HKW.out]
      have HNEXT : Hid (¬ tval t (k * W) W < N → pbel t W N g (k + 1) = r) := fun h => by
        rw [← hp.out, hg, pbel_next HN.out h]
      have hkl : k + 1 ≤ k * W + W := by
        have : k * 1 ≤ k * W := Nat.mul_le_mul_left _ hW0
        omega
      clear hp
      generalize k * W = U at *
      obtain ⟨ad, rfl, _⟩ := HS.out.bool (show 0 < t.length by omega)
      have hsg := HS.out.cut U
      rw [← List.map_drop] at hsg
      have HSG := Lib.hid hsg
      clear hsg
      have i3 : ¬ (t.length : Int) - (U : Int) < (W : Int) := by omega
      have i4 : ¬ c = U := by omega
      go_wp2_with fail
      clear i3 i4
      go_loop [9, 33] (fun s9 s33 => ∃ j : Nat, j ≤ W ∧ s33 = .int .i64 j ∧ s9 = .int .i64 (tval t U j : Nat)) (fun _ s33 => W - (intOf s33).toNat)
      case atStart => exact ⟨0, Nat.zero_le _, rfl, rfl⟩
      case round =>
        obtain ⟨j, hj, rfl, rfl⟩ := hrel
        by_cases hlt : j < W
        · have i3 : (j : Int) < (W : Int) := by omega
          have hdl : j < (t.drop U).length := by rw [List.length_drop]; omega
          obtain ⟨ad2, e2, _, hcell⟩ := HSG.out.bool hdl
          obtain rfl : ad.add U = ad2 := by injection e2
          have hb : tb t (U + j) = if (t.drop U)[j] = true then 1 else 0 := by rw [tb_get (show U + j < t.length by omega), List.getElem_drop]
          have HT : Hid (tval t U (j + 1) = 2 * tval t U j + tb t (U + j)) := rfl
          have hts := tval_small (t := t) (a := U) (m := j) (w := W) (by omega) (by omega)
          generalize (t.drop U)[j] = b at *
          generalize tval t U j = x at *
          clear e2
          have hxi : (x : Int) < 2199023255552 := by omega
          clear hts
          cases b with
          | true =>
            have HV : Hid (tval t U (j + 1) = 2 * x + 1) := by unfold Hid; rw [HT.out, hb]; rfl
            clear hb
            go_wp2_with fail
            go_round
            case rel => exact ⟨j + 1, by omega, by go_num, by rw [HV.out]; go_num⟩
            case measure => simp [intOf]; omega
          | false =>
            have HV : Hid (tval t U (j + 1) = 2 * x) := by unfold Hid; rw [HT.out, hb]; rfl
            clear hb
            go_wp2_with fail
            go_round
            case rel => exact ⟨j + 1, by omega, by go_num, by rw [HV.out]; go_num⟩
            case measure => simp [intOf]; omega
        · have i3 : ¬ (j : Int) < (W : Int) := by omega
          have hjw : j = W := by omega
          subst hjw
          have hts := tval_small (t := t) (a := U) (m := j) (w := j) (by omega) (by omega)
          have hxi : (tval t U j : Int) < 2199023255552 := by omega
          clear hts
          by_cases hx : tval t U j < N
          · have HR := Lib.hid (HHIT.out hx)
            generalize tval t U j = x at *
            have i4 : (x : Int) < (N : Int) := by omega
            go_wp2_with fail
            refine bodyPost_ret (v := .tuple #[.int .i64 x, .int .i64 (U + j : Nat), .int .i64 0]) (by simp [results, Tryd.results73, go_sem]) rfl ⟨by rw [HR.out], rfl⟩
          · have HR := Lib.hid (HNEXT.out hx)
            generalize tval t U j = x at *
            have i4 : ¬ (x : Int) < (N : Int) := by omega
            go_wp2_with fail
            go_round
            case rel => exact ⟨k + 1, g, by rw [HKW.out]; go_num, by rw [HKW.out]; omega, by omega, by omega, HR⟩
            case measure => simp [intOf]; omega
theorem below_one (t : List Bool) (A : Option Addr) (c B : Nat) (w : World) (hs : Seg w B A (t.map .bool)) (hc : t.length ≤ c) (hm : (t.length : Int) ≤ 9223372036854775000) :
    Calls Tryd.prog 73 #[.slice A t.length c, .int .i64 1] w fun e w' => e = V3 (0, 0, 0) ∧ w = w' := by
  have hwid := width_any 1
  have HWD : Hid (∀ w, Calls Tryd.prog 91 #[.int .i64 1] w fun e w' => e = .returned (.int .i64 0) ∧ w = w') := fun w => hwid w (by decide) (by decide)
  clear hwid
  cases A with
  | none =>
    go_enter Tryd.func73, Tryd.ntmps73
    go_wp2_with fail
    refine (HWD.out _).mono ?_
    rintro e w' ⟨rfl, rfl⟩
    go_wp2_with fail
    go_loop [8] (fun s8 => s8 = .int .i64 0) (fun _ => 0)
    case atStart => rfl
    case round =>
      subst hrel
      go_wp2_with fail
      go_loop [9, 33] (fun s9 s33 => s9 = .int .i64 0 ∧ s33 = .int .i64 0) (fun _ _ => 0)
      case atStart => exact ⟨rfl, rfl⟩
      case round =>
        obtain ⟨rfl, rfl⟩ := hrel
        go_wp2_with fail
        refine bodyPost_ret (v := .tuple #[.int .i64 0, .int .i64 0, .int .i64 0]) (by simp [results, Tryd.results73, go_sem]) rfl ⟨rfl, rfl⟩
  | some ad =>
    go_enter Tryd.func73, Tryd.ntmps73
    go_wp2_with fail
    refine (HWD.out _).mono ?_
    rintro e w' ⟨rfl, rfl⟩
    go_wp2_with fail
    go_loop [8] (fun s8 => s8 = .int .i64 0) (fun _ => 0)
    case atStart => rfl
    case round =>
      subst hrel
      go_wp2_with fail
      go_loop [9, 33] (fun s9 s33 => s9 = .int .i64 0 ∧ s33 = .int .i64 0) (fun _ _ => 0)
      case atStart => exact ⟨rfl, rfl⟩
      case round =>
        obtain ⟨rfl, rfl⟩ := hrel
        go_wp2_with fail
        refine bodyPost_ret (v := .tuple #[.int .i64 0, .int .i64 0, .int .i64 0]) (by simp [results, Tryd.results73, go_sem]) rfl ⟨rfl, rfl⟩
theorem pbelow_one (t : List Bool) : pbelow t 1 = (0, 0, 0) := by
  unfold pbelow
  rw [if_neg (by omega)]
  exact pbel_hit (by omega) (by rw [show blen ((1 : Int) - 1).toNat = 0 from rfl, Nat.mul_zero]; omega) (show tval t _ 0 < 1 from Nat.one_pos)
theorem below_bad (t : List Bool) (A : Option Addr) (c : Nat) (n : Int) (w : World) (h : n < 1 ∨ 1099511627776 < n) :
    Calls Tryd.prog 73 #[.slice A t.length c, .int .i64 n] w fun e w' => e = V3 (0, 0, 2) ∧ w = w' := by
  by_cases h1 : n < 1
  · clear h
    go_enter Tryd.func73, Tryd.ntmps73
    go_wp2_with fail
    refine bodyPost_ret (v := .tuple #[.int .i64 0, .int .i64 0, .int .i64 2]) (by simp [results, Tryd.results73, go_sem]) rfl ⟨rfl, rfl⟩
  · have h2 : (1099511627776 : Int) < n := by omega
    clear h
    go_enter Tryd.func73, Tryd.ntmps73
    go_wp2_with fail
    refine bodyPost_ret (v := .tuple #[.int .i64 0, .int .i64 0, .int .i64 2]) (by simp [results, Tryd.results73, go_sem]) rfl ⟨rfl, rfl⟩
theorem below_any (t : List Bool) (A : Option Addr) (c B : Nat) (n : Int) (w : World) (hs : Seg w B A (t.map .bool)) (hc : t.length ≤ c) (hm : (t.length : Int) ≤ 9223372036854775000) :
    Calls Tryd.prog 73 #[.slice A t.length c, .int .i64 n] w fun e w' => e = V3 (pbelow t n) ∧ w = w' := by
  by_cases h : n < 1 ∨ 1099511627776 < n
  · rw [show pbelow t n = (0, 0, 2) from if_pos h]; exact below_bad t A c n w h
  · by_cases h1 : n = 1
    · subst h1; rw [pbelow_one]; exact below_one t A c B w hs hc hm
    · obtain ⟨N, rfl⟩ : ∃ N : Nat, n = N := ⟨n.toNat, by omega⟩
      have hb : blen (N - 1) = blen (((N : Int) - 1).toNat) := by congr 1; omega
      have h0 : 0 < blen (N - 1) := by unfold blen; rw [if_neg (by omega)]; omega
      refine below_many t A c B N (blen (N - 1)) w hs hc hm _ ?_ (by omega) (by omega) rfl h0 (blen_le (by omega)) (fun w => width_any N w (by omega) (by omega))
      rw [show pbelow t N = pbel t (blen (((N : Int) - 1).toNat)) (N : Int).toNat (t.length + 1) 0 from if_neg h, ← hb]
      rfl
end Go.Proofs.YtmibifmabkaakaaDoor
