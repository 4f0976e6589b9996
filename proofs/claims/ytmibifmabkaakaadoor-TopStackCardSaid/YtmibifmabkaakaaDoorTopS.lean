/- The statement TopStack, walked. No condition but the library's tables. -/
import Derived.Test.YtmibifmabkaakaaDoorBenD
import Derived.Test.YtmibifmabkaakaaDoorTopM
namespace Go.Proofs.YtmibifmabkaakaaDoor
open Go.ChangeShapes Go.WideShapes Go.ChangeAt Go.RowKit
set_option linter.unusedVariables false

theorem pat_cell {w : World} {B : Nat} {A : Option Addr} {p : List Int} (h : Seg w B A (p.map (.int .i64))) {i : Nat} (hi : i < p.length) : ∃ ad, A = some ad ∧ w.cell? (ad.add i) = some (.int .i64 (pat p i)) := by
  obtain ⟨ad, e, _, hc⟩ := h.int hi
  exact ⟨ad, e, by rw [pat_get hi]; exact hc⟩
set_option maxRecDepth 20000 in
set_option maxHeartbeats 4000000 in
theorem TopStack_walk (n : Int) (w : World) (hn : (Lit.int .i64 n).wf = true) (hL : LibW w) :
    Calls Tryd.prog 3 #[.int .i64 n] w fun e w' => e = .returned (.bool true) ∧ Below w.heap.size w w' := by
  have HA := Lib.hid (alive_any w hL)
  clear hn hL
  rcases (by omega : n < 0 ∨ (¬ n < 0 ∧ 6 < n) ∨ (¬ n < 0 ∧ ¬ 6 < n)) with h1 | ⟨h1, h2⟩ | ⟨h1, h2⟩
  · go_enter Tryd.func3, Tryd.ntmps3
    go_wp2_with fail
    refine HA.out.mono ?_
    rintro e w2 ⟨rfl, hb2⟩
    have HB2 := Lib.hid hb2
    clear hb2
    go_wp2_with fail
    go_ret
    exact ⟨rfl, HB2.out⟩
  · go_enter Tryd.func3, Tryd.ntmps3
    go_wp2_with fail
    refine HA.out.mono ?_
    rintro e w2 ⟨rfl, hb2⟩
    have HB2 := Lib.hid hb2
    clear hb2
    go_wp2_with fail
    go_ret
    exact ⟨rfl, HB2.out⟩
  · obtain ⟨N, rfl⟩ : ∃ N : Nat, n = N := ⟨n.toNat, by omega⟩
    have hN6 : N ≤ 6 := by omega
    have HN6 := Lib.hid hN6
    have HF := Lib.hid (stack_facts ⟨N, by omega⟩)
    simp only at HF
    have HCA : Hid (∀ u, Calls Tryd.prog 13 #[.int .i64 (N : Nat)] u fun e w' => e = .returned (.tuple #[.int .i64 (cntOk N (fct N) : Nat), .int .i64 0]) ∧ Below u.heap.size u w') := fun u => by
      have h := catalan_any (N : Int) u
      have hb : catB (N : Int) = false := by unfold catB; rw [decide_eq_false (by omega), decide_eq_false (by omega)]; rfl
      unfold WOut at h
      rw [hb, if_neg (by simp), if_neg (by simp), Int.toNat_natCast, ← HF.out.2.1] at h
      exact h
    clear hN6
    go_enter Tryd.func3, Tryd.ntmps3
    go_wp2_with fail
    refine HA.out.mono ?_
    rintro e w2 ⟨rfl, hb2⟩
    have HB2 := Lib.hid hb2
    clear hb2
    go_wp2_with fail
    clear h1 h2
    --LOOK1
    go_loopw [3, 5] (fun s3 s5 wx => ∃ k : Nat, 1 ≤ k ∧ (k ≤ N ∨ k = 1) ∧ s5 = .int .i64 ((k : Int) + 1) ∧ s3 = .int .i64 (fct k : Nat) ∧ wx = w2) (fun _ s5 _ => N + 2 - (intOf s5).toNat)
    case atStart => exact ⟨1, Nat.le_refl _, Or.inr rfl, rfl, rfl, rfl⟩
    case round =>
      obtain ⟨k, hk1, hkN, rfl, rfl, rfl⟩ := hrel
      by_cases hlt : k + 1 ≤ N
      · have i1 : (k : Int) + 1 ≤ (N : Int) := by omega
        have hf := (fct_small ⟨k + 1, by have := HN6.out; omega⟩).1
        have HFM : Hid (wrap64 ((fct k : Nat) * ((k : Int) + 1)) = (fct (k + 1) : Nat)) := by
          have e : ((fct (k + 1) : Nat) : Int) = (fct k : Nat) * ((k : Int) + 1) := by
            show (((k + 1) * fct k : Nat) : Int) = _
            rw [Int.natCast_mul, Int.mul_comm]; rfl
          unfold Hid
          rw [← e]
          simp only at hf
          rw [wr64 _ (by omega) (by omega)]
        have HUI : Hid (wrap64 ((k : Int) + 1 + 1) = ((k + 1 : Nat) : Int) + 1) := by have := HN6.out; unfold Hid; rw [wr64 _ (by omega) (by omega)]; omega
        have HK := Lib.hid hlt
        clear hf hlt hk1 hkN
        go_wp2_with fail
        go_roundw
        case rel => exact ⟨k + 1, by omega, Or.inl HK.out, by first | rfl | exact congrArg (Value.int .i64) HUI.out, by first | rfl | exact congrArg (Value.int .i64) HFM.out, by first | rfl | trivial⟩
        case measure => first | (rw [HUI.out]; have := HK.out; simp [intOf]; omega) | (have := HK.out; simp [intOf]; omega)
      · have HKF : Hid (fct k = fct N) := by
          rcases hkN with h | h
          · exact congrArg fct (show k = N by omega)
          · subst h
            have a1 := (fct_small ⟨N, by have := HN6.out; omega⟩).2 (by show N ≤ 1; omega)
            exact a1.symm
        rw [HKF.out]
        have i1 : ¬ (k : Int) + 1 ≤ (N : Int) := by omega
        obtain ⟨F, hF⟩ : ∃ F, F = fct N := ⟨_, rfl⟩
        obtain ⟨CN, hCN⟩ : ∃ CN, CN = cntOk N (fct N) := ⟨_, rfl⟩
        rw [← hCN] at HCA
        have HCN : Hid (CN = cntOk N F) := by rw [hF]; exact hCN
        rw [← hF] at HF ⊢
        have HFX : Hid (F ≤ 720 ∧ ∀ r : Nat, r < F → (atL (N : Int) (r : Int)).length = N ∧ atE (N : Int) (r : Int) = 0) := by
          refine ⟨HF.out.2.2, fun r hr => ?_⟩
          exact HF.out.1 ⟨r, Nat.lt_of_lt_of_le hr HF.out.2.2⟩ hr
        clear hlt hk1 hkN HKF hF hCN HF
        go_wp2_with fail
        clear i1
        go_loopw [4, 32] (fun s4 s32 wx => ∃ r : Nat, r ≤ F ∧ s32 = .int .i64 r ∧ s4 = .int .i64 (cntOk N r : Nat) ∧ Hid (Below w.heap.size w wx)) (fun _ s32 _ => F - (intOf s32).toNat)
        case atStart => exact ⟨0, Nat.zero_le _, rfl, rfl, HB2.out⟩
        case round =>
          obtain ⟨r, hrF, rfl, rfl, HBX⟩ := hrel
          obtain ⟨M, hM⟩ : ∃ M, M = cntOk N r := ⟨_, rfl⟩
          rw [← hM]
          have HM := Lib.hid hM
          clear hM
          by_cases hrl : r < F
          · have i1 : (r : Int) < (F : Int) := by omega
            obtain ⟨g1, g2⟩ := HFX.out.2 r hrl
            obtain ⟨p, hp⟩ : ∃ p, p = atL (N : Int) (r : Int) := ⟨_, rfl⟩
            have HAT : Hid (∀ u, Calls Tryd.prog 12 #[.int .i64 (N : Nat), .int .i64 (r : Nat)] u fun e w' => ∃ A c, e = .returned (.tuple #[.slice A N c, .int .i64 0]) ∧ Seg w' w'.heap.size A (p.map (.int .i64)) ∧ Below u.heap.size u w') := fun u => by
              have h := at_any (N : Int) (r : Int) u (by have := HFX.out.1; omega)
              rw [g2] at h
              exact h.mono fun e w' ⟨A, c, h1, _, h3, h4⟩ => ⟨A, c, by rw [h1, g1], by rw [hp]; exact h3, h4⟩
            have HPL : Hid (p.length = N) := by rw [hp]; exact g1
            have HST : Hid (cntOk N (r + 1) = M + if okI p N then 1 else 0) := by unfold Hid; rw [HM.out, hp]; rfl
            have HML : Hid (M ≤ r) := by rw [HM.out]; exact cnt_le N r
            have uM : wrap64 ((M : Int) + 1) = ((M + 1 : Nat) : Int) := by have := HML.out; have := HFX.out.1; rw [wr64 _ (by omega) (by omega)]; omega
            have HUM := Lib.hid uM
            have HUR : Hid (wrap64 ((r : Int) + 1) = ((r + 1 : Nat) : Int)) := by have := HFX.out.1; unfold Hid; rw [wr64 _ (by omega) (by omega)]; omega
            have HRL := Lib.hid hrl
            clear g1 g2 hp hrl hrF uM
            go_wp2_with fail
            refine (HAT.out _).mono ?_
            rintro e w6 ⟨A6, c6, rfl, hs6, hb6⟩
            have HS6 := Lib.hid hs6
            have HB6 : Hid (Below w.heap.size w w6) := HBX.out.trans (hb6.mono HBX.out.size)
            clear hs6 hb6 HBX HAT
            go_wp2_with fail
            --LOOK2
            clear i1
            go_loopw [9, 51] (fun s9 s51 wx => ∃ i m : Nat, i ≤ N ∧ s51 = .int .i64 i ∧ s9 = .bool (okI p i) ∧ wx = w6.drewN m) (fun _ s51 _ => N - (intOf s51).toNat)
            case atStart => exact ⟨0, 0, Nat.zero_le _, rfl, rfl, rfl⟩
            case round =>
              obtain ⟨i, m, hiN, rfl, rfl, rfl⟩ := hrel
              by_cases hil : i < N
              · have i2 : (i : Int) < (N : Int) := by omega
                have HUI : Hid (wrap64 ((i : Int) + 1) = ((i + 1 : Nat) : Int)) := by have := HN6.out; unfold Hid; rw [wr64 _ (by omega) (by omega)]; omega
                have HIL := Lib.hid hil
                clear hil hiN
                go_wp2_with fail
                clear i2
                go_loopw [9, 55] (fun s9 s55 wx => ∃ j m : Nat, j ≤ i ∧ s55 = .int .i64 j ∧ s9 = .bool (okI p i && okJ p i j) ∧ wx = w6.drewN m) (fun _ s55 _ => i - (intOf s55).toNat)
                case atStart => exact ⟨0, m, Nat.zero_le _, rfl, by rw [okJ, Bool.and_true], rfl⟩
                case round =>
                  obtain ⟨j, m, hji, rfl, rfl, rfl⟩ := hrel
                  by_cases hjl : j < i
                  · have i3 : (j : Int) < (i : Int) := by omega
                    have HUJ : Hid (wrap64 ((j : Int) + 1) = ((j + 1 : Nat) : Int)) := by have := HN6.out; have := HIL.out; unfold Hid; rw [wr64 _ (by omega) (by omega)]; omega
                    have HJL := Lib.hid hjl
                    clear hjl hji
                    go_wp2_with fail
                    clear i3
                    go_loopw [9, 59] (fun s9 s59 wx => ∃ k m : Nat, k ≤ j ∧ s59 = .int .i64 k ∧ s9 = .bool ((okI p i && okJ p i j) && okK p i j k) ∧ wx = w6.drewN m) (fun _ s59 _ => j - (intOf s59).toNat)
                    case atStart => exact ⟨0, m, Nat.zero_le _, rfl, by rw [okK, Bool.and_true], rfl⟩
                    case round =>
                      obtain ⟨k, m, hkj, rfl, rfl, rfl⟩ := hrel
                      by_cases hkl : k < j
                      · have i4 : (k : Int) < (j : Int) := by omega
                        have HUK : Hid (wrap64 ((k : Int) + 1) = ((k + 1 : Nat) : Int)) := by have := HN6.out; have := HIL.out; have := HJL.out; unfold Hid; rw [wr64 _ (by omega) (by omega)]; omega
                        have HKL := Lib.hid hkl
                        have x1 : (k : Int) < (N : Int) := by have := HIL.out; have := HJL.out; omega
                        have x2 : (j : Int) < (N : Int) := by have := HIL.out; have := HJL.out; omega
                        have x3 : (i : Int) < (N : Int) := by have := HIL.out; omega
                        obtain ⟨ad, e1, c1⟩ := pat_cell HS6.out (i := i) (by rw [HPL.out]; omega)
                        obtain ⟨ad2, e2, c2⟩ := pat_cell HS6.out (i := j) (by rw [HPL.out]; omega)
                        obtain ⟨ad3, e3, c3⟩ := pat_cell HS6.out (i := k) (by rw [HPL.out]; omega)
                        rw [e1] at e2 e3
                        injection e2 with e2
                        injection e3 with e3
                        subst e1 e2 e3
                        have HOK : Hid (okK p i j (k + 1) = (okK p i j k && !(decide (pat p i < pat p k) && decide (pat p k < pat p j)))) := rfl
                        obtain ⟨ob, hob⟩ : ∃ ob, ob = ((okI p i && okJ p i j) && okK p i j k) := ⟨_, rfl⟩
                        have HRS : Hid (((okI p i && okJ p i j) && okK p i j (k + 1)) = (ob && !(decide (pat p i < pat p k) && decide (pat p k < pat p j)))) := by unfold Hid; rw [HOK.out, hob, Bool.and_assoc, Bool.and_assoc, Bool.and_assoc]
                        rw [← hob]
                        obtain ⟨pi, hpi⟩ : ∃ pi, pi = pat p i := ⟨_, rfl⟩
                        obtain ⟨pj, hpj⟩ : ∃ pj, pj = pat p j := ⟨_, rfl⟩
                        obtain ⟨pk, hpk⟩ : ∃ pk, pk = pat p k := ⟨_, rfl⟩
                        rw [← hpi] at c1
                        rw [← hpj] at c2
                        rw [← hpk] at c3
                        rw [← hpi, ← hpj, ← hpk] at HRS
                        obtain ⟨t1, ht1⟩ : ∃ t1, t1 = decide (pi < pk) := ⟨_, rfl⟩
                        obtain ⟨t2, ht2⟩ : ∃ t2, t2 = decide (pk < pj) := ⟨_, rfl⟩
                        rw [← ht1, ← ht2] at HRS
                        have b1 := ht1.symm
                        have b2 := ht2.symm
                        clear hob hpi hpj hpk ht1 ht2 HOK hkl hkj HS6
                        cases ob with
                        | false =>
                          go_wp2_with fail
                          go_quiet (fail)
                          go_wp2_with fail
                          go_roundw
                          case rel => exact ⟨k + 1, _, HKL.out, by first | rfl | rw [HUK.out], by rw [HRS.out]; rfl, by first | rfl | (rw [World.drewN_drewN])⟩
                          case measure => (try rw [HUK.out]); have := HKL.out; simp [intOf]; omega
                        | true =>
                          cases t1 with
                          | false =>
                            go_wp2_with fail
                            go_quiet (fail)
                            go_wp2_with fail
                            go_roundw
                            case rel => exact ⟨k + 1, _, HKL.out, by first | rfl | rw [HUK.out], by rw [HRS.out]; rfl, by first | rfl | (rw [World.drewN_drewN])⟩
                            case measure => (try rw [HUK.out]); have := HKL.out; simp [intOf]; omega
                          | true =>
                            cases t2 with
                            | false =>
                              go_wp2_with fail
                              go_quiet (fail)
                              go_wp2_with fail
                              go_roundw
                              case rel => exact ⟨k + 1, _, HKL.out, by first | rfl | rw [HUK.out], by rw [HRS.out]; rfl, by first | rfl | (rw [World.drewN_drewN])⟩
                              case measure => (try rw [HUK.out]); have := HKL.out; simp [intOf]; omega
                            | true =>
                              go_wp2_with fail
                              go_quiet (fail)
                              go_wp2_with fail
                              go_roundw
                              case rel => exact ⟨k + 1, _, HKL.out, by first | rfl | rw [HUK.out], by rw [HRS.out]; rfl, by first | rfl | (rw [World.drewN_drewN])⟩
                              case measure => (try rw [HUK.out]); have := HKL.out; simp [intOf]; omega
                      · obtain rfl : k = j := by omega
                        have HE : Hid (okJ p i (k + 1) = (okJ p i k && okK p i k k)) := rfl
                        have i4 : ¬ (k : Int) < (k : Int) := Int.lt_irrefl _
                        rw [Bool.and_assoc, ← HE.out]
                        clear hkl hkj
                        go_wp2_with fail
                        go_roundw
                        case rel => exact ⟨k + 1, m, HJL.out, by first | rfl | rw [HUJ.out], rfl, by first | rfl | trivial⟩
                        case measure => (try rw [HUJ.out]); have := HJL.out; simp [intOf]; omega
                  · obtain rfl : j = i := by omega
                    have HE : Hid (okI p (j + 1) = (okI p j && okJ p j j)) := rfl
                    have i3 : ¬ (j : Int) < (j : Int) := Int.lt_irrefl _
                    rw [← HE.out]
                    clear hjl hji
                    go_wp2_with fail
                    go_roundw
                    case rel => exact ⟨j + 1, m, HIL.out, by first | rfl | rw [HUI.out], rfl, by first | rfl | trivial⟩
                    case measure => (try rw [HUI.out]); have := HIL.out; simp [intOf]; omega
              · obtain rfl : i = N := by omega
                have i2 : ¬ (i : Int) < (i : Int) := Int.lt_irrefl _
                have HB7 : Hid (Below w.heap.size w (w6.drewN m)) := below_drewN HB6.out _
                obtain ⟨ob, hob⟩ : ∃ ob, ob = okI p i := ⟨_, rfl⟩
                rw [← hob] at HST ⊢
                clear hil hiN hob
                cases ob with
                | false =>
                  go_wp2_with fail
                  go_roundw
                  case rel => exact ⟨r + 1, HRL.out, by first | rfl | rw [HUR.out], by rw [HST.out]; rfl, HB7.out⟩
                  case measure => (try rw [HUR.out]); have := HRL.out; simp [intOf]; omega
                | true =>
                  go_wp2_with fail
                  go_roundw
                  case rel => exact ⟨r + 1, HRL.out, by first | rfl | rw [HUR.out], by rw [HST.out]; first | rfl | exact congrArg (Value.int .i64) HUM.out, HB7.out⟩
                  case measure => (try rw [HUR.out]); have := HRL.out; simp [intOf]; omega
          · obtain rfl : r = F := by omega
            have i1 : ¬ (r : Int) < (r : Int) := Int.lt_irrefl _
            have HMC : Hid (M = CN) := HM.out.trans HCN.out.symm
            rw [HMC.out]
            have b0 : ((CN : Int) == (CN : Int)) = true := by simp
            clear hrl hrF
            go_wp2_with fail
            refine (HCA.out _).mono ?_
            rintro e w7 ⟨rfl, hb7⟩
            have HB7 : Hid (Below w.heap.size w w7) := HBX.out.trans (hb7.mono HBX.out.size)
            clear hb7
            go_wp2_with fail
            go_ret
            exact ⟨rfl, HB7.out⟩
end Go.Proofs.YtmibifmabkaakaaDoor
