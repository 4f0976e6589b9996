/- The reference's QWays, walked. No condition but the bounds, and that the closure says what may be. -/
import Derived.Test.YtaehehoeidnidaaWalJ
import Derived.Deep.DeepCutAuto
namespace Go.Proofs.Ytaehehoeidnidaa
open Go.ChangeShapes Go.WideShapes Go.ChangeAt Go.RowKit Go.Maps
set_option linter.unusedVariables false

set_option maxRecDepth 20000 in
set_option maxHeartbeats 2000000 in
theorem qways_any (f : Nat) (caps : Array Value) (may : Nat → Int → Bool) (N : Nat) (fr : Int) (w : World) (eg : ∀ args w, (callFunc f args).run Try.prog w = .ok (.enter f args) w) (hN : N ≤ 56) (hf : -100 ≤ fr ∧ fr ≤ 100)
    (hm : ∀ (s : Nat) (h : Int) (w' : World), s ≤ 56 → -1000 ≤ h → h ≤ 1000 → Below w.heap.size w w' → Calls Try.prog f (#[.int .i64 s, .int .i64 h] ++ caps) w' fun e w2 => e = .returned (.bool (may s h)) ∧ w' = w2) :
    Calls Try.prog 24 #[.int .i64 N, .int .i64 fr, .func (.func f) #[] caps] w fun e w' => ∃ b n F, e = .returned (.map (some b)) ∧ MapK w' b n F ∧ (∀ h, (F h).getD 0 = wN may fr N h) ∧ Below w.heap.size w w' := by
  have hmm := @run_makeMap Try.prog
  have HM := Lib.hid hm
  have HF := Lib.hid hf
  have HN := Lib.hid hN
  have M0 := Lib.hid (MapK.made w)
  have HB0 := Lib.hid ((Below.refl w.heap.size w).alloc (Nat.le_refl _) (.map #[] 0))
  clear hm hf
  go_enter Try.func24, Try.ntmps24
  go_wp2_with fail
  refine (HM.out 0 fr _ (by omega) (by have := HF.out; omega) (by have := HF.out; omega) HB0.out).mono ?_
  rintro e w1 ⟨rfl, rfl⟩
  go_upto_if 17 with (fail)
  go_cut [18] (fun s18 wx => ∃ (n : Nat) (F : Int → Option Int), Hid (MapK wx w.heap.size n F) ∧ Hid (SayK may fr 0 F) ∧ Hid (Below w.heap.size w wx))
  case first =>
    cases hb : may 0 fr with
    | true =>
      have hwf : (Lit.int .i64 fr).wf = true := WalkArith.wf_i64 (by have := HF.out; omega)
      have HWF := Lib.hid hwf
      have HBT := Lib.hid hb
      clear hb hwf
      go_wp2_with (first
        | (at_mapUpdate; refine wpList_mapk_store _ rfl (.tmp 18) (.tmp 19) (.const (.int .i64 1)) 39 rfl Try.underlying39 w.heap.size 0 (fun _ => none) rfl M0.out (by decide) fr 1 rfl rfl HWF.out (by decide) ?_; intro w1 hm1 hg1))
      go_meet
      case rel =>
        refine ⟨_, _, hm1, ⟨fun h => ?_, fun k v hk => ?_⟩, HB0.out.grown hg1.out (by simp) (fun k hk => by injection hk with hk; omega)⟩
        · simp only [wN]
          rw [HBT.out]
          by_cases e : h = fr <;> simp [e]
        · have hk2 : (if k = fr then some (1 : Int) else none) = some v := hk
          by_cases e : k = fr
          · have := HF.out; omega
          · rw [if_neg e] at hk2; cases hk2
    | false =>
      have HBT := Lib.hid hb
      clear hb
      go_wp2_with fail
      go_meet
      case rel =>
        refine ⟨_, _, M0, ⟨fun h => ?_, fun k v hk => by cases hk⟩, HB0.out⟩
        simp only [wN]
        rw [HBT.out]; simp
  case rest =>
    obtain ⟨n0, F0, hm0, hs0, hb0⟩ := hcut
    clear M0 HB0
    go_wp2_with fail
    go_loopw [7, 8] (fun s7 s8 wr => ∃ (b n s : Nat) (F : Int → Option Int), s7 = .map (some b) ∧ s8 = .int .i64 ((s : Int) + 1) ∧ Hid (s ≤ N) ∧ Hid (MapK wr b n F) ∧ Hid (SayK may fr s F) ∧ Hid (Below w.heap.size w wr)) (fun _ s8 _ => ((N : Int) + 1 - intOf s8).toNat)
    case atStart => exact ⟨w.heap.size, n0, 0, F0, rfl, rfl, Nat.zero_le _, hm0, hs0, hb0⟩
    case round =>
      obtain ⟨b, n, s, F, rfl, rfl, hsN, hmp, hsay, hbe⟩ := hrel
      by_cases hlt : s < N
      · have i1 : (s : Int) + 1 ≤ (N : Int) := by omega
        have i2 : s + 1 ≤ N := hlt
        have HS := Lib.hid (And.intro hlt hN)
        have HMA : Hid (MapK (wr.alloc (.map #[] 0)) b n F) := hmp.out.alloc _
        have HMB := Lib.hid (MapK.made wr)
        have hbl := hmp.out.lt
        have HBL := Lib.hid hbl
        obtain ⟨wo, rfl⟩ : ∃ wo : World, wo = wr := ⟨_, rfl⟩
        have us : Hid (wrap64 ((s : Int) + 1 + 1) = ((s + 1 : Nat) : Int) + 1) := by unfold Hid; rw [dw64 (by omega) (by omega)]; omega
        clear hlt hbl
        go_wp2_with (first
          | (at_range; refine wpList_rngk _ rfl _ 39 rfl Try.underlying39 b n F rfl HMA.out ?_; intro w5 cnt5 hrg5 hg5 hs5)
          | go_in)
        go_frame
        have er : (wo.alloc (.map #[] 0)).heap.size = wo.heap.size + 1 := by simp
        have HM5 : Hid (MapK w5 wo.heap.size 0 (fun _ => none)) := HMB.out.kept hg5.out (by simp)
        have HB5 : Hid (Below w.heap.size w w5) := (hbe.out.alloc hbe.out.size _).grown hg5.out (by have := hbe.out.size; omega) (fun k hk => by cases hk)
        have HRG5 : Hid (RngK w5 b (wo.heap.size + 1) n F (fun x => (F x).isSome) cnt5) := by have := hrg5.out; rw [er] at this; exact this
        have HSZ := Lib.hid hbe.out.size
        rw [er]
        clear er hrg5 hg5 hs5
        go_loopw [10] (fun s10 wr => ∃ (L : Int → Bool) (cnt n2 : Nat) (F2 : Int → Option Int), Hid (RngK wr b (wo.heap.size + 1) n F L cnt) ∧ Hid (MapK wr wo.heap.size n2 F2) ∧ Hid (InvK may fr s F2 L) ∧ Hid (KeyK (s + 1) F2) ∧ Hid (n2 + 2 * cardK L 2001 ≤ 4002) ∧ Hid (Below w.heap.size w wr)) (fun _ wr => wr.rangeLeft b (wo.heap.size + 1))
        case atStart => exact ⟨_, _, 0, _, HRG5.out, HM5.out, hsay.out.start, (fun k v hk => by cases hk), by have := cardK_le (fun x => (F x).isSome) 2001; show 0 + _ ≤ _; omega, HB5.out⟩
        case round =>
          obtain ⟨L, cnt, n2, F2, hrg, hm2, hinv, hkey, hcard, hbe2⟩ := hrel
          go_wp2_with (first
            | (at_next; refine wpList_nextk _ rfl _ rfl b (wo.heap.size + 1) n F L cnt rfl hrg.out ?_ ?_)
            | go_in)
          · intro hdone
            have HSA : Hid (SayK may fr (s + 1) F2) := SayK.done HF.out (by have := HS.out; omega) hinv.out hkey.out (fun x h1 h2 => hdone.out x (WalkArith.wf_i64 (by omega)))
            go_wp2_with fail
            go_roundw
            case rel => exact ⟨wo.heap.size, n2, s + 1, F2, rfl, by first | rfl | rw [us.out], HS.out.1, hm2, HSA, hbe2⟩
            case measure => (try rw [us.out]); have := HS.out; simp [intOf]; omega
          · intro x c w1 cnt1 hwf hlx hF1 hrg1 hlt1 hg1 hs1 hen
            have hx := hsay.out.2 _ _ hF1.out
            have hc : c = wN may fr s x := by have := hsay.out.1 x; rw [hF1.out] at this; exact this
            have hcb := wN_b56 may fr (s := s) (by have := HS.out; omega) x
            rw [← hc] at hcb
            obtain ⟨p3, p4⟩ := hcb
            have p1 : -160 ≤ x := by have := HS.out; omega
            have p2 : x ≤ 160 := by have := HS.out; omega
            have HC := Lib.hid hc
            have HX := Lib.hid hx
            have HM1 : Hid (MapK w1 wo.heap.size n2 F2) := hm2.out.kept hg1.out (by simp)
            have HB1 : Hid (Below w.heap.size w w1) := hbe2.out.grown hg1.out hbe2.out.size (fun k hk => by injection hk with hk; have := HSZ.out; omega)
            have HBK := Lib.hid (Blk.new w1 3 #[.int .i64 (x - 1), .int .i64 (x + 1)])
            have HMX : Hid (MapK (w1.alloc (.cells #[.int .i64 (x - 1), .int .i64 (x + 1)] 3)) wo.heap.size n2 F2) := HM1.out.alloc _
            have HRX : Hid (RngK (w1.alloc (.cells #[.int .i64 (x - 1), .int .i64 (x + 1)] 3)) b (wo.heap.size + 1) n F (lessK L x) cnt1) := hrg1.out.alloc _
            have HBX : Hid (Below w.heap.size w (w1.alloc (.cells #[.int .i64 (x - 1), .int .i64 (x + 1)] 3))) := HB1.out.alloc HB1.out.size _
            have HRL : Hid (wo.heap.size + 1 < w1.heap.size) := hrg1.out.lt
            clear hx hc
            go_wp2_with fail
            go_loopw [39] (fun s39 wr => ∃ j : Nat, j ≤ 2 ∧ s39 = .int .i64 j ∧ Hid (RngK wr b (wo.heap.size + 1) n F (lessK L x) cnt1) ∧ Hid (MapK wr wo.heap.size (n2 + j) (FK may s F2 x c j)) ∧ Hid (Blk wr w1.heap.size 3 #[.int .i64 (x - 1), .int .i64 (x + 1)]) ∧ Hid (Below w.heap.size w wr)) (fun s39 _ => 2 - (intOf s39).toNat)
            case atStart => exact ⟨0, by omega, rfl, HRX, HMX, HBK, HBX⟩
            case round =>
              obtain ⟨j, hj, rfl, hrg3, hm3, hbk3, hbe3⟩ := hrel
              by_cases hlj : j < 2
              · have i3 : (j : Int) < 2 := by omega
                obtain ⟨y, hy⟩ : ∃ y, y = gK x j := ⟨_, rfl⟩
                have q1 : -1000 ≤ y := by rw [hy]; unfold gK; split <;> omega
                have q2 : y ≤ 1000 := by rw [hy]; unfold gK; split <;> omega
                have c0 : wr.cell? ⟨w1.heap.size, j, none⟩ = some (.int .i64 y) := by
                  rcases (by omega : j = 0 ∨ j = 1) with e | e
                  · subst e; rw [hy]; exact hbk3.out.cell 0 rfl
                  · subst e; rw [hy]; exact hbk3.out.cell 1 rfl
                obtain ⟨v, hv⟩ : ∃ v, v = (FK may s F2 x c j y).getD 0 := ⟨_, rfl⟩
                have hvb := hinv.out.b (by have := HS.out; omega) q1 q2
                have hv2 : v = (F2 y).getD 0 := by rw [hv, hy, FK_at may s F2 x c j hlj]
                rw [← hv2] at hvb
                obtain ⟨q3, q4⟩ := hvb
                have HV := Lib.hid hv
                have HY := Lib.hid hy
                have HJ := Lib.hid (And.intro hj hlj)
                have uj : Hid (wrap64 ((j : Int) + 1) = ((j + 1 : Nat) : Int)) := dk64 (by omega)
                have HWF : Hid ((Lit.int .i64 y).wf = true ∧ (Lit.int .i64 (v + c)).wf = true) := ⟨WalkArith.wf_i64 (by omega), WalkArith.wf_i64 (by omega)⟩
                have HLM : Hid (n2 + j < maxLen) := by have := hcard.out; unfold Hid maxLen; omega
                have hcall := HM.out (s + 1) y wr (by have := HS.out; omega) q1 q2 hbe3.out
                rw [show ((s + 1 : Nat) : Int) = (s : Int) + 1 from rfl] at hcall
                have HCALL := Lib.hid hcall
                have HST : Hid (FK may s F2 x c (j + 1) = stepK (FK may s F2 x c j) y c (may (s + 1) y)) := by unfold Hid; rw [hy]; rfl
                clear hcall hv hy hj hlj hv2
                go_wp2_with fail
                refine HCALL.out.mono ?_
                rintro e w2 ⟨rfl, rfl⟩
                cases hbm : may (s + 1) y with
                | true =>
                  have HBM := Lib.hid hbm
                  clear hbm
                  go_wp2_with (first
                    | (at_lookup; refine wpList_mapk_look _ rfl (.tmp 47) (.tmp 48) 39 rfl Try.underlying39 wo.heap.size (n2 + j) (FK may s F2 x c j) rfl hm3.out y rfl HWF.out.1 ?_; rw [← HV.out])
                    | (at_mapUpdate; refine wpList_mapk_store _ rfl (.tmp 47) (.tmp 48) (.tmp 51) 39 rfl Try.underlying39 wo.heap.size (n2 + j) (FK may s F2 x c j) rfl hm3.out HLM.out y (v + c) rfl rfl HWF.out.1 HWF.out.2 ?_; intro w4 hm4 hg4))
                  have HM4 : Hid (MapK w4 wo.heap.size (n2 + (j + 1)) (FK may s F2 x c (j + 1))) := by
                    unfold Hid
                    rw [HST.out, HBM.out]
                    unfold stepK
                    rw [if_pos rfl, ← HV.out]
                    exact hm4.out
                  have HR4 : Hid (RngK w4 b (wo.heap.size + 1) n F (lessK L x) cnt1) := hrg3.out.kept hg4.out (by have := HBL.out; simp; omega) (by simp)
                  have HBK4 : Hid (Blk w4 w1.heap.size 3 #[.int .i64 (x - 1), .int .i64 (x + 1)]) := hbk3.out.grown hg4.out (by have := HRL.out; omega)
                  have HB4 : Hid (Below w.heap.size w w4) := hbe3.out.grown hg4.out hbe3.out.size (fun k hk => by injection hk with hk; have := HSZ.out; omega)
                  go_roundw
                  case rel => exact ⟨j + 1, HJ.out.2, by first | rfl | rw [uj.out], HR4, HM4, HBK4, HB4⟩
                  case measure => (try rw [uj.out]); have := HJ.out; simp [intOf]; omega
                | false =>
                  have HBM := Lib.hid hbm
                  clear hbm
                  have HM4 : Hid (MapK wr wo.heap.size (n2 + (j + 1)) (FK may s F2 x c (j + 1))) := by
                    unfold Hid
                    rw [HST.out, HBM.out]
                    exact hm3.out.mono (by omega)
                  go_wp2_with fail
                  go_roundw
                  case rel => exact ⟨j + 1, HJ.out.2, by first | rfl | rw [uj.out], hrg3, HM4, hbk3, hbe3⟩
                  case measure => (try rw [uj.out]); have := HJ.out; simp [intOf]; omega
              · obtain rfl : j = 2 := by omega
                have HCD : Hid ((n2 + 2) + 2 * cardK (lessK L x) 2001 ≤ 4002) := by
                  have h1 := cardK_less hlx.out (by omega) 2001
                  rw [if_pos (by omega)] at h1
                  have := hcard.out
                  unfold Hid; omega
                go_wp2_with fail
                go_roundw
                case rel => exact ⟨_, cnt1, n2 + 2, _, hrg3, hm3, hinv.out.step hlx.out HC.out, hkey.out.step HX.out 2, HCD, hbe3⟩
                case measure => rw [hrg3.out.left_eq, hrg.out.left_eq]; exact hlt1.out
      · obtain rfl : s = N := by have := hsN.out; omega
        go_wp2_with fail
        go_ret
        exact ⟨b, n, F, rfl, hmp.out, hsay.out.1, hbe.out⟩
end Go.Proofs.Ytaehehoeidnidaa
