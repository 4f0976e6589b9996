/- Sums by a tree: the tree's functions, walked. No condition. -/
import Derived.Test.YtmibifmabkaakaaDoorFenM
import Derived.BigQuiet
import Derived.IntWalk
namespace Go.Proofs.YtmibifmabkaakaaDoor
open Go.ChangeShapes Go.WideShapes Go.ChangeAt Go.RowKit
set_option linter.unusedVariables false

theorem cell_grown (w : World) (g i : Nat) (u : Value) : w.grownBy (w.setCell ⟨g, i, none⟩ u) (some g) :=
  ⟨rfl, rfl, rfl, by simp, fun k _ hk => Below.heap_setCell w _ _ k (fun e => hk (by rw [e]))⟩
set_option maxRecDepth 20000 in
set_option maxHeartbeats 2000000 in
theorem tsum_any (S T : Nat → Int) (N k g : Nat) (w : World) (hN : N ≤ 400) (hk : k ≤ N) (hrow : w.rowIs g 3 (N + 1) (fun i => .int .i64 (T i))) (ht : Tree S T N) :
    Calls Tryd.prog 68 #[.slice (some ⟨g, 0, none⟩) (N + 1 : Nat) (N + 1 : Nat), .int .i64 k] w fun e w' => e = .returned (.int .i64 (S k)) ∧ w = w' := by
  have HR := Lib.hid hrow
  have HT := Lib.hid ht
  have hSk := ht.2.2 k hk
  clear hrow ht
  go_enter Tryd.func68, Tryd.ntmps68
  go_wp2_with fail
  go_loop [1, 5] (fun s1 s5 => ∃ j : Nat, j ≤ N ∧ s1 = .int .i64 j ∧ s5 = .int .i64 (S k - S j)) (fun s1 _ => (intOf s1).toNat)
  case atStart => exact ⟨k, hk, rfl, by rw [Int.sub_self]⟩
  case round =>
    obtain ⟨j, hj, rfl, rfl⟩ := hrel
    by_cases h0 : 0 < j
    · have i1 : 0 < (j : Int) := by omega
      have hc := HR.out.cell (show j < N + 1 by omega)
      have htj := HT.out.2.1 j h0 hj
      have hl := lb_one j (by omega) h0
      have hand := lb_and j (by omega)
      have hSj := HT.out.2.2 j hj
      have hSl := HT.out.2.2 (j - lb j) (by omega)
      have i2 : (j : Int) - (lb j : Int) = ((j - lb j : Nat) : Int) := by omega
      have i3 : (j : Int) < ((N + 1 : Nat) : Int) := by omega
      rw [htj] at hc
      clear htj
      generalize lb j = L at *
      generalize hM : j - L = M at *
      have HM := Lib.hid hM
      clear hM
      generalize S k = sk at *
      generalize S j = sj at *
      generalize hsm : S M = sm at *
      have HSM := Lib.hid hsm
      clear hsm
      have i4 : sk - sj + (sj - sm) = sk - sm := by omega
      go_wp2_with fail
      go_round
      case rel => exact ⟨M, by have := HM.out; omega, rfl, by rw [HSM.out]⟩
      case measure => simp [intOf]; have := HM.out; omega
    · obtain rfl : j = 0 := by omega
      have HS0 : Hid (S 0 = 0) := HT.out.1
      go_wp2_with fail
      go_ret
      exact ⟨by rw [HS0.out, Int.sub_zero]; rfl, rfl⟩
set_option maxRecDepth 20000 in
set_option maxHeartbeats 2000000 in
theorem tadd_any (S T : Nat → Int) (N k g : Nat) (b : Int) (w : World) (hN : N ≤ 400) (hk : k < N) (hb1 : -1073741824 ≤ b) (hb2 : b ≤ 1073741824) (hrow : w.rowIs g 3 (N + 1) (fun i => .int .i64 (T i))) (ht : Tree S T N) (hs : ∀ i, i ≤ N → 0 ≤ addS S k b i ∧ addS S k b i ≤ 429496729600) :
    Calls Tryd.prog 89 #[.slice (some ⟨g, 0, none⟩) (N + 1 : Nat) (N + 1 : Nat), .int .i64 k, .int .i64 b] w fun e w' => e = .returned (.tuple #[]) ∧ (∃ T', Tree (addS S k b) T' N ∧ w'.rowIs g 3 (N + 1) (fun i => .int .i64 (T' i))) ∧ w.grownBy w' (some g) := by
  have HR := Lib.hid hrow
  have HT := Lib.hid ht
  have HS := Lib.hid hs
  clear hrow ht hs
  go_enter Tryd.func89, Tryd.ntmps89
  go_wp2_with fail
  have HR0 : Hid (w.rowIs g 3 (N + 1) (fun i => .int .i64 (addT T (k + 1) b (k + 1) i))) := by rw [addT_start]; exact HR.out
  go_loopw [1] (fun s1 wr => ∃ c : Nat, 0 < c ∧ s1 = .int .i64 c ∧ c - lb c < k + 1 ∧ k + 1 ≤ c ∧ c ≤ 802 ∧ wr.rowIs g 3 (N + 1) (fun i => .int .i64 (addT T (k + 1) b c i)) ∧ w.grownBy wr (some g)) (fun s1 _ => 802 - (intOf s1).toNat)
  case atStart => exact ⟨k + 1, by omega, by go_num, by have := lb_one (k + 1) (by omega) (by omega); omega, Nat.le_refl _, by omega, HR0.out, World.grownBy.refl _ _⟩
  case round =>
    obtain ⟨c, hc0, rfl, h1, h2, h3, hrow, hgr⟩ := hrel
    have HR2 := Lib.hid hrow
    have HG := Lib.hid hgr
    clear hrow hgr
    by_cases hlt : c ≤ N
    · have i1 : (c : Int) < ((N + 1 : Nat) : Int) := by omega
      have i0 : c < N + 1 := by omega
      have hcell := HR2.out.cell (show c < N + 1 by omega)
      have hf := HR2.out.frozen c
      have hl := lb_one c (by omega) hc0
      have hup := lb_up c (by omega) hc0
      have hand := lb_and c (by omega)
      have htb := tree_bd HT.out hc0 hlt
      have HST := Lib.hid (addT_step (T := T) (p := k + 1) (b := b) (c := c) (N := N) (by omega) (by omega) h1 h2)
      have hv : addT T (k + 1) b c c = T c := by unfold addT; rw [if_neg (by omega)]
      rw [hv] at hcell HST
      clear hv
      have HLC : Hid (c - lb c < k + 1) := h1
      have i2 : (c : Int) + (lb c : Int) = ((c + lb c : Nat) : Int) := by omega
      have HUP := Lib.hid hup
      clear h1 hup
      generalize hL : lb c = L at *
      have HL := Lib.hid hL
      clear hL
      generalize hM : c + L = M at *
      have HM := Lib.hid hM
      clear hM
      generalize T c = tc at *
      go_wp2_with fail
      go_roundw
      case rel =>
        refine ⟨M, by have := HM.out; omega, rfl, by have := HUP.out; have := HLC.out; have := HL.out; omega, by have := HM.out; omega, by have := HM.out; omega, ?_, ?_⟩
        · have h := rowIs_set_int HR2.out c (tc + b)
          rw [HST.out] at h
          exact h
        · exact HG.out.trans (cell_grown _ g c _)
      case measure => simp [intOf]; have := HM.out; omega
    · have i1 : ¬ (c : Int) < ((N + 1 : Nat) : Int) := by omega
      have i0 : ¬ c < N + 1 := by omega
      have HTT : Hid (Tree (addS S k b) (addT T (k + 1) b c) N) := addT_tree HT.out (by omega) (by omega) HS.out
      go_wp2_with fail
      go_end0
      exact ⟨rfl, ⟨_, HTT.out, HR2.out⟩, HG.out⟩
theorem pow_9 {a : Nat} (h : a < 9) : 0 < 2 ^ a ∧ 2 ^ a ≤ 256 := ⟨Nat.pow_pos (by decide), Nat.pow_le_pow_right (n := 2) (by decide) (show a ≤ 8 by omega)⟩
set_option maxRecDepth 20000 in
set_option maxHeartbeats 4000000 in
theorem tfind_any (S T : Nat → Int) (N k g : Nat) (n : Int) (w : World) (hN : N ≤ 400) (hk : k < N) (hrow : w.rowIs g 3 (N + 1) (fun i => .int .i64 (T i))) (ht : Tree S T N) (hmo : ∀ i j, i ≤ j → j ≤ N → S i ≤ S j) (h1 : S k ≤ n) (h2 : n < S (k + 1)) :
    Calls Tryd.prog 69 #[.slice (some ⟨g, 0, none⟩) (N + 1 : Nat) (N + 1 : Nat), .int .i64 n] w fun e w' => e = .returned (.int .i64 k) ∧ w = w' := by
  have HR := Lib.hid hrow
  have HT := Lib.hid ht
  have HMO := Lib.hid hmo
  have HK1 := Lib.hid h1
  have HK2 := Lib.hid h2
  have HS0 := Lib.hid ht.1
  have hsk := ht.2.2 (k + 1) (by omega)
  have hn1 : n ≤ 429496729600 := by omega
  have hn0 : 0 ≤ n := by have := ht.2.2 k (by omega); omega
  clear hrow ht hmo h1 h2 hsk
  go_enter Tryd.func69, Tryd.ntmps69
  go_wp2_with fail
  go_loop [5] (fun s5 => ∃ a s : Nat, a < 9 ∧ s5 = .int .i64 s ∧ Hid (2 ^ a = s) ∧ 0 < s ∧ s ≤ 256) (fun s5 => 512 - (intOf s5).toNat)
  case atStart => exact ⟨0, 1, by omega, rfl, rfl, by omega, by omega⟩
  case round =>
    obtain ⟨a, s, ha, rfl, hs, hs0, hs1⟩ := hrel
    have i0 : 2 * (s : Int) = ((2 * s : Nat) : Int) := by omega
    by_cases hlt : 2 * s < N + 1
    · have i1 : ((2 * s : Nat) : Int) < ((N + 1 : Nat) : Int) := by omega
      have i2 : (s : Int) * 2 = ((2 * s : Nat) : Int) := by omega
      have HA : Hid (2 ^ (a + 1) = 2 * s) := by unfold Hid; rw [Nat.pow_succ, hs.out, Nat.mul_comm]
      have h9 : a + 1 < 9 := by
        rcases Nat.lt_or_ge (a + 1) 9 with h | h
        · exact h
        · have : 2 ^ 8 ≤ 2 ^ a := Nat.pow_le_pow_right (by decide) (by omega)
          rw [hs.out] at this
          omega
      generalize hM : 2 * s = M at *
      have HM := Lib.hid hM
      clear hM
      go_wp2_with fail
      go_round
      case rel => exact ⟨a + 1, M, h9, rfl, HA.out, by have := HM.out; omega, by have h := (pow_9 h9).2; rw [HA.out] at h; exact h⟩
      case measure => simp [intOf]; have := HM.out; omega
    · have i1 : ¬ ((2 * s : Nat) : Int) < ((N + 1 : Nat) : Int) := by omega
      have hNs : N + 1 ≤ 2 * s := by omega
      have HNS := Lib.hid hNs
      generalize hM : 2 * s = M at *
      have HM := Lib.hid hM
      clear hM hNs
      go_wp2_with fail
      clear i0 i1
      go_loop [1, 5, 6] (fun s1 s5 s6 => ∃ j s : Nat, s6 = .int .i64 j ∧ s5 = .int .i64 s ∧ s1 = .int .i64 (n - S j) ∧ s ≤ 256 ∧ j ≤ k ∧ ((s = 0 ∧ j = k) ∨ ∃ a q : Nat, a < 9 ∧ 2 ^ a = s ∧ j = 2 * s * q ∧ k < j + 2 * s)) (fun _ s5 _ => (intOf s5).toNat)
      case atStart => exact ⟨0, s, rfl, rfl, by rw [HS0.out, Int.sub_zero], hs1, Nat.zero_le _, .inr ⟨a, 0, ha, hs.out, by omega, by have := HNS.out; have := HM.out; omega⟩⟩
      case round =>
        clear HM HNS
        obtain ⟨j, s, rfl, rfl, rfl, hs1, hjk, hcase⟩ := hrel
        have HCASE := Lib.hid hcase
        clear hcase
        by_cases hs0 : 0 < s
        · obtain ⟨a, q, ha, hpa, hjq, hkj⟩ : ∃ a q : Nat, a < 9 ∧ 2 ^ a = s ∧ j = 2 * s * q ∧ k < j + 2 * s := by
            rcases HCASE.out with h | h
            · omega
            · exact h
          have i1 : 0 < (s : Int) := by omega
          have hSj := HT.out.2.2 j (by omega)
          -- the half of the step, and what it is good for
          have HHALF : Hid (∀ j', (∃ q', j' = s * q') → j' ≤ k → k < j' + s → (s / 2 = 0 ∧ j' = k) ∨ ∃ a q : Nat, a < 9 ∧ 2 ^ a = s / 2 ∧ j' = 2 * (s / 2) * q ∧ k < j' + 2 * (s / 2)) := by
            rintro j' ⟨q', hq'⟩ h3 h4
            cases a with
            | zero =>
              rw [Nat.pow_zero] at hpa
              exact .inl ⟨by omega, by omega⟩
            | succ a =>
              rw [Nat.pow_succ] at hpa
              have h5 : s / 2 = 2 ^ a := by omega
              have h6 : 2 * (s / 2) = s := by omega
              exact .inr ⟨a, q', by omega, h5.symm, by rw [h6]; exact hq', by rw [h6]; exact h4⟩
          have hq2 : j = s * (2 * q) := by rw [hjq, Nat.mul_comm 2 s, Nat.mul_assoc]
          have HJ0 : Hid (∃ q', j = s * q') := ⟨_, hq2⟩
          have HJ1 : Hid (∃ q', j + s = s * q') := ⟨2 * q + 1, by rw [hq2, Nat.mul_add, Nat.mul_one]⟩
          have HLB : Hid (j + s ≤ N → lb (j + s) = s) := fun h => by
            have hq : q < 201 := by
              rcases Nat.eq_zero_or_pos q with e | e
              · omega
              · have : 2 * s * q ≤ 400 := by omega
                have h7 : 1 * q ≤ 2 * s * q := Nat.mul_le_mul_right _ (by omega)
                rcases Nat.lt_or_ge q 201 with h8 | h8
                · exact h8
                · have : 2 * 201 ≤ 2 * s * q := Nat.mul_le_mul (by omega) h8
                  omega
            have := lb_find a ha q hq (by rw [hpa, ← hjq]; omega)
            rw [hpa, ← hjq] at this
            exact this
          have HKJ := Lib.hid hkj
          have i2 : (j : Int) + (s : Int) = ((j + s : Nat) : Int) := by omega
          have hdv : (s : Int) / 2 = ((s / 2 : Nat) : Int) := by omega
          have hs2 : s / 2 < s := by omega
          clear hjq hkj hpa hq2
          by_cases hin : j + s ≤ N
          · have i3 : ((j + s : Nat) : Int) < ((N + 1 : Nat) : Int) := by omega
            have i4 : j + s < N + 1 := by omega
            have hcell := HR.out.cell (show j + s < N + 1 by omega)
            have htj := HT.out.2.1 (j + s) (by omega) hin
            rw [HLB.out hin, Nat.add_sub_cancel] at htj
            rw [htj] at hcell
            have hSs := HT.out.2.2 (j + s) hin
            have HLE : Hid (S (j + s) ≤ n → j + s ≤ k) := fun h => by
              rcases Nat.lt_or_ge k (j + s) with h3 | h3
              · have h4 := HMO.out (k + 1) (j + s) h3 hin
                have h5 := HK2.out
                omega
              · exact h3
            have HGT : Hid (n < S (j + s) → k < j + s) := fun h => by
              rcases Nat.lt_or_ge k (j + s) with h3 | h3
              · exact h3
              · have h4 := HMO.out (j + s) k h3 (by omega)
                have h5 := HK1.out
                omega
            clear htj
            generalize hM : j + s = M at *
            have HM := Lib.hid hM
            clear hM
            generalize hH : s / 2 = H at *
            have HH := Lib.hid hH
            clear hH
            generalize hsm : S M = sm at *
            have HSM := Lib.hid hsm
            clear hsm
            generalize hsj : S j = sj at *
            have HSJ := Lib.hid hsj
            clear hsj
            by_cases hle : sm ≤ n
            · have hMk := HLE.out hle
              have i5 : sm - sj ≤ n - sj := by omega
              have i6 : n - sj - (sm - sj) = n - sm := by omega
              go_wp2_with fail
              go_round
              case rel => exact ⟨M, H, rfl, rfl, by rw [HSM.out], by omega, hMk, by have h := HHALF.out M HJ1.out hMk (by have := HKJ.out; have := HM.out; omega); exact h⟩
              case measure => simp [intOf]; omega
            · have hkM := HGT.out (by omega)
              have i5 : ¬ sm - sj ≤ n - sj := by omega
              go_wp2_with fail
              go_round
              case rel => exact ⟨j, H, rfl, rfl, by rw [HSJ.out], by omega, hjk, by have h := HHALF.out j HJ0.out hjk (by have := HM.out; omega); exact h⟩
              case measure => simp [intOf]; omega
          · have i3 : ¬ ((j + s : Nat) : Int) < ((N + 1 : Nat) : Int) := by omega
            have i4 : ¬ j + s < N + 1 := by omega
            generalize hM : j + s = M at *
            have HM := Lib.hid hM
            clear hM
            generalize hH : s / 2 = H at *
            have HH := Lib.hid hH
            clear hH
            go_wp2_with fail
            go_round
            case rel => exact ⟨j, H, rfl, rfl, rfl, by omega, hjk, by have h := HHALF.out j HJ0.out hjk (by have := HM.out; omega); exact h⟩
            case measure => simp [intOf]; omega
        · obtain rfl : s = 0 := by omega
          have HJK : Hid (j = k) := by
            rcases HCASE.out with h | ⟨a, q, ha, hpa, _⟩
            · exact h.2
            · have := pow_9 ha; omega
          go_wp2_with fail
          go_ret
          exact ⟨by rw [HJK.out]; rfl, rfl⟩
end Go.Proofs.YtmibifmabkaakaaDoor
