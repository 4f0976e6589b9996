/- The choice of a number, walked. No condition. -/
import Derived.Test.YtmcbkjepjijfjaaCoaM
import Derived.Test.YtmcbkjepjijfjaaComO
namespace Go.Proofs.Ytmcbkjepjijfjaa
open Go.ChangeShapes Go.WideShapes Go.ChangeAt Go.RowKit
set_option linter.unusedVariables false

theorem cat_bad {n k r : Int} (h : ¬ (0 ≤ n ∧ n ≤ 60 ∧ 0 ≤ k ∧ 0 ≤ r)) : catL n k r = [] ∧ catE n k r = 2 := by
  unfold catL catE
  rw [if_neg (fun h2 => h ⟨h2.1, h2.2.1, h2.2.2.1, h2.2.2.2.1⟩), if_neg h]
  exact ⟨rfl, rfl⟩
theorem cat_none {n k r : Nat} (hn : n ≤ 60) (h : bin n k ≤ r) : catL n k r = [] ∧ catE n k r = 3 := by
  unfold catL catE
  rw [Int.toNat_natCast, Int.toNat_natCast, if_neg (by rintro ⟨_, _, _, _, h⟩; omega), if_pos ⟨by omega, by omega, by omega, by omega⟩, if_neg (by omega)]
  exact ⟨rfl, rfl⟩
theorem cat_ok {n k r : Nat} (hn : n ≤ 60) (h : r < bin n k) : catL n k r = eatL n k r ∧ catE n k r = 0 := by
  unfold catL catE
  rw [Int.toNat_natCast, Int.toNat_natCast, Int.toNat_natCast, if_pos ⟨by omega, by omega, by omega, by omega, by omega⟩, if_pos ⟨by omega, by omega, by omega, by omega⟩, if_pos (by omega)]
  exact ⟨rfl, rfl⟩
theorem bin_pos_le {n k r : Nat} (h : r < bin n k) : k ≤ n := by
  rcases Nat.lt_or_ge n k with h1 | h1
  · rw [bin_gt h1] at h; omega
  · exact h1
theorem top_ge {k r x : Nat} (h : Top (k + 1) r x) : k ≤ x := by
  rcases Nat.lt_or_ge x k with h1 | h1
  · have h2 := h.2
    rw [bin_gt (show x + 1 < k + 1 by omega)] at h2
    omega
  · exact h1
set_option maxRecDepth 20000 in
set_option maxHeartbeats 2000000 in
theorem cat_bad_any (n k r : Int) (w : World) (h : ¬ (0 ≤ n ∧ n ≤ 60 ∧ 0 ≤ k ∧ 0 ≤ r)) :
    Calls Try.prog 64 #[.int .i64 n, .int .i64 k, .int .i64 r] w fun e w' => SOut w w' e (catL n k r) (catE n k r) := by
  have HL := Lib.hid (cat_bad h)
  rcases (by omega : n < 0 ∨ (¬ n < 0 ∧ 60 < n) ∨ (¬ n < 0 ∧ ¬ 60 < n ∧ k < 0) ∨ (¬ n < 0 ∧ ¬ 60 < n ∧ ¬ k < 0 ∧ r < 0)) with h1 | ⟨h1, h2⟩ | ⟨h1, h2, h3⟩ | ⟨h1, h2, h3, h4⟩
  all_goals
    clear h
    go_enter Try.func64, Try.ntmps64
    go_wp2_with fail
    go_ret2
    rw [HL.out.1, HL.out.2]
    exact SOut.nil_ (Below.refl _ _)
set_option maxRecDepth 20000 in
set_option maxHeartbeats 4000000 in
theorem cat_ok_any (n k r : Nat) (w : World) (hn : n ≤ 60) (hr : (r : Int) ≤ 9223372036854775807) :
    Calls Try.prog 64 #[.int .i64 n, .int .i64 k, .int .i64 r] w fun e w' => SOut w w' e (catL n k r) (catE n k r) := by
  have i1 : ¬ (n : Int) < 0 := by omega
  have i2 : ¬ 60 < (n : Int) := by omega
  have i3 : ¬ (k : Int) < 0 := by omega
  have i4 : ¬ (r : Int) < 0 := by omega
  have HOF := Lib.hid (of_any n k w (by omega))
  by_cases hlt : r < bin n k
  · have HL := Lib.hid (cat_ok hn hlt)
    have hkn := bin_pos_le hlt
    have i5 : ¬ bin n k ≤ r := by omega
    have HLT := Lib.hid hlt
    have hmk := run_make_row' (P := Try.prog) 22 3 (.int .i64 0) 8 Try.underlying22 (by kernel_rfl) rfl .i64 .i64 k (by omega) (by omega)
    obtain ⟨L, hLe⟩ : ∃ L, eatL n k r = L := ⟨_, rfl⟩
    have HLL : Hid (L.length = k) := by unfold Hid; rw [← hLe, eatL_len]
    have HT0 : Hid (L.take k = eatL n k r) := by unfold Hid; rw [hLe, List.take_of_length_le (by rw [HLL.out]; exact Nat.le_refl _)]
    rw [hLe] at HL
    clear hlt hLe
    go_enter Try.func64, Try.ntmps64
    generalize bin n k = bnk at i5 HOF
    go_wp2_with fail
    refine HOF.out.mono ?_
    rintro e w' ⟨rfl, d0, rfl⟩
    go_wp2_with fail
    clear hmk i1 i2 i3 i4 i5 HOF
    go_loopw [2, 9] (fun s2 s9 wr => ∃ (m b r' : Nat) (z : Int), m ≤ k ∧ s9 = .int .i64 z ∧ Hid (z + 1 = m) ∧ s2 = .int .i64 r' ∧ r' ≤ r ∧ b ≤ n ∧ Hid (L.take m = eatL b m r') ∧ Hid (r' < bin b m) ∧ wr.rowIs w.heap.size 3 k (fun x => .int .i64 (if m ≤ x then pat L x else 0)) ∧ Below w.heap.size w wr) (fun _ s9 _ => (intOf s9 + 1).toNat)
    case atStart => exact ⟨k, n, r, _, Nat.le_refl _, rfl, by unfold Hid; omega, rfl, Nat.le_refl _, Nat.le_refl _, HT0, HLT, (World.rowIs_made (w.drewN d0) (.int .i64 0) k 3).congr (fun i hi => by rw [if_neg (by omega)]), (below_drewN (Below.refl _ _) d0).alloc (Nat.le_refl _) _⟩
    case round =>
      obtain ⟨m, b, r', z, hm, rfl, hz, rfl, hrr, hbn, hT, hrb, hrow, hbel⟩ := hrel
      have HR := Lib.hid hrow
      have HB := Lib.hid hbel
      clear hrow hbel
      by_cases hm0 : 0 < m
      · obtain ⟨K, rfl⟩ : ∃ K, m = K + 1 := ⟨m - 1, by omega⟩
        obtain rfl : z = (K : Int) := by have := hz.out; omega
        obtain ⟨X, hX⟩ : ∃ X, gtop b (K + 1) r' = X := ⟨_, rfl⟩
        have htop := gtop_top (k := K + 1) (Nat.succ_pos K) b hrb.out
        have hles := eat_less hrb.out
        have hTT := hT.out
        rw [eatL] at hTT
        rw [hX] at htop hles hTT
        have hKX := top_ge htop.2
        have hKk : K < k := by omega
        have hKL : K < L.length := by rw [HLL.out]; exact hKk
        rw [pat_take hKL] at hTT
        have hTT2 := List.append_inj' hTT rfl
        have HTK : Hid (L.take K = eatL X K (r' - bin X (K + 1))) := hTT2.1
        have HPK : Hid (pat L K = (X : Int)) := by have := hTT2.2; unfold Hid; simpa using this
        have HLES := Lib.hid hles
        have HTOP := Lib.hid htop.2
        have hXb := htop.1
        have hvr : bin X (K + 1) ≤ r' := htop.2.1
        clear hTT hTT2 hles htop hX hKL
        have i6 : (r' : Int) ≤ 9223372036854775807 := by omega
        have HOX := Lib.hid (fun u => of_any X (K + 1) u (by omega))
        have HOY : Hid (∀ (y : Nat) (u : World), y + 1 ≤ 61 → Calls Try.prog 72 #[.int .i64 ((y + 1 : Nat) : Int), .int .i64 ((K + 1 : Nat) : Int)] u fun e w' => e = .returned (.int .i64 (bin (y + 1) (K + 1) : Nat)) ∧ ∃ d, w' = u.drewN d) := fun y u h => of_any (y + 1) (K + 1) u h
        have HMO : Hid (∀ y, y < X → bin (y + 1) (K + 1) ≤ r') := fun y hy => Nat.le_trans (bin_mono (show y + 1 ≤ X by omega) _) hvr
        have hK60 : K + 1 ≤ 60 := by omega
        generalize hv : bin X (K + 1) = v at *
        have HV := Lib.hid hv
        clear hv
        have hk1 : (K : Int) + 1 = ((K + 1 : Nat) : Int) := rfl
        generalize hKK : K + 1 = KK at *
        have HKK := Lib.hid hKK
        clear hKK
        obtain ⟨wo, rfl⟩ : ∃ wo : World, wo = wr := ⟨_, rfl⟩
        go_wp2_with fail
        go_loopw [10] (fun s10 wr => ∃ y : Nat, s10 = .int .i64 y ∧ y ≤ X ∧ ∃ d, wr = wo.drewN d) (fun s10 _ => X - (intOf s10).toNat)
        case atStart => exact ⟨K, rfl, hKX, 0, rfl⟩
        case round =>
          obtain ⟨y, rfl, hyX, d, rfl⟩ := hrel
          have HO := Lib.hid (HOY.out y (wo.drewN d) (by omega))
          have hy1 : (y : Int) + 1 = ((y + 1 : Nat) : Int) := rfl
          by_cases hlt : y < X
          · have hle := HMO.out y hlt
            generalize bin (y + 1) KK = v2 at *
            generalize hY : y + 1 = Y at *
            have HY := Lib.hid hY
            clear hY
            go_wp2_with fail
            refine HO.out.mono ?_
            rintro e w' ⟨rfl, d2, rfl⟩
            go_wp2_with fail
            go_roundw
            case rel => exact ⟨Y, rfl, by have := HY.out; omega, _, rfl⟩
            case measure => simp [intOf]; have := HY.out; omega
          · obtain rfl : y = X := by omega
            have hle : ¬ bin (y + 1) KK ≤ r' := by have := HTOP.out.2; omega
            have hc := HR.out.cell hKk
            have hf := HR.out.frozen K
            rw [if_neg (by have := HKK.out; omega)] at hc
            generalize bin (y + 1) KK = v2 at *
            generalize hY : y + 1 = Y at *
            have HY := Lib.hid hY
            clear hY
            have i7 : (r' : Int) - (v : Int) = ((r' - v : Nat) : Int) := by omega
            go_wp2_with fail
            refine HO.out.mono ?_
            rintro e w' ⟨rfl, d2, rfl⟩
            go_wp2_with fail
            refine (HOX.out _).mono ?_
            rintro e w' ⟨rfl, d3, rfl⟩
            go_wp2_with fail
            go_roundw
            case rel =>
              refine ⟨K, y, r' - v, (K : Int) - 1, by omega, rfl, by unfold Hid; omega, rfl, by omega, by omega, HTK, HLES, ?_, ?_⟩
              · have h := (HR.out.set K (.int .i64 y)).congr (g := fun x => .int .i64 (if K ≤ x then pat L x else 0)) (fun i hi => by
                  by_cases e : i = K
                  · subst e; rw [if_pos rfl, if_pos (Nat.le_refl _), HPK.out]
                  · rw [if_neg e]
                    by_cases e2 : KK ≤ i
                    · rw [if_pos e2, if_pos (by have := HKK.out; omega)]
                    · rw [if_neg e2, if_neg (by have := HKK.out; omega)])
                exact h
              · exact below_drewN ((below_drewN HB.out _).setCell (Nat.le_refl _) _) _
            case measure => simp [intOf]
      · have hz1 : ¬ 0 ≤ z := by have := hz.out; omega
        have HM : Hid (m = 0) := by unfold Hid; omega
        have hrow : wr.rowIs w.heap.size 3 k (fun x => .int .i64 (pat L x)) := HR.out.congr fun i hi => by rw [if_pos (by have := HM.out; omega)]
        have HR2 := Lib.hid hrow
        clear hrow HR
        go_wp2_with fail
        go_ret2
        rw [HL.out.1, HL.out.2]
        refine SOut.row HR2.out ?_ HB.out
        rw [← HLL.out]; exact tab_pat L
  · have hge : bin n k ≤ r := by omega
    have HL := Lib.hid (cat_none hn hge)
    generalize bin n k = v at *
    clear hlt
    go_enter Try.func64, Try.ntmps64
    go_wp2_with fail
    refine HOF.out.mono ?_
    rintro e w' ⟨rfl, d0, rfl⟩
    go_wp2_with fail
    go_ret2
    rw [HL.out.1, HL.out.2]
    exact SOut.nil_ (below_drewN (Below.refl _ _) d0)
end Go.Proofs.Ytmcbkjepjijfjaa
