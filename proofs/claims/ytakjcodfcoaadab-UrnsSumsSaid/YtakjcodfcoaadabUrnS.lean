/- Package urns: Sums and Spread, walked. No condition. -/
import Derived.Test.YtakjcodfcoaadabComW
import Derived.Test.YtakjcodfcoaadabUrnQ
import Derived.Test.YtakjcodfcoaadabUrnW
namespace Go.Proofs.Ytakjcodfcoaadab
open Go.ChangeShapes Go.WideShapes Go.ChangeAt Go.RowKit

def cofp (n k : Int) : Int × Int := if n < 0 ∨ 60 < n ∨ k < 0 then (0, 2) else (cof n k, 0)
set_option maxRecDepth 20000 in
set_option maxHeartbeats 2000000 in
theorem cOf_any (n k : Int) (w : World) :
    Calls Try.prog 57 #[.int .i64 n, .int .i64 k] w fun e w' => e = .returned (.tuple #[.int .i64 (cofp n k).1, .int .i64 (cofp n k).2]) ∧ ∃ m, w' = w.drewN m := by
  by_cases h1 : n < 0
  · have hf : Hid (cofp n k = (0, 2)) := if_pos (.inl h1)
    go_enter Try.func57, Try.ntmps57
    go_wp2
    go_ret2
    exact ⟨ret_2 hf.out, 0, rfl⟩
  by_cases h2 : 60 < n
  · have hf : Hid (cofp n k = (0, 2)) := if_pos (.inr (.inl h2))
    go_enter Try.func57, Try.ntmps57
    go_wp2
    go_ret2
    exact ⟨ret_2 hf.out, 0, rfl⟩
  by_cases h3 : k < 0
  · have hf : Hid (cofp n k = (0, 2)) := if_pos (.inr (.inr h3))
    go_enter Try.func57, Try.ntmps57
    go_wp2
    go_ret2
    exact ⟨ret_2 hf.out, 0, rfl⟩
  have hf : Hid (cofp n k = (cof n k, 0)) := if_neg (by omega)
  go_enter Try.func57, Try.ntmps57
  go_wp2_with fail
  refine (cof_any n k _ (by omega) (by omega)).mono ?_
  rintro e w1 ⟨rfl, m, rfl⟩
  go_wp2
  go_ret2
  exact ⟨ret_2 hf.out, m, rfl⟩

def usums (n k : Int) : Int × Int := if n < 0 ∨ 60 < n ∨ k < 0 ∨ 60 < k then (0, 2) else ((vs k.toNat n.toNat n.toNat : Nat), 0)
set_option maxRecDepth 20000 in
set_option maxHeartbeats 2000000 in
theorem sums_good (D K : Nat) (w : World) (hN : D + K ≤ 60) (hK : 1 ≤ K) :
    Calls Try.prog 39 #[.int .i64 ((D : Int) + (K : Int)), .int .i64 K] w fun e w' => e = .returned (.tuple #[.int .i64 (prt K D : Nat), .int .i64 0]) ∧ Below w.heap.size w w' := by
  have hmk := run_make_row' (P := Try.prog) 22 3 (.int .i64 0) 8 Try.underlying22 (by kernel_rfl) rfl .i64 .i64 (D + 1) (by omega) (by omega)
  rw [show ((D + 1 : Nat) : Int) = (D : Int) + 1 by omega] at hmk
  have R0 : Hid ((w.alloc (.cells ((madeCells #[.int .i64 0] (D + 1)).setIfInBounds 0 (.int .i64 1)) 3)).rowIs w.heap.size 3 (D + 1) (fun i => .int .i64 (prt 0 i : Nat))) := made_set0 w (D + 1) _ _ (fun i hi => by
    cases i with
    | zero => rw [prt_zero_zero]; rfl
    | succ i => rw [prt_zero_succ]; rfl)
  have R1 := World.rowIs_made w (.int .i64 0) (D + 1) 3
  have r1 := R1.cell (show 0 < D + 1 by omega)
  have r2 := R1.frozen 0
  have hsub : (D : Int) + (K : Int) - (K : Int) = (D : Int) := by omega
  have d1 : ((K : Int) == 0) = false := by simp; omega
  have d2 : decide ((D : Int) + (K : Int) < (K : Int)) = false := decide_eq_false (by omega)
  have d3 : decide ((D : Int) + (K : Int) < 0) = false := decide_eq_false (by omega)
  have d4 : decide (60 < (D : Int) + (K : Int)) = false := decide_eq_false (by omega)
  have d5 : decide ((K : Int) < 0) = false := decide_eq_false (by omega)
  have d6 : decide (60 < (K : Int)) = false := decide_eq_false (by omega)
  clear R1
  go_enter Try.func39, Try.ntmps39
  go_wp2_with fail
  clear hmk r1 r2 d1 d2 d3 d4 d5 d6
  have HS := Lib.hid hsub
  clear hsub
  go_loopw [7] (fun s7 wr => ∃ s : Nat, s ≤ K ∧ s7 = .int .i64 ((s : Int) + 1) ∧ wr.rowIs w.heap.size 3 (D + 1) (fun i => .int .i64 (prt s i : Nat)) ∧ Below w.heap.size w wr) (fun s7 _ => K + 1 - (intOf s7).toNat)
  case atStart => exact ⟨0, Nat.zero_le _, rfl, R0.out, (Below.refl _ _).alloc (Nat.le_refl _) _⟩
  case round =>
    obtain ⟨s, hs, rfl, hrow, hbel⟩ := hrel
    have HR := Lib.hid hrow
    have HB := Lib.hid hbel
    clear hrow hbel R0
    by_cases hlt : s < K
    · obtain ⟨wo, rfl⟩ : ∃ wo : World, wo = wr := ⟨_, rfl⟩
      have d1 : decide ((s : Int) + 1 ≤ (K : Int)) = true := decide_eq_true (by omega)
      go_wp2_with fail
      clear d1
      go_loopw [8] (fun s8 wr => ∃ q : Nat, s + 1 + q ≤ D + 1 + s + 1 ∧ (q = 0 ∨ s + 1 + q ≤ D + 1) ∧ s8 = .int .i64 ((s : Int) + 1 + (q : Int)) ∧ wr.rowIs w.heap.size 3 (D + 1) (fun i => .int .i64 (if i < s + 1 + q then prt (s + 1) i else prt s i : Nat)) ∧ Below w.heap.size w wr) (fun s8 _ => D + s + 2 - (intOf s8).toNat)
      case atStart => exact ⟨0, by omega, .inl rfl, by simp, HR.out.congr (fun i hi => by
        split
        · rw [prt_lt (by omega)]
        · rfl), HB.out⟩
      case round =>
        obtain ⟨q, hq, hq2, rfl, hrow2, hbel2⟩ := hrel
        have HR2 := Lib.hid hrow2
        have HB2 := Lib.hid hbel2
        by_cases hj1 : s + 1 + q ≤ D
        · have c1 := hrow2.cell (show s + 1 + q < D + 1 by omega)
          have c2 := hrow2.cell (show q < D + 1 by omega)
          have f1 := hrow2.frozen (s + 1 + q)
          rw [if_neg (by omega)] at c1
          rw [if_pos (by omega)] at c2
          have b1 : prt s (s + 1 + q) ≤ 1152921504606846976 := prt_small (by omega)
          have b2 : prt (s + 1) q ≤ 1152921504606846976 := prt_small (by omega)
          have b3 : prt (s + 1) (s + 1 + q) ≤ 1152921504606846976 := prt_small (by omega)
          have HX : Hid (prt (s + 1) (s + 1 + q) = prt s (s + 1 + q) + prt (s + 1) q) := by unfold Hid; rw [prt_ge (by omega), show s + 1 + q - (s + 1) = q by omega]
          have ic : ((s + 1 + q : Nat) : Int) = (s : Int) + 1 + (q : Int) := by omega
          have hX : (((prt s (s + 1 + q) : Nat) : Int) + (prt (s + 1) q : Nat)) = (prt (s + 1) (s + 1 + q) : Nat) := by rw [HX.out]; omega
          have m3 : IntKind.i64.wrap (((prt s (s + 1 + q) : Nat) : Int) + (prt (s + 1) q : Nat)) = (prt (s + 1) (s + 1 + q) : Nat) := by rw [hX]; exact IntWalk.i64_in _ (by omega)
          have m4 : IntKind.i64.wrap ((s : Int) + 1 + (q : Int) - ((s : Int) + 1)) = (q : Int) := by rw [show (s : Int) + 1 + (q : Int) - ((s : Int) + 1) = q by omega]; exact IntWalk.i64_in _ (by omega)
          have i1 : (s : Int) + 1 + (q : Int) < (D : Int) + 1 := by omega
          have i2 : (q : Int) < (D : Int) + 1 := by omega
          have i3 : (0 : Int) ≤ (s : Int) + 1 + (q : Int) := by omega
          have i4 : (0 : Int) ≤ (q : Int) := by omega
          have i5 : ((s : Int) + 1 + (q : Int)).toNat = s + 1 + q := by omega
          have hs2 := HS.out
          have HM : Hid (IntKind.i64.wrap (((prt s (s + 1 + q) : Nat) : Int) + (prt (s + 1) q : Nat)) = (prt (s + 1) (s + 1 + q) : Nat) ∧ IntKind.i64.wrap ((s : Int) + 1 + (q : Int) - ((s : Int) + 1)) = (q : Int)) := ⟨m3, m4⟩
          clear hrow2 hbel2 hX m3 m4 ic
          generalize hx : prt s (s + 1 + q) = x at *
          generalize hy : prt (s + 1) q = y at *
          generalize hz : prt (s + 1) (s + 1 + q) = z at *
          have HZ := Lib.hid hz
          clear hx hy hz
          go_wp2_with fail
          obtain ⟨m3, m4⟩ := HM.out
          go_still_tail 12, (by kernel_rfl)
          change wpList _ _ _ _ _ wr.drew
          clear m3 m4
          go_wp2_with fail
          go_roundw
          case rel =>
            refine ⟨q + 1, by omega, by omega, by go_num, ((HR2.out.drew).set (s + 1 + q) _).congr ?_, (Below.drew HB2.out).setCell (Nat.le_refl _) _⟩
            intro i hi
            by_cases h1 : i = s + 1 + q
            · subst h1; rw [if_pos rfl, if_pos (by omega), HZ.out]
            · rw [if_neg h1]
              by_cases h2 : i < s + 1 + q
              · rw [if_pos h2, if_pos (by omega)]
              · rw [if_neg h2, if_neg (by omega)]
          case measure => simp [intOf]; omega
        · have d1 : decide ((s : Int) + 1 + (q : Int) ≤ (D : Int)) = false := decide_eq_false (by omega)
          have hs2 := HS.out
          clear hrow2 hbel2
          go_wp2_with fail
          go_roundw
          case rel =>
            refine ⟨s + 1, by omega, by go_num, HR2.out.congr ?_, HB2.out⟩
            intro i hi
            rw [if_pos (by omega)]
          case measure => simp [intOf]; omega
    · obtain rfl : s = K := by omega
      have c1 := HR.out.cell (show D < D + 1 by omega)
      have d1 : decide ((s : Int) + 1 ≤ (s : Int)) = false := decide_eq_false (by omega)
      have hs2 := HS.out
      go_wp2_with fail
      go_ret2
      exact ⟨rfl, HB.out⟩
theorem sums_any (n k : Int) (w : World) : Calls Try.prog 39 #[.int .i64 n, .int .i64 k] w fun e w' => e = .returned (.tuple #[.int .i64 (usums n k).1, .int .i64 (usums n k).2]) ∧ Below w.heap.size w w' := by
  by_cases h0 : n < 0
  · have hf : Hid (usums n k = (0, 2)) := if_pos (by omega)
    go_enter Try.func39, Try.ntmps39
    go_wp2
    go_ret2
    exact ⟨ret_2 hf.out, Below.refl _ _⟩
  by_cases h1 : 60 < n
  · have hf : Hid (usums n k = (0, 2)) := if_pos (by omega)
    go_enter Try.func39, Try.ntmps39
    go_wp2
    go_ret2
    exact ⟨ret_2 hf.out, Below.refl _ _⟩
  by_cases h2 : k < 0
  · have hf : Hid (usums n k = (0, 2)) := if_pos (by omega)
    go_enter Try.func39, Try.ntmps39
    go_wp2
    go_ret2
    exact ⟨ret_2 hf.out, Below.refl _ _⟩
  by_cases h3 : 60 < k
  · have hf : Hid (usums n k = (0, 2)) := if_pos (by omega)
    go_enter Try.func39, Try.ntmps39
    go_wp2
    go_ret2
    exact ⟨ret_2 hf.out, Below.refl _ _⟩
  obtain ⟨N, rfl⟩ : ∃ N : Nat, n = N := ⟨n.toNat, by omega⟩
  obtain ⟨K, rfl⟩ : ∃ K : Nat, k = K := ⟨k.toNat, by omega⟩
  have hu : Hid (usums N K = (((vs K N N : Nat) : Int), 0)) := if_neg (by omega)
  by_cases hk : K = 0
  · subst hk
    by_cases hn : N = 0
    · subst hn
      have hf : Hid (usums (0 : Nat) (0 : Nat) = (1, 0)) := rfl
      clear hu
      go_enter Try.func39, Try.ntmps39
      go_wp2
      go_ret2
      exact ⟨ret_2 hf.out, Below.refl _ _⟩
    · have hf : Hid (usums N (0 : Nat) = (0, 0)) := by unfold Hid; rw [hu.out]; unfold vs; rw [if_neg hn]; rfl
      have d1 : ((N : Int) == 0) = false := by simp; omega
      clear hu hn
      go_enter Try.func39, Try.ntmps39
      go_wp2
      go_ret2
      exact ⟨ret_2 hf.out, Below.refl _ _⟩
  have d2 : ((K : Int) == 0) = false := by simp; omega
  by_cases hkn : N < K
  · have hf : Hid (usums N K = (0, 0)) := by unfold Hid; rw [hu.out, vs_less hkn]; rfl
    have d3 : decide ((N : Int) < (K : Int)) = true := decide_eq_true (by omega)
    clear hu hk
    by_cases hn : N = 0
    · subst hn
      go_enter Try.func39, Try.ntmps39
      go_wp2
      go_ret2
      exact ⟨ret_2 hf.out, Below.refl _ _⟩
    · have d1 : ((N : Int) == 0) = false := by simp; omega
      clear hn
      go_enter Try.func39, Try.ntmps39
      go_wp2
      go_ret2
      exact ⟨ret_2 hf.out, Below.refl _ _⟩
  obtain ⟨D, rfl⟩ : ∃ D : Nat, N = D + K := ⟨N - K, by omega⟩
  rw [hu.out, vs_prt K (D + K) (by omega), Nat.add_sub_cancel]
  exact sums_good D K w (by omega) (by omega)

def uspread (n k : Int) : Int × Int := if n < 0 ∨ k < 0 ∨ 60 < n + k then (0, 2) else if k = 0 then (if n = 0 then 1 else 0, 0) else (ebin (n + k - 1) n, 0)
theorem spread_any (n k : Int) (w : World) (hn1 : n ≤ 9223372036854775807) (hk1 : k ≤ 9223372036854775807) : Calls Try.prog 40 #[.int .i64 n, .int .i64 k] w fun e w' => e = .returned (.tuple #[.int .i64 (uspread n k).1, .int .i64 (uspread n k).2]) ∧ Below w.heap.size w w' := by
  by_cases h0 : n < 0
  · have hf : Hid (uspread n k = (0, 2)) := if_pos (by omega)
    go_enter Try.func40, Try.ntmps40
    go_wp2
    go_ret2
    exact ⟨ret_2 hf.out, Below.refl _ _⟩
  by_cases h1 : k < 0
  · have hf : Hid (uspread n k = (0, 2)) := if_pos (by omega)
    go_enter Try.func40, Try.ntmps40
    go_wp2
    go_ret2
    exact ⟨ret_2 hf.out, Below.refl _ _⟩
  by_cases hov : 9223372036854775807 < n + k
  · have hf : Hid (uspread n k = (0, 2)) := if_pos (by omega)
    have d2 : (k == 0) = false := by simp; omega
    have m1 : IntKind.i64.wrap (n + k) = n + k - 18446744073709551616 := by rw [IntWalk.i64_left]; unfold wrap64; omega
    have m1' : wrap64 (n + k) = n + k - 18446744073709551616 := by unfold wrap64; omega
    by_cases ho2 : n + k = 9223372036854775808
    · have m2 : n + k - 18446744073709551616 = -9223372036854775808 := by omega
      have hf2 : Hid (cofp (wrap64 (-9223372036854775809)) n = (0, 2)) := by
        have e : wrap64 (-9223372036854775809) = 9223372036854775807 := by unfold wrap64; omega
        unfold Hid; rw [e]; exact if_pos (by omega)
      clear hov
      rw [m2] at m1 m1'
      have M1 := Lib.hid (And.intro m1 m1')
      clear m1 m1' m2 ho2
      go_enter Try.func40, Try.ntmps40
      obtain ⟨m1, m1'⟩ := M1.out
      go_wp2_with fail
      refine (cOf_any _ _ _).mono ?_
      rintro e w1 ⟨rfl, m, rfl⟩
      rw [hf2.out]
      go_wp2
      go_ret2
      exact ⟨ret_2 hf.out, below_drewN (Below.refl _ _) m⟩
    · have hf2 : Hid (cofp (n + k - 18446744073709551616 - 1) n = (0, 2)) := if_pos (by omega)
      have b1 : -9223372036854775808 ≤ n + k - 18446744073709551616 - 1 := by omega
      have b2 : n + k - 18446744073709551616 - 1 < 0 := by omega
      have b3 : n + k - 18446744073709551616 < 0 := by omega
      clear hov ho2
      go_enter Try.func40, Try.ntmps40
      go_wp2_with fail
      refine (cOf_any _ _ _).mono ?_
      rintro e w1 ⟨rfl, m, rfl⟩
      rw [hf2.out]
      go_wp2
      go_ret2
      exact ⟨ret_2 hf.out, below_drewN (Below.refl _ _) m⟩
  by_cases h2 : 60 < n + k
  · have hf : Hid (uspread n k = (0, 2)) := if_pos (by omega)
    go_enter Try.func40, Try.ntmps40
    go_wp2
    go_ret2
    exact ⟨ret_2 hf.out, Below.refl _ _⟩
  obtain ⟨N, rfl⟩ : ∃ N : Nat, n = N := ⟨n.toNat, by omega⟩
  obtain ⟨K, rfl⟩ : ∃ K : Nat, k = K := ⟨k.toNat, by omega⟩
  have hu : Hid (uspread N K = if (K : Int) = 0 then (if (N : Int) = 0 then 1 else 0, 0) else (ebin (N + K - 1) N, 0)) := if_neg (by omega)
  clear hn1 hk1 hov
  by_cases hk : K = 0
  · subst hk
    by_cases hn : N = 0
    · subst hn
      have hf : Hid (uspread (0 : Nat) (0 : Nat) = (1, 0)) := rfl
      clear hu
      go_enter Try.func40, Try.ntmps40
      go_wp2
      go_ret2
      exact ⟨ret_2 hf.out, Below.refl _ _⟩
    · have hf : Hid (uspread N (0 : Nat) = (0, 0)) := by unfold Hid; rw [hu.out, if_pos (show ((0 : Nat) : Int) = 0 from rfl), if_neg (by omega)]
      have d1 : ((N : Int) == 0) = false := by simp; omega
      clear hu hn
      go_enter Try.func40, Try.ntmps40
      go_wp2
      go_ret2
      exact ⟨ret_2 hf.out, Below.refl _ _⟩
  have d2 : ((K : Int) == 0) = false := by simp; omega
  have hf : Hid (uspread N K = (cofp ((N : Int) + (K : Int) - 1) N)) := by
    unfold Hid cofp cof
    rw [hu.out, if_neg (by omega), if_neg (by omega), if_neg (by omega)]
    unfold ebin
    rw [if_neg (by omega)]
  clear hu hk
  go_enter Try.func40, Try.ntmps40
  go_wp2_with fail
  refine (cOf_any _ _ _).mono ?_
  rintro e w1 ⟨rfl, m, rfl⟩
  rw [← hf.out]
  go_wp2
  go_ret2
  exact ⟨rfl, below_drewN (Below.refl _ _) m⟩
end Go.Proofs.Ytakjcodfcoaadab
