/- Package urns: Bell and Wrongly, walked; the reference's VWrongly, VBell, VOnto. No condition. -/
import Derived.Test.YtakjcodfcoaadabUrnW
namespace Go.Proofs.Ytakjcodfcoaadab
open Go.ChangeShapes Go.WideShapes Go.ChangeAt Go.RowKit

def uone (n : Int) (f : Nat → Nat) : Int × Int := if n < 0 ∨ 20 < n then (0, 2) else ((f n.toNat : Nat), 0)
theorem uwrong_zero (n : Int) : uwrong n 0 = decide (n < 0 ∨ 20 < n) := by
  unfold uwrong
  by_cases h : n < 0 ∨ 20 < n
  · rw [decide_eq_true h, decide_eq_true (by omega)]
  · rw [decide_eq_false h, decide_eq_false (by omega)]
set_option maxRecDepth 20000 in
set_option maxHeartbeats 2000000 in
theorem bell_any (n : Int) (w : World) : Calls Try.prog 28 #[.int .i64 n] w fun e w' => e = .returned (.tuple #[.int .i64 (uone n bell).1, .int .i64 (uone n bell).2]) ∧ Below w.heap.size w w' := by
  by_cases h : n < 0 ∨ 20 < n
  · have hf : Hid (uone n bell = (0, 2)) := if_pos h
    have hw : uwrong n 0 = true := by rw [uwrong_zero]; exact decide_eq_true h
    clear h
    go_enter Try.func28, Try.ntmps28
    go_wp2_with fail
    refine (uwrong_any n 0 _).mono ?_
    rintro e w' ⟨rfl, rfl⟩
    rw [hw]
    clear hw
    go_wp2
    go_ret2
    exact ⟨ret_2 hf.out, Below.refl _ _⟩
  · obtain ⟨N, rfl⟩ : ∃ N : Nat, n = N := ⟨n.toNat, by omega⟩
    have hN : N ≤ 20 := by omega
    have hf : Hid (uone N bell = (((bell N : Nat) : Int), 0)) := if_neg h
    have hw : uwrong N 0 = false := by rw [uwrong_zero]; exact decide_eq_false h
    clear h
    go_enter Try.func28, Try.ntmps28
    go_wp2_with fail
    refine (uwrong_any N 0 _).mono ?_
    rintro e w' ⟨rfl, rfl⟩
    rw [hw]
    clear hw
    go_wp2_with fail
    go_loopw [12, 4] (fun s12 s4 wr => ∃ k : Nat, k ≤ N + 1 ∧ s12 = .int .i64 k ∧ s4 = .int .i64 (bsum N k : Nat) ∧ Below w.heap.size w wr) (fun s12 _ _ => N + 1 - (intOf s12).toNat)
    case atStart => exact ⟨0, Nat.zero_le _, rfl, rfl, Below.refl _ _⟩
    case round =>
      obtain ⟨k, hk, rfl, rfl, hb⟩ := hrel
      have HB := Lib.hid hb
      clear hb
      by_cases hlt : k < N + 1
      · have b1 := bsum_small0 ⟨N, by omega⟩ ⟨k, by omega⟩
        have b2 := bsum_small0 ⟨N, by omega⟩ ⟨k + 1, by omega⟩
        have HX : Hid (bsum N (k + 1) = bsum N k + stir N k) := rfl
        have b3 := stir_small hN (show k ≤ 20 by omega)
        simp only at b1 b2
        generalize hx : bsum N k = x at *
        clear b2 hx
        go_wp2_with fail
        refine (parts_good N k _ hN (by omega)).mono ?_
        rintro e w1 ⟨rfl, hb1⟩
        have HB1 := Lib.hid hb1
        clear hb1
        generalize hy : stir N k = y at *
        clear hy
        go_wp2_with fail
        go_roundw
        case rel => exact ⟨k + 1, by omega, by go_num, by rw [HX.out]; rfl, HB.out.trans (HB1.out.mono HB.out.size)⟩
        case measure => simp [intOf]; omega
      · obtain rfl : k = N + 1 := by omega
        go_wp2_with fail
        go_ret2
        exact ⟨ret_2 hf.out, HB.out⟩
set_option maxRecDepth 20000 in
set_option maxHeartbeats 2000000 in
theorem wrongly_any (n : Int) (w : World) : Calls Try.prog 29 #[.int .i64 n] w fun e w' => e = .returned (.tuple #[.int .i64 (uone n drg).1, .int .i64 (uone n drg).2]) ∧ w = w' := by
  by_cases h : n < 0 ∨ 20 < n
  · have hf : Hid (uone n drg = (0, 2)) := if_pos h
    have hw : uwrong n 0 = true := by rw [uwrong_zero]; exact decide_eq_true h
    clear h
    go_enter Try.func29, Try.ntmps29
    go_wp2_with fail
    refine (uwrong_any n 0 _).mono ?_
    rintro e w' ⟨rfl, rfl⟩
    rw [hw]
    clear hw
    go_wp2
    go_ret2
    exact ⟨ret_2 hf.out, rfl⟩
  · obtain ⟨N, rfl⟩ : ∃ N : Nat, n = N := ⟨n.toNat, by omega⟩
    have hN : N ≤ 20 := by omega
    have hf : Hid (uone N drg = (((drg N : Nat) : Int), 0)) := if_neg h
    have hw : uwrong N 0 = false := by rw [uwrong_zero]; exact decide_eq_false h
    clear h
    go_enter Try.func29, Try.ntmps29
    go_wp2_with fail
    refine (uwrong_any N 0 _).mono ?_
    rintro e w' ⟨rfl, rfl⟩
    rw [hw]
    clear hw
    go_wp2_with fail
    go_loop [6, 4, 5] (fun s6 s4 s5 => ∃ (k : Nat) (b : Int), k ≤ N ∧ s6 = .int .i64 ((k : Int) + 1) ∧ s4 = .int .i64 (drg k : Nat) ∧ s5 = .int .i64 b ∧ Hid (k < N → b = (drg (k + 1) : Nat))) (fun s6 _ _ => N + 1 - (intOf s6).toNat)
    case atStart => exact ⟨0, 0, Nat.zero_le _, rfl, rfl, rfl, fun _ => rfl⟩
    case round =>
      obtain ⟨k, b, hk, rfl, rfl, rfl, hb⟩ := hrel
      by_cases hlt : k < N
      · have hb' := hb.out hlt
        subst hb'
        have b1 : drg k ≤ 1152921504606846976 := drg_small0 ⟨k, by omega⟩
        have b2 : drg (k + 1) ≤ 1152921504606846976 := drg_small0 ⟨k + 1, by omega⟩
        have HX : Hid (((k : Int) + 1) * ((drg k : Nat) + (drg (k + 1) : Nat)) = (drg (k + 2) : Nat)) := by unfold Hid; rw [drg]; simp
        by_cases hl2 : k + 1 < N
        · have b3 : drg (k + 2) ≤ 1152921504606846976 := drg_small0 ⟨k + 2, by omega⟩
          have b4 : ((k : Int) + 1) * ((drg k : Nat) + (drg (k + 1) : Nat)) ≤ 1152921504606846976 := by rw [HX.out]; omega
          have b5 : 0 ≤ ((k : Int) + 1) * ((drg k : Nat) + (drg (k + 1) : Nat)) := by rw [HX.out]; omega
          clear hb b3
          generalize drg k = x at *
          generalize hy : drg (k + 1) = y at *
          have HY := Lib.hid hy
          clear hy
          go_wp2_with fail
          go_round
          case rel => exact ⟨k + 1, _, by omega, by go_num, by rw [HY.out], rfl, fun _ => HX.out⟩
          case measure => simp [intOf]; omega
        · clear hb HX
          generalize drg k = x at *
          generalize hy : drg (k + 1) = y at *
          have HY := Lib.hid hy
          clear hy
          go_wp2_with fail
          go_round
          case rel => exact ⟨k + 1, _, by omega, by go_num, by rw [HY.out], rfl, fun h => absurd h hl2⟩
          case measure => simp [intOf]; omega
      · obtain rfl : k = N := by omega
        clear hb
        go_wp2_with fail
        go_ret2
        exact ⟨ret_2 hf.out, rfl⟩

/-! ### the reference -/
set_option maxRecDepth 20000 in
set_option maxHeartbeats 2000000 in
theorem vwrongly_any (N : Nat) (w : World) (hN : N ≤ 20) : Calls Try.prog 38 #[.int .i64 N] w fun e w' => e = .returned (.int .i64 (vdrg N)) ∧ w = w' := by
  go_enter Try.func38, Try.ntmps38
  go_wp2_with fail
  go_loop [5, 3, 4] (fun s5 s3 s4 => ∃ (k : Nat) (g : Int), k ≤ N ∧ s5 = .int .i64 ((k : Int) + 1) ∧ s3 = .int .i64 (vdrg k) ∧ s4 = .int .i64 g ∧ -1 ≤ g ∧ g ≤ 1 ∧ Hid (g = if k % 2 = 0 then 1 else -1)) (fun s5 _ _ => N + 1 - (intOf s5).toNat)
  case atStart => exact ⟨0, 1, Nat.zero_le _, rfl, rfl, rfl, by omega, by omega, rfl⟩
  case round =>
    obtain ⟨k, g, hk, rfl, rfl, rfl, hg1, hg2, hg⟩ := hrel
    by_cases hlt : k < N
    · obtain ⟨b1, b2⟩ := vdrg_small0 ⟨k, by omega⟩
      obtain ⟨b3, b4⟩ := vdrg_small0 ⟨k + 1, by omega⟩
      simp only at b1 b2 b3 b4
      have HG : Hid (-g = if (k + 1) % 2 = 0 then 1 else -1) := by
        unfold Hid; rw [hg.out]
        by_cases h : k % 2 = 0
        · rw [if_pos h, if_neg (by omega)]
        · rw [if_neg h, if_pos (by omega)]; rfl
      have HX : Hid (((k : Int) + 1) * vdrg k + -g = vdrg (k + 1)) := by
        unfold Hid
        rw [hg.out]
        show _ = ((k : Int) + 1) * vdrg k + _
        by_cases h : k % 2 = 0
        · rw [if_pos h, if_pos h]
        · rw [if_neg h, if_neg h]; rfl
      have p1 : -1152921504606846978 ≤ ((k : Int) + 1) * vdrg k := by have := HX.out; omega
      have p2 : ((k : Int) + 1) * vdrg k ≤ 1152921504606846978 := by have := HX.out; omega
      clear b3 b4
      generalize vdrg k = x at *
      go_wp2_with fail
      go_round
      case rel => exact ⟨k + 1, _, by omega, by go_num, by rw [HX.out], rfl, by omega, by omega, HG.out⟩
      case measure => simp [intOf]; omega
    · obtain rfl : k = N := by omega
      go_wp2_with fail
      go_ret
      exact ⟨rfl, rfl⟩

theorem bell_get (m i : Nat) (h : i ≤ m) : ((List.range (m + 1)).map fun i => Value.int .i64 (bell i : Nat))[i]? = some (.int .i64 (bell i : Nat)) := by
  rw [List.getElem?_map, List.getElem?_range (by omega)]; rfl
set_option maxRecDepth 20000 in
set_option maxHeartbeats 2000000 in
theorem vbell_any (N : Nat) (w : World) (hN : N ≤ 20) : Calls Try.prog 36 #[.int .i64 N] w fun e w' => e = .returned (.int .i64 (bell N : Nat)) ∧ Below w.heap.size w w' := by
  have HO0 : Hid (Own (w.alloc (.cells #[.int .i64 1] 3)) w.heap.size 3 (.slice (some ⟨w.heap.size, 0, none⟩) 1 1) ((List.range 1).map fun i => .int .i64 (bell i : Nat))) :=
    ⟨rfl, .inr ⟨w.heap.size, 1, #[.int .i64 1], rfl, Nat.le_refl _, (Blk.new w 3 #[.int .i64 1]), Nat.le_refl _, by unfold maxLen; omega, rfl, rfl⟩⟩
  go_enter Try.func36, Try.ntmps36
  go_wp2_with fail
  go_loopw [4, 3] (fun s4 s3 wr => ∃ (m c : Nat) (A : Option Addr), m ≤ N ∧ s4 = .int .i64 ((m : Int) + 1) ∧ s3 = .slice A (m + 1) c ∧ Hid (Own wr w.heap.size 3 (.slice A (m + 1) c) ((List.range (m + 1)).map fun i => .int .i64 (bell i : Nat)) ∧ Below w.heap.size w wr)) (fun s4 _ _ => N + 1 - (intOf s4).toNat)
  case atStart => exact ⟨0, 1, _, Nat.zero_le _, rfl, rfl, HO0.out, (Below.refl _ _).alloc (Nat.le_refl _) _⟩
  case round =>
    clear HO0
    obtain ⟨m, c, A, hm, rfl, rfl, hinv⟩ := hrel
    obtain ⟨g, rfl, hg⟩ := hinv.out.1.at_ (by omega)
    have HO := Lib.hid hinv.out.1
    have HB := Lib.hid hinv.out.2
    clear hinv
    by_cases hlt : m < N
    · obtain ⟨wo, rfl⟩ : ∃ wo : World, wo = wr := ⟨_, rfl⟩
      have hd : decide ((m : Int) + 1 ≤ (N : Int)) = true := decide_eq_true (by omega)
      go_wp2_with fail
      clear hd
      go_loopw [16, 5] (fun s16 s5 wr => ∃ k : Nat, k ≤ m + 1 ∧ s16 = .int .i64 k ∧ s5 = .int .i64 (brow bell m k : Nat) ∧ Below wo.heap.size wo wr) (fun s16 _ _ => m + 1 - (intOf s16).toNat)
      case atStart => exact ⟨0, Nat.zero_le _, rfl, rfl, Below.refl _ _⟩
      case round =>
        obtain ⟨k, hk, rfl, rfl, hb2⟩ := hrel
        have HB2 := Lib.hid hb2
        have HO2 : Hid (Own wr w.heap.size 3 (.slice (some ⟨g, 0, none⟩) (m + 1) c) ((List.range (m + 1)).map fun i => .int .i64 (bell i : Nat))) := HO.out.below hb2 (Nat.le_refl _)
        clear hb2
        by_cases hkm : k < m + 1
        · have hc := HO2.out.cell (bell_get m k (by omega))
          have b1 : brow bell m k ≤ 1152921504606846976 := brow_small0 ⟨m, by omega⟩ ⟨k, by omega⟩ (by simp; omega)
          have b2 : bin m k * bell k ≤ 1152921504606846976 := bell_prod0 ⟨m, by omega⟩ ⟨k, by omega⟩ (by simp; omega)
          have HX : Hid (brow bell m (k + 1) = brow bell m k + bin m k * bell k) := rfl
          have HE : Hid (ebin m k = (bin m k : Nat)) := by unfold Hid ebin; rw [if_neg (by omega)]; rfl
          have HM : Hid (((bin m k * bell k : Nat) : Int) = (bin m k : Nat) * (bell k : Nat)) := Int.natCast_mul _ _
          have b3 : ((bin m k : Nat) : Int) * (bell k : Nat) ≤ 1152921504606846976 := by rw [← HM.out]; omega
          have b4 : 0 ≤ ((bin m k : Nat) : Int) * (bell k : Nat) := by rw [← HM.out]; omega
          clear b2
          generalize hy : brow bell m k = y at *
          generalize hx : bell k = x at *
          clear hx hy
          go_wp2_with fail
          refine (eof_any m k _ (by omega)).mono ?_
          rintro e w1 ⟨rfl, hb3⟩
          rw [HE.out]
          have HB3 := Lib.hid hb3
          clear hb3
          generalize bin m k = z at *
          go_wp2_with fail
          go_roundw
          case rel => exact ⟨k + 1, by omega, by go_num, by rw [HX.out, ← HM.out]; go_num, HB2.out.trans (HB3.out.mono HB2.out.size)⟩
          case measure => simp [intOf]; omega
        · obtain rfl : k = m + 1 := by omega
          have HX : Hid (brow bell m (m + 1) = bell (m + 1)) := bell_step0 ⟨m, by omega⟩
          have hL : ((List.range (m + 1)).map fun i => Value.int .i64 (bell i : Nat)).length ≤ 21 := by simp; omega
          have HT : Hid (((List.range (m + 1 + 1)).map fun i => Value.int .i64 (bell i : Nat)) = ((List.range (m + 1)).map fun i => Value.int .i64 (bell i : Nat)) ++ [.int .i64 (bell (m + 1) : Nat)]) := by
            unfold Hid; rw [List.range_succ, List.map_append]; rfl
          rw [HX.out]
          have hbase : w.heap.size ≤ wr.heap.size := Nat.le_trans HB.out.size HB2.out.size
          generalize hz : bell (m + 1) = z at *
          have HZ := Lib.hid hz
          clear hz
          go_wp2_with (first
            | (at_builtin; go_must (refine wpList_push _ rfl _ _ 22 3 8 elem_ints rfl w.heap.size _ _ rfl (Own.alloc' HO2.out _) (.int .i64 z) ⟨wr.heap.size, 0, none⟩ 1 rfl (cell_new1 _ _ _) rfl (by omega) (by unfold maxLen; omega) (by simp; omega) ?_); intro v3 w3 hown3 hbel3; obtain ⟨A3, n3, e3, _, s3⟩ := hown3.res2; rw [List.length_append, List.length_map, List.length_range, List.length_singleton] at e3 s3; subst e3; have HO3 := Lib.hid s3; have HE3 := Lib.hid hbel3; clear hown3 hbel3; clear s3)
            | fail)
          go_roundw
          case rel => exact ⟨m + 1, n3, A3, by omega, by go_num, rfl, by rw [HT.out]; exact HO3.out, (HB.out.trans (HB2.out.mono HB.out.size)).alloc hbase _ |>.trans HE3.out⟩
          case measure => simp [intOf]; omega
    · obtain rfl : m = N := by omega
      have hc := HO.out.cell (bell_get m m (Nat.le_refl _))
      go_wp2_with fail
      go_ret
      exact ⟨rfl, HB.out⟩
end Go.Proofs.Ytakjcodfcoaadab
