/- The reference's EOf walked: PASCAL's triangle. No condition. -/
import Derived.Test.YtmnjgoicppknjaaBase2
import Derived.Test.YtmnjgoicppknjaaBinM
namespace Go.Proofs.Ytmnjgoicppknjaa
open Go.ChangeShapes Go.WideShapes Go.ChangeAt Go.RowKit

/-- The next row of the triangle, when so many of the last one were added. -/
def nx (s j i : Nat) : Nat := (if i < j then bin s i else 0) + (if 1 ≤ i ∧ i ≤ j then bin s (i - 1) else 0)
theorem nx_zero (s i : Nat) : nx s 0 i = 0 := by unfold nx; rw [if_neg (by omega), if_neg (by omega)]
theorem nx_all (s i : Nat) (h : i ≤ s + 1) : nx s (s + 1) i = bin (s + 1) i := by
  unfold nx
  cases i with
  | zero => rw [if_pos (by omega), if_neg (by omega), bin_zero, bin_zero]
  | succ i =>
    rw [if_pos (show 1 ≤ i + 1 ∧ i + 1 ≤ s + 1 by omega), Nat.add_sub_cancel, bin_succ]
    by_cases hi : i + 1 < s + 1
    · rw [if_pos hi]; omega
    · rw [if_neg hi, bin_gt (show s < i + 1 by omega)]; omega
theorem nx_at (s j : Nat) : nx s j j = if 1 ≤ j then bin s (j - 1) else 0 := by
  unfold nx; rw [if_neg (by omega)]; simp
theorem nx_next (s j : Nat) : nx s j (j + 1) = 0 := by unfold nx; rw [if_neg (by omega), if_neg (by omega)]
theorem nx_step (s j i : Nat) : nx s (j + 1) i = if i = j + 1 then bin s j else if i = j then nx s j j + bin s j else nx s j i := by
  by_cases h1 : i = j + 1
  · subst h1
    rw [if_pos rfl]; unfold nx; rw [if_neg (by omega), if_pos (by omega), Nat.add_sub_cancel]; omega
  · rw [if_neg h1]
    by_cases h2 : i = j
    · subst h2
      rw [if_pos rfl, nx_at]
      unfold nx
      rw [if_pos (by omega)]
      by_cases h3 : 1 ≤ i
      · rw [if_pos (by omega), if_pos h3]; omega
      · rw [if_neg (by omega), if_neg h3]; omega
    · rw [if_neg h2]
      unfold nx
      by_cases h3 : i < j
      · rw [if_pos h3, if_pos (by omega)]
        by_cases h4 : 1 ≤ i
        · rw [if_pos (by omega), if_pos (by omega)]
        · rw [if_neg (by omega), if_neg (by omega)]
      · rw [if_neg h3, if_neg (by omega), if_neg (by omega), if_neg (by omega)]
theorem nx_small {s : Nat} (h : s ≤ 61) (j : Nat) : nx s j j ≤ 2305843009213693952 := by
  rw [nx_at]; split
  · exact bin_small h _
  · omega
theorem ret_i64 {a b : Int} (h : a = b) : Ending.returned (.int .i64 a) = .returned (.int .i64 b) := by rw [h]

set_option maxRecDepth 20000 in
set_option maxHeartbeats 2000000 in
theorem eof_any (n k : Int) (w : World) (hn : n ≤ 61) :
    Calls Try.prog 19 #[.int .i64 n, .int .i64 k] w fun e w' => e = .returned (.int .i64 (ebin n k)) ∧ Below w.heap.size w w' := by
  obtain ⟨N, hN⟩ : ∃ N : Nat, N = n.toNat := ⟨_, rfl⟩
  have HN := Lib.hid hN
  have hN61 : N ≤ 61 := by omega
  have hN1 : n ≤ (N : Int) := by omega
  have HNN : Hid ((0 ≤ n → n = N) ∧ (n < 0 → N = 0)) := by unfold Hid; omega
  clear hN
  have R0 : Hid ((w.alloc (.cells #[.int .i64 1] 3)).rowIs w.heap.size 3 1 (fun i => .int .i64 (bin 0 i : Nat))) :=
    World.rowIs_alloc w #[.int .i64 1] 3 (fun i => .int .i64 (bin 0 i : Nat)) (fun i hi => by
      have : i = 0 := Nat.lt_one_iff.1 hi
      subst this; rfl)
  go_enter Try.func19, Try.ntmps19
  go_wp2_with fail
  go_loopw [5, 11] (fun s5 s11 wr => ∃ s g : Nat, s ≤ N ∧ s11 = .int .i64 s ∧ s5 = .slice (some ⟨g, 0, none⟩) (s + 1) (s + 1) ∧ wr.rowIs g 3 (s + 1) (fun i => .int .i64 (bin s i : Nat)) ∧ Below w.heap.size w wr ∧ w.heap.size ≤ g) (fun _ s11 _ => N - (intOf s11).toNat)
  case atStart => exact ⟨0, w.heap.size, Nat.zero_le _, rfl, rfl, R0.out, (Below.refl _ _).alloc (Nat.le_refl _) _, Nat.le_refl _⟩
  case round =>
    obtain ⟨s, g, hs, rfl, rfl, hrow, hbel, hg⟩ := hrel
    have HR := Lib.hid hrow
    have HB := Lib.hid hbel
    have HG := Lib.hid hg
    clear hrow hbel hg R0
    by_cases hlt : (s : Int) < n
    · have hlt' : s < N := by have := HNN.out.1 (by omega); omega
      have hmk := run_make_row' (P := Try.prog) 22 3 (.int .i64 0) 8 Try.underlying22 (by kernel_rfl) rfl .i64 .i64 (s + 1 + 1) (by omega) (by omega)
      rw [show ((s + 1 + 1 : Nat) : Int) = (s : Int) + 1 + 1 by omega] at hmk
      obtain ⟨wo, rfl⟩ : ∃ wo : World, wo = wr := ⟨_, rfl⟩
      go_wp2_with fail
      clear hmk
      go_loopw [19] (fun s19 wr => ∃ j : Nat, j ≤ s + 1 ∧ s19 = .int .i64 j ∧ wr.rowIs wo.heap.size 3 (s + 1 + 1) (fun i => .int .i64 (nx s j i : Nat)) ∧ Below wo.heap.size wo wr) (fun s19 _ => s + 1 - (intOf s19).toNat)
      case atStart => exact ⟨0, Nat.zero_le _, rfl, (World.rowIs_made wo (.int .i64 0) (s + 1 + 1) 3).congr (fun i hi => by rw [nx_zero]; rfl), (Below.refl _ _).alloc (Nat.le_refl _) _⟩
      case round =>
        obtain ⟨j, hj, rfl, hrow2, hbel2⟩ := hrel
        have HR2 := Lib.hid hrow2
        have HB2 := Lib.hid hbel2
        clear hrow2 hbel2
        by_cases hjs : j < s + 1
        · have hc0 := (rowIs_below HR.out HB2.out HR.out.lt).cell hjs
          have hc1 := HR2.out.cell (show j < s + 1 + 1 by omega)
          have hc2 := HR2.out.cell (show j + 1 < s + 1 + 1 by omega)
          have hf1 := HR2.out.frozen j
          have hf2 := HR2.out.frozen (j + 1)
          have hne : ¬ j + 1 = j := by omega
          rw [nx_next] at hc2
          have hb1 := bin_small (n := s) (by omega) j
          have hb2 := nx_small (s := s) (by omega) j
          have HX : Hid (∀ i, nx s (j + 1) i = if i = j + 1 then bin s j else if i = j then nx s j j + bin s j else nx s j i) := nx_step s j
          generalize hx : bin s j = x at *
          generalize hy : nx s j j = y at *
          clear hx hy
          go_wp2_with fail
          go_roundw
          case rel =>
            refine ⟨j + 1, by omega, by go_num, ((HR2.out.set j _).set (j + 1) _).congr ?_, (HB2.out.setCell (by simp) _).setCell (by simp) _⟩
            intro i hi
            rw [HX.out i]
            by_cases h1 : i = j + 1
            · rw [if_pos h1, if_pos h1]
            · rw [if_neg h1, if_neg h1]
              by_cases h2 : i = j
              · rw [if_pos h2, if_pos h2]; rfl
              · rw [if_neg h2, if_neg h2]
          case measure => simp [intOf]; omega
        · have hje : j = s + 1 := by omega
          subst hje
          go_wp2_with fail
          go_roundw
          case rel => exact ⟨s + 1, wo.heap.size, by omega, by go_num, rfl, HR2.out.congr (fun i hi => by rw [nx_all _ _ (by omega)]), HB.out.trans (HB2.out.mono HB.out.size), HB.out.size⟩
          case measure => simp [intOf]; omega
    · have hsn : s = N := by have := HNN.out; omega
      subst hsn
      by_cases hk0 : k < 0
      · have hf : Hid (ebin n k = 0) := if_pos hk0
        go_wp2_with fail
        go_ret
        exact ⟨ret_i64 hf.out.symm, HB.out⟩
      · obtain ⟨m, rfl⟩ : ∃ m : Nat, k = m := ⟨k.toNat, by omega⟩
        have hf : Hid (ebin n m = (bin s m : Nat)) := by unfold Hid ebin; rw [if_neg hk0, ← HN.out]; rfl
        by_cases hks : m < s + 1
        · have hc := HR.out.cell hks
          generalize bin s m = x at *
          go_wp2_with fail
          go_ret
          exact ⟨ret_i64 hf.out.symm, HB.out⟩
        · have hz : Hid (ebin n m = 0) := by have := hf.out; rwa [bin_gt (by omega)] at this
          go_wp2_with fail
          go_ret
          exact ⟨ret_i64 hz.out.symm, HB.out⟩
end Go.Proofs.Ytmnjgoicppknjaa
