/- Package urns: Parts, Onto, Bell and Wrongly, walked. No condition. -/
import Derived.Test.YtakjcodfcoaadabEOf
import Derived.Test.YtakjcodfcoaadabUrnM
import Derived.StillTailTactics
import Derived.IntWalk
namespace Go.Proofs.Ytakjcodfcoaadab
open Go.ChangeShapes Go.WideShapes Go.ChangeAt Go.RowKit

/-- Is a number too great? -/
def uwrong (n k : Int) : Bool := decide (n < 0 ∨ 20 < n ∨ k < 0 ∨ 20 < k)
theorem ret_b {a b : Bool} (h : a = b) : Ending.returned (.bool a) = .returned (.bool b) := by rw [h]
theorem ret_2 {a b : Int} {r : Int × Int} (h : r = (a, b)) : Ending.returned (.tuple #[.int .i64 a, .int .i64 b]) = .returned (.tuple #[.int .i64 r.1, .int .i64 r.2]) := by rw [h]
theorem uwrong_any (n k : Int) (w : World) : Calls Try.prog 56 #[.int .i64 n, .int .i64 k] w fun e w' => e = .returned (.bool (uwrong n k)) ∧ w = w' := by
  by_cases h1 : n < 0
  · have hf : Hid (uwrong n k = true) := decide_eq_true (.inl h1)
    go_enter Try.func56, Try.ntmps56
    go_wp2
    go_ret
    exact ⟨ret_b hf.out.symm, rfl⟩
  by_cases h2 : 20 < n
  · have hf : Hid (uwrong n k = true) := decide_eq_true (.inr (.inl h2))
    go_enter Try.func56, Try.ntmps56
    go_wp2
    go_ret
    exact ⟨ret_b hf.out.symm, rfl⟩
  by_cases h3 : k < 0
  · have hf : Hid (uwrong n k = true) := decide_eq_true (.inr (.inr (.inl h3)))
    go_enter Try.func56, Try.ntmps56
    go_wp2
    go_ret
    exact ⟨ret_b hf.out.symm, rfl⟩
  by_cases h4 : 20 < k
  · have hf : Hid (uwrong n k = true) := decide_eq_true (.inr (.inr (.inr h4)))
    go_enter Try.func56, Try.ntmps56
    go_wp2
    go_ret
    exact ⟨ret_b hf.out.symm, rfl⟩
  have hf : Hid (uwrong n k = false) := decide_eq_false (by omega)
  go_enter Try.func56, Try.ntmps56
  go_wp2
  go_ret
  exact ⟨ret_b hf.out.symm, rfl⟩
theorem uwrong_no {n k : Int} (h : uwrong n k = false) : ∃ N K : Nat, n = N ∧ k = K ∧ N ≤ 20 ∧ K ≤ 20 := by
  have := of_decide_eq_false h
  exact ⟨n.toNat, k.toNat, by omega, by omega, by omega, by omega⟩

theorem made_set0 (w : World) (n : Nat) (v : Value) (f : Nat → Value) (hf : ∀ i, i < n → (if i = 0 then v else .int .i64 0) = f i) :
    (w.alloc (.cells ((madeCells #[.int .i64 0] n).setIfInBounds 0 v) 3)).rowIs w.heap.size 3 n f := by
  obtain ⟨c, hb, hs, hc⟩ := World.rowIs_made w (.int .i64 0) n 3
  have hcs : (madeCells #[.int .i64 0] n).size = n := size_madeCells _ _
  have := World.rowIs_alloc w ((madeCells #[.int .i64 0] n).setIfInBounds 0 v) 3 f (fun i hi => by
    have hi' : i < n := by simpa [hcs] using hi
    rw [Array.getElem?_setIfInBounds, ← hf i hi']
    by_cases h : 0 = i
    · subst h; rw [if_pos rfl, if_pos rfl, if_pos (by rw [hcs]; exact hi')]
    · rw [if_neg h, if_neg (fun e => h e.symm)]
      simp [madeCells, hi', Nat.mod_one])
  rwa [Array.size_setIfInBounds, hcs] at this
def uparts (n k : Int) : Int × Int := if uwrong n k then (0, 2) else ((stir n.toNat k.toNat : Nat), 0)
set_option maxRecDepth 20000 in
set_option maxHeartbeats 2000000 in
theorem parts_good (N K : Nat) (w : World) (hN : N ≤ 20) (hK : K ≤ 20) :
    Calls Try.prog 26 #[.int .i64 N, .int .i64 K] w fun e w' => e = .returned (.tuple #[.int .i64 (stir N K : Nat), .int .i64 0]) ∧ Below w.heap.size w w' := by
  have hw : uwrong N K = false := decide_eq_false (by omega)
  have hmk := run_make_row' (P := Try.prog) 22 3 (.int .i64 0) 8 Try.underlying22 (by kernel_rfl) rfl .i64 .i64 (K + 1) (by omega) (by omega)
  rw [show ((K + 1 : Nat) : Int) = (K : Int) + 1 by omega] at hmk
  have R0 : Hid ((w.alloc (.cells ((madeCells #[.int .i64 0] (K + 1)).setIfInBounds 0 (.int .i64 1)) 3)).rowIs w.heap.size 3 (K + 1) (fun i => .int .i64 (stir 0 i : Nat))) := made_set0 w (K + 1) _ _ (fun i hi => by cases i <;> rfl)
  have R1 := World.rowIs_made w (.int .i64 0) (K + 1) 3
  have r1 := R1.cell (show 0 < K + 1 by omega)
  have r2 := R1.frozen 0
  clear R1
  go_enter Try.func26, Try.ntmps26
  go_wp2_with fail
  refine (uwrong_any N K _).mono ?_
  rintro e w' ⟨rfl, rfl⟩
  rw [hw]
  clear hw
  go_wp2_with fail
  clear hmk r1 r2
  go_loopw [17] (fun s17 wr => ∃ s : Nat, s ≤ N ∧ s17 = .int .i64 s ∧ wr.rowIs w.heap.size 3 (K + 1) (fun i => .int .i64 (stir s i : Nat)) ∧ Below w.heap.size w wr) (fun s17 _ => N - (intOf s17).toNat)
  case atStart => exact ⟨0, Nat.zero_le _, rfl, R0.out, (Below.refl _ _).alloc (Nat.le_refl _) _⟩
  case round =>
    obtain ⟨s, hs, rfl, hrow, hbel⟩ := hrel
    have HR := Lib.hid hrow
    have HB := Lib.hid hbel
    clear hrow hbel R0
    by_cases hlt : s < N
    · obtain ⟨wo, rfl⟩ : ∃ wo : World, wo = wr := ⟨_, rfl⟩
      go_wp2_with fail
      go_loopw [7] (fun s7 wr => ∃ j : Nat, j ≤ K ∧ s7 = .int .i64 j ∧ wr.rowIs w.heap.size 3 (K + 1) (fun i => .int .i64 (if j < i then stir (s + 1) i else stir s i : Nat)) ∧ Below w.heap.size w wr) (fun s7 _ => (intOf s7).toNat)
      case atStart => exact ⟨K, Nat.le_refl _, rfl, HR.out.congr (fun i hi => by rw [if_neg (by omega)]), HB.out⟩
      case round =>
        obtain ⟨j, hj, rfl, hrow2, hbel2⟩ := hrel
        have HR2 := Lib.hid hrow2
        have HB2 := Lib.hid hbel2
        by_cases hj1 : 1 ≤ j
        · obtain ⟨i, rfl⟩ : ∃ i, j = i + 1 := ⟨j - 1, by omega⟩
          have c1 := hrow2.cell (show i + 1 < K + 1 by omega)
          have c2 := hrow2.cell (show i < K + 1 by omega)
          have f1 := hrow2.frozen (i + 1)
          rw [if_neg (by omega)] at c1 c2
          have b1 := stir_small (show s ≤ 20 by omega) (show i + 1 ≤ 20 by omega)
          have b2 := stir_small (show s ≤ 20 by omega) (show i ≤ 20 by omega)
          have b3 := stir_small (show s + 1 ≤ 20 by omega) (show i + 1 ≤ 20 by omega)
          have HX : Hid (stir (s + 1) (i + 1) = (i + 1) * stir s (i + 1) + stir s i) := rfl
          have hX : (((i : Int) + 1) * (stir s (i + 1) : Nat) + (stir s i : Nat) : Int) = (stir (s + 1) (i + 1) : Nat) := by rw [HX.out]; simp
          have h0 : 0 ≤ ((i : Int) + 1) * (stir s (i + 1) : Nat) := Int.mul_nonneg (by omega) (by omega)
          have m1 : IntKind.i64.wrap (((i : Int) + 1) * (stir s (i + 1) : Nat)) = ((i : Int) + 1) * (stir s (i + 1) : Nat) := IntWalk.i64_in _ (by omega)
          have m2 : IntKind.i64.wrap ((i : Int) + 1 - 1) = (i : Int) := by rw [show (i : Int) + 1 - 1 = i by omega]; exact IntWalk.i64_in _ (by omega)
          have m3 : IntKind.i64.wrap (((i : Int) + 1) * (stir s (i + 1) : Nat) + (stir s i : Nat)) = (stir (s + 1) (i + 1) : Nat) := by rw [hX]; exact IntWalk.i64_in _ (by omega)
          have m4 : IntKind.i64.wrap (i : Int) = (i : Int) := IntWalk.i64_in _ (by omega)
          have i4 : (0 : Int) ≤ (i : Int) := by omega
          have M4 := Lib.hid m4
          clear m4
          have ic : ((i + 1 : Nat) : Int) = (i : Int) + 1 := by omega
          have i1 : (i : Int) + 1 < (K : Int) + 1 := by omega
          have i2 : (i : Int) < (K : Int) + 1 := by omega
          have i3 : (0 : Int) ≤ (i : Int) + 1 := by omega
          rw [ic]
          have HM : Hid (IntKind.i64.wrap (((i : Int) + 1) * (stir s (i + 1) : Nat)) = ((i : Int) + 1) * (stir s (i + 1) : Nat) ∧ IntKind.i64.wrap ((i : Int) + 1 - 1) = (i : Int) ∧ IntKind.i64.wrap (((i : Int) + 1) * (stir s (i + 1) : Nat) + (stir s i : Nat)) = (stir (s + 1) (i + 1) : Nat)) := ⟨m1, m2, m3⟩
          clear hrow2 hbel2 hX h0 m1 m2 m3 ic
          generalize hx : stir s (i + 1) = x at *
          generalize hy : stir s i = y at *
          generalize hz : stir (s + 1) (i + 1) = z at *
          go_wp2_with fail
          obtain ⟨m1, m2, m3⟩ := HM.out
          have m4 := M4.out
          go_still_tail 15, (by kernel_rfl)
          change wpList _ _ _ _ _ wr.drew
          clear m1 m2 m3 m4
          go_wp2_with fail
          go_roundw
          case rel =>
            refine ⟨i, by omega, rfl, ((HR2.out.drew).set (i + 1) _).congr ?_, (Below.drew HB2.out).setCell (Nat.le_refl _) _⟩
            intro q hq
            by_cases h1 : q = i + 1
            · subst h1; rw [if_pos rfl, if_pos (by omega), hz]
            · rw [if_neg h1]
              by_cases h2 : i < q
              · rw [if_pos h2, if_pos (by omega)]
              · rw [if_neg h2, if_neg (by omega)]
          case measure => simp [intOf]
        · obtain rfl : j = 0 := by omega
          have c0 := hrow2.cell (show 0 < K + 1 by omega)
          have f0 := hrow2.frozen 0
          clear hrow2 hbel2
          go_wp2_with fail
          go_roundw
          case rel =>
            refine ⟨s + 1, by omega, by go_num, (HR2.out.set 0 _).congr ?_, HB2.out.setCell (Nat.le_refl _) _⟩
            intro q hq
            by_cases h1 : q = 0
            · subst h1; rfl
            · rw [if_neg h1, if_pos (by omega)]
          case measure => simp [intOf]; omega
    · obtain rfl : s = N := by omega
      have c1 := HR.out.cell (show K < K + 1 by omega)
      go_wp2_with fail
      go_ret2
      exact ⟨rfl, HB.out⟩
theorem parts_any (n k : Int) (w : World) : Calls Try.prog 26 #[.int .i64 n, .int .i64 k] w fun e w' => e = .returned (.tuple #[.int .i64 (uparts n k).1, .int .i64 (uparts n k).2]) ∧ Below w.heap.size w w' := by
  by_cases h : uwrong n k = true
  · have hf : Hid (uparts n k = (0, 2)) := if_pos h
    go_enter Try.func26, Try.ntmps26
    go_wp2_with fail
    refine (uwrong_any n k _).mono ?_
    rintro e w' ⟨rfl, rfl⟩
    rw [h]
    clear h
    go_wp2
    go_ret2
    exact ⟨ret_2 hf.out, Below.refl _ _⟩
  · have h' : uwrong n k = false := by simpa using h
    obtain ⟨N, K, rfl, rfl, hN, hK⟩ := uwrong_no h'
    have hf : uparts N K = (((stir N K : Nat) : Int), 0) := by unfold uparts; rw [if_neg h]; rfl
    rw [hf]
    exact parts_good N K w hN hK

def uonto (n k : Int) : Int × Int := if uwrong n k = true ∨ 14 < n then (0, 2) else ((onto n.toNat k.toNat : Nat), 0)
/-- Onto, as far as its loop has come. -/
def opart (N K j : Nat) : Nat := stir N K * fct (j - 1)
theorem fct_pos (n : Nat) : 0 < fct n := by
  induction n with
  | zero => decide
  | succ n ih => exact Nat.mul_pos (by omega) ih
set_option maxRecDepth 20000 in
set_option maxHeartbeats 2000000 in
theorem onto_any (n k : Int) (w : World) : Calls Try.prog 27 #[.int .i64 n, .int .i64 k] w fun e w' => e = .returned (.tuple #[.int .i64 (uonto n k).1, .int .i64 (uonto n k).2]) ∧ Below w.heap.size w w' := by
  by_cases h : uwrong n k = true
  · have hf : Hid (uonto n k = (0, 2)) := if_pos (.inl h)
    go_enter Try.func27, Try.ntmps27
    go_wp2_with fail
    refine (uwrong_any n k _).mono ?_
    rintro e w' ⟨rfl, rfl⟩
    rw [h]
    clear h
    go_wp2
    go_ret2
    exact ⟨ret_2 hf.out, Below.refl _ _⟩
  · have h' : uwrong n k = false := by simpa using h
    obtain ⟨N, K, rfl, rfl, hN, hK⟩ := uwrong_no h'
    clear h
    by_cases h14 : 14 < N
    · have hf : Hid (uonto N K = (0, 2)) := if_pos (.inr (by omega))
      go_enter Try.func27, Try.ntmps27
      go_wp2_with fail
      refine (uwrong_any N K _).mono ?_
      rintro e w' ⟨rfl, rfl⟩
      rw [h']
      clear h'
      go_wp2
      go_ret2
      exact ⟨ret_2 hf.out, Below.refl _ _⟩
    · have hf : Hid (uonto N K = (((onto N K : Nat) : Int), 0)) := by unfold Hid uonto; rw [if_neg (by rw [h']; simp; omega)]; rfl
      go_enter Try.func27, Try.ntmps27
      go_wp2_with fail
      refine (uwrong_any N K _).mono ?_
      rintro e w' ⟨rfl, rfl⟩
      rw [h']
      clear h'
      go_wp2_with fail
      refine (parts_good N K _ hN hK).mono ?_
      rintro e w1 ⟨rfl, hb⟩
      have HB := Lib.hid hb
      clear hb
      go_wp2_with fail
      go_loop [8, 6] (fun s8 s6 => ∃ j : Nat, 2 ≤ j ∧ (j ≤ K + 1 ∨ j = 2) ∧ s8 = .int .i64 j ∧ s6 = .int .i64 (opart N K j : Nat)) (fun s8 _ => K + 1 - (intOf s8).toNat)
      case atStart => exact ⟨2, by omega, .inr rfl, rfl, by unfold opart; simp [fct]⟩
      case round =>
        obtain ⟨j, hj2, hjk, rfl, rfl⟩ := hrel
        by_cases hjK : j ≤ K
        · by_cases hz : stir N K = 0
          · have hp : Hid (opart N K j = 0 ∧ onto N K = 0) := by unfold Hid onto opart; rw [hz]; simp
            rw [hp.out.1]
            have hf2 : Hid (uonto N K = (0, 0)) := by have := hf.out; rwa [hp.out.2] at this
            clear hz
            go_wp2_with fail
            go_ret2
            exact ⟨ret_2 hf2.out, HB.out⟩
          · have hKN : K ≤ N := by
              by_cases h : N < K
              · exact absurd (stir_gt h) hz
              · omega
            have hpos : 0 < opart N K j := Nat.mul_pos (by omega) (fct_pos _)
            have e1 : opart N K j * j = opart N K (j + 1) := by
              unfold opart
              obtain ⟨q, rfl⟩ : ∃ q, j = q + 1 := ⟨j - 1, by omega⟩
              rw [Nat.add_sub_cancel, Nat.add_sub_cancel, Nat.mul_assoc, Nat.mul_comm (fct q)]; rfl
            have e2 : opart N K (j + 1) ≤ 1152921504606846976 := onto_small0 ⟨N, by omega⟩ ⟨K, by omega⟩ ⟨j, by omega⟩ hjK
            have HE : Hid (((opart N K j : Nat) : Int) * (j : Int) = (opart N K (j + 1) : Nat)) := by unfold Hid; rw [← e1, Int.natCast_mul]
            have b1 : ((opart N K j : Nat) : Int) * (j : Int) ≤ 1152921504606846976 := by rw [HE.out]; omega
            have b0 : 0 ≤ ((opart N K j : Nat) : Int) * (j : Int) := by rw [HE.out]; omega
            clear hz e1 e2
            generalize opart N K j = p at *
            have hp0 : 0 < (p : Int) := by omega
            go_wp2_with fail
            go_round
            case rel => exact ⟨j + 1, by omega, by omega, by go_num, by rw [HE.out]⟩
            case measure => simp [intOf]; omega
        · have hfin : Hid (opart N K j = onto N K) := by
            unfold Hid onto opart
            rcases hjk with h | h
            · obtain rfl : j = K + 1 := by omega
              rfl
            · subst h
              have : K = 0 ∨ K = 1 := by omega
              rcases this with rfl | rfl <;> rfl
          go_wp2_with fail
          go_ret2
          exact ⟨ret_2 (by rw [hf.out, hfin.out]), HB.out⟩
end Go.Proofs.Ytakjcodfcoaadab
