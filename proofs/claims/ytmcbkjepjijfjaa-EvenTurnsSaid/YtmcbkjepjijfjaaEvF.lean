/- How far from even, walked. No condition. -/
import Derived.Test.YtmcbkjepjijfjaaEvB
import Derived.Test.YtmcbkjepjijfjaaBase2
import Derived.RowKit
namespace Go.Proofs.Ytmcbkjepjijfjaa
open Go.ChangeShapes Go.WideShapes Go.ChangeAt Go.RowKit
set_option linter.unusedVariables false

theorem max_cases {M D : Int} {Q : Prop} (h1 : M < D → D < -D → Q) (h2 : M < D → ¬ D < -D → Q) (h3 : ¬ M < D → M < -D → Q) (h4 : ¬ M < D → ¬ M < -D → Q) : Q := by
  by_cases a : M < D
  · by_cases b : D < -D
    · exact h1 a b
    · exact h2 a b
  · by_cases b : M < -D
    · exact h3 a b
    · exact h4 a b
set_option maxHeartbeats 2000000 in
theorem far_err (b d n f : Int) (w : World) (h : eall b d = (0, f)) (hf : f ≠ 0) :
    Calls Try.prog 41 #[.int .i64 b, .int .i64 d, .int .i64 n] w fun e w' => e = .returned (.tuple #[.int .i64 0, .int .i64 f]) ∧ w = w' := by
  have hall := all_any b d w
  rw [h] at hall
  have HA := Lib.hid hall
  have h1 : (f != 0) = true := by simpa using hf
  clear hall h
  go_enter Try.func41, Try.ntmps41
  go_wp2_with fail
  refine HA.out.mono ?_
  rintro e w' ⟨rfl, rfl⟩
  go_wp2_with fail
  go_ret2
  exact ⟨rfl, rfl⟩
set_option maxHeartbeats 2000000 in
theorem far_range (b d n p : Int) (w : World) (h : eall b d = (p, 0)) (hn : n < 0 ∨ 400 < n ∨ 4096 < p) :
    Calls Try.prog 41 #[.int .i64 b, .int .i64 d, .int .i64 n] w fun e w' => e = .returned (.tuple #[.int .i64 0, .int .i64 2]) ∧ w = w' := by
  have hall := all_any b d w
  rw [h] at hall
  have HA := Lib.hid hall
  clear hall h
  rcases (by omega : n < 0 ∨ (¬ n < 0 ∧ 400 < n) ∨ (¬ n < 0 ∧ ¬ 400 < n ∧ 4096 < p)) with h1 | ⟨h1, h2⟩ | ⟨h1, h2, h3⟩
  · clear hn
    go_enter Try.func41, Try.ntmps41
    go_wp2_with fail
    refine HA.out.mono ?_
    rintro e w' ⟨rfl, rfl⟩
    go_wp2_with fail
    go_ret2
    exact ⟨rfl, rfl⟩
  · clear hn
    go_enter Try.func41, Try.ntmps41
    go_wp2_with fail
    refine HA.out.mono ?_
    rintro e w' ⟨rfl, rfl⟩
    go_wp2_with fail
    go_ret2
    exact ⟨rfl, rfl⟩
  · clear hn
    go_enter Try.func41, Try.ntmps41
    go_wp2_with fail
    refine HA.out.mono ?_
    rintro e w' ⟨rfl, rfl⟩
    go_wp2_with fail
    go_ret2
    exact ⟨rfl, rfl⟩
set_option maxRecDepth 20000 in
set_option maxHeartbeats 4000000 in
theorem far_ok (b d m P : Nat) (w : World) (hb : 2 ≤ b) (hb2 : b ≤ 36) (hd : d ≤ 30) (hP : Hid (b ^ d = P)) (hp : P ≤ 4096) (hm : m ≤ 400) :
    Calls Try.prog 41 #[.int .i64 b, .int .i64 d, .int .i64 m] w fun e w' => e = .returned (.tuple #[.int .i64 (mst b d m P), .int .i64 0]) ∧ Below w.heap.size w w' := by
  have hall := all_good b d w hb hb2 hd
  rw [hP.out, if_pos (by omega)] at hall
  have HA := Lib.hid hall
  clear hall
  have HT : Hid (∀ n w, Calls Try.prog 39 #[.int .i64 b, .int .i64 d, .int .i64 (n : Nat)] w fun e w' => e = .returned (.tuple #[.int .i64 (trn b n d : Nat), .int .i64 0]) ∧ w = w') := fun n w => turn_ok b d n w hb hb2 hd (by rw [hP.out]; omega)
  have HTL : Hid (∀ n, trn b n d < P) := fun n => by rw [← hP.out]; exact trn_lt (by omega) n d
  have i1 : ¬ (400 : Int) < (m : Int) := by omega
  have i2 : ¬ 400 < m := by omega
  have i3 : ¬ (4096 : Int) < (P : Int) := by omega
  have i4 : ¬ 4096 < P := by omega
  have hmk := run_make_row' (P := Try.prog) 22 3 (.int .i64 0) 8 Try.underlying22 (by kernel_rfl) rfl .i64 .i64 P (by omega) (by omega)
  go_enter Try.func41, Try.ntmps41
  go_wp2_with fail
  refine HA.out.mono ?_
  rintro e w' ⟨rfl, rfl⟩
  go_wp2_with fail
  clear hmk i1 i2 i3 i4 HA
  go_loopw [43] (fun s43 wr => ∃ j : Nat, j ≤ m ∧ s43 = .int .i64 j ∧ wr.rowIs w.heap.size 3 P (fun x => .int .i64 (cnt b d j x : Nat)) ∧ Below w.heap.size w wr) (fun s43 _ => m - (intOf s43).toNat)
  case atStart => exact ⟨0, Nat.zero_le _, rfl, (World.rowIs_made w (.int .i64 0) P 3).congr (fun i hi => rfl), (Below.refl _ _).alloc (Nat.le_refl _) _⟩
  case round =>
    obtain ⟨j, hj, rfl, hrow, hbel⟩ := hrel
    have HR := Lib.hid hrow
    have HB := Lib.hid hbel
    clear hrow hbel
    by_cases hlt : j < m
    · have i1 : (j : Int) < (m : Int) := by omega
      have hx := HTL.out j
      have HTJ := Lib.hid (HT.out j)
      have HC : Hid (∀ i, cnt b d (j + 1) i = cnt b d j i + if trn b j d = i then 1 else 0) := fun i => rfl
      generalize trn b j d = x at *
      have hc := HR.out.cell hx
      have hf := HR.out.frozen x
      have hcl := cnt_le b d j x
      have HCX : Hid (cnt b d (j + 1) x = cnt b d j x + 1) := by unfold Hid; rw [HC.out, if_pos rfl]
      have i5 : (x : Int) < (P : Int) := by omega
      generalize cnt b d j x = c at *
      go_wp2_with fail
      refine (HTJ.out _).mono ?_
      rintro e w' ⟨rfl, rfl⟩
      go_wp2_with fail
      go_roundw
      case rel =>
        refine ⟨j + 1, by omega, by go_num, (HR.out.set x _).congr (fun i hi => ?_), HB.out.setCell (Nat.le_refl _) _⟩
        by_cases h1 : i = x
        · subst h1; rw [if_pos rfl, HCX.out]; go_num
        · rw [if_neg h1, HC.out, if_neg (fun h => h1 h.symm), Nat.add_zero]
      case measure => simp [intOf]; omega
    · have i1 : ¬ (j : Int) < (m : Int) := by omega
      have hje : j = m := by omega
      subst hje
      go_wp2_with fail
      go_loop [14, 15, 62] (fun s14 s15 s62 => ∃ k : Nat, k ≤ P ∧ s62 = .int .i64 k ∧ s14 = .int .i64 (mst b d j k) ∧ s15 = .int .i64 (bel b d j k : Nat)) (fun _ _ s62 => P - (intOf s62).toNat)
      case atStart => exact ⟨0, Nat.zero_le _, rfl, rfl, by rw [bel_zero]; rfl⟩
      case round =>
        obtain ⟨k, hk, rfl, rfl, rfl⟩ := hrel
        by_cases hlt2 : k < P
        · have i2 : (k : Int) < (P : Int) := by omega
          have hc := HR.out.cell hlt2
          have hst := bel_step b d j k
          have hbl := bel_le b d j (k + 1)
          have hM := mst_bd (b := b) (d := d) (m := j) (k := k) hm (by rw [hP.out]; exact hp) (by omega)
          have hD := dst_bd (b := b) (d := d) (m := j) (x := k + 1) hm (by rw [hP.out]; exact hp) (by omega)
          have HM : Hid (mst b d j (k + 1) = max3 (mst b d j k) (dst b d j (k + 1))) := rfl
          have hDv : (bel b d j (k + 1) : Int) * (P : Int) - (j : Int) * ((k : Int) + 1) = dst b d j (k + 1) := by unfold dst; rw [hP.out]; rfl
          have HBL : Hid (bel b d j (k + 1) = bel b d j k + cnt b d j k) := hst.symm
          rw [hP.out] at hD
          generalize dst b d j (k + 1) = D at *
          generalize mst b d j k = M at *
          generalize cnt b d j k = c at *
          generalize bel b d j k = l at *
          have hlc : (l : Int) + (c : Int) = (bel b d j (k + 1) : Int) := by omega
          obtain ⟨l2, hl2⟩ : ∃ l2, bel b d j (k + 1) = l2 := ⟨_, rfl⟩
          have HL2 := Lib.hid hl2
          rw [hl2] at hlc hDv hbl hD
          clear hl2
          obtain ⟨X, hX⟩ : ∃ X : Int, (l2 : Int) * (P : Int) = X := ⟨_, rfl⟩
          obtain ⟨Y, hY⟩ : ∃ Y : Int, (j : Int) * ((k : Int) + 1) = Y := ⟨_, rfl⟩
          rw [hX, hY] at hDv
          have hXb : 0 ≤ X ∧ X ≤ 1638400 := by rw [← hX]; exact ⟨hD.2.2.2.1, hD.2.2.1⟩
          have hYb : 0 ≤ Y ∧ Y ≤ 1638400 := by rw [← hY]; exact ⟨hD.2.2.2.2.2, hD.2.2.2.2.1⟩
          have hD1 := hD.1
          have hD2 := hD.2.1
          clear hD
          refine max_cases (M := M) (D := D) (fun q1 q2 => ?_) (fun q1 q2 => ?_) (fun q1 q2 => ?_) (fun q1 q2 => ?_)
          · have HMX : Hid (max3 M D = -D) := by unfold Hid max3; rw [if_pos q1, if_pos q2]
            go_wp2_with fail
            go_round
            case rel => exact ⟨k + 1, by omega, by go_num, by rw [HM.out, HMX.out]; try go_num, by rw [HL2.out]; try go_num⟩
            case measure => simp [intOf]; omega
          · have HMX : Hid (max3 M D = D) := by unfold Hid max3; rw [if_pos q1, if_neg q2]
            go_wp2_with fail
            go_round
            case rel => exact ⟨k + 1, by omega, by go_num, by rw [HM.out, HMX.out]; try go_num, by rw [HL2.out]; try go_num⟩
            case measure => simp [intOf]; omega
          · have HMX : Hid (max3 M D = -D) := by unfold Hid max3; rw [if_neg q1, if_pos q2]
            go_wp2_with fail
            go_round
            case rel => exact ⟨k + 1, by omega, by go_num, by rw [HM.out, HMX.out]; try go_num, by rw [HL2.out]; try go_num⟩
            case measure => simp [intOf]; omega
          · have HMX : Hid (max3 M D = M) := by unfold Hid max3; rw [if_neg q1, if_neg q2]
            go_wp2_with fail
            go_round
            case rel => exact ⟨k + 1, by omega, by go_num, by rw [HM.out, HMX.out]; try go_num, by rw [HL2.out]; try go_num⟩
            case measure => simp [intOf]; omega
        · have i2 : ¬ (k : Int) < (P : Int) := by omega
          have HKP : Hid (k = P) := by unfold Hid; omega
          go_wp2_with fail
          go_ret2
          exact ⟨by rw [← HKP.out]; rfl, HB.out⟩
end Go.Proofs.Ytmcbkjepjijfjaa
