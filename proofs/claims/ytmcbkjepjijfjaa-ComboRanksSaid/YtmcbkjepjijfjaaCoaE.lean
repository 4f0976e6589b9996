/- The choice of a number, by the reference, walked. No condition. -/
import Derived.Test.YtmcbkjepjijfjaaCoaA
import Derived.Test.YtmcbkjepjijfjaaEOf
import Derived.Test.YtmcbkjepjijfjaaSeq2
namespace Go.Proofs.Ytmcbkjepjijfjaa
open Go.ChangeShapes Go.WideShapes Go.ChangeAt Go.RowKit
set_option linter.unusedVariables false

theorem eof_nat (n k : Nat) (w : World) (hn : n ≤ 61) :
    Calls Try.prog 15 #[.int .i64 n, .int .i64 k] w fun e w' => e = .returned (.int .i64 (bin n k : Nat)) ∧ Below w.heap.size w w' := by
  have h := eof_any n k w (by omega)
  rwa [ebin_nat] at h
set_option maxRecDepth 20000 in
set_option maxHeartbeats 4000000 in
theorem eat_any : ∀ (k n r : Nat) (w : World), n ≤ 60 → (r : Int) ≤ 9223372036854775807 → r < bin n k →
    Calls Try.prog 65 #[.int .i64 n, .int .i64 k, .int .i64 r] w fun e w' => OOut w w' e (eatL n k r) 0 := by
  intro k
  induction k with
  | zero =>
    intro n r w hn hr hlt
    have HEO := Lib.hid (eof_nat n 0 w (by omega))
    rw [bin_zero] at HEO hlt
    obtain rfl : r = 0 := by omega
    have i1 : ¬ (n : Int) < 0 := by omega
    have i2 : ¬ 60 < (n : Int) := by omega
    clear hlt
    go_enter Try.func65, Try.ntmps65
    go_wp2_with fail
    refine HEO.out.mono ?_
    rintro e w1 ⟨rfl, hb⟩
    have HB1 := Lib.hid hb
    clear hb
    go_wp2_with fail
    go_ret2
    exact ⟨_, rfl, Own.none_, HB1.out⟩
  | succ k ih =>
    intro n r w hn hr hlt
    obtain ⟨X, hX⟩ : ∃ X, gtop n (k + 1) r = X := ⟨_, rfl⟩
    have htop := gtop_top (k := k + 1) (Nat.succ_pos k) n hlt
    have hles := eat_less hlt
    have hkn := bin_pos_le hlt
    rw [hX] at htop hles
    have HE : Hid (eatL n (k + 1) r = eatL X k (r - bin X (k + 1)) ++ [(X : Int)]) := by unfold Hid; rw [eatL, hX]
    have hXn := htop.1
    have hvr : bin X (k + 1) ≤ r := htop.2.1
    have HUP : Hid (∀ t, X < t → ¬ bin t (k + 1) ≤ r) := fun t ht h => by
      have h1 := bin_mono (show X + 1 ≤ t from ht) (k + 1)
      have h2 := htop.2.2
      omega
    have HEO := Lib.hid (fun u => eof_nat n (k + 1) u (by omega))
    have HET : Hid (∀ (t : Nat) (u : World), t ≤ 61 → Calls Try.prog 15 #[.int .i64 t, .int .i64 ((k + 1 : Nat) : Int)] u fun e w' => e = .returned (.int .i64 (bin t (k + 1) : Nat)) ∧ Below u.heap.size u w') := fun t u h => eof_nat t (k + 1) u h
    have HI := Lib.hid (fun u => ih X (r - bin X (k + 1)) u (by omega) (by omega) hles)
    have hel := eatL_len k X (r - bin X (k + 1))
    have i1 : ¬ (n : Int) < 0 := by omega
    have i2 : ¬ 60 < (n : Int) := by omega
    have i3 : ¬ ((k + 1 : Nat) : Int) < 0 := by omega
    have i4 : ¬ (r : Int) < 0 := by omega
    have i5 : ¬ (n : Int) < ((k + 1 : Nat) : Int) := by omega
    have i6 : ¬ n < k + 1 := by omega
    have i7 : ¬ bin n (k + 1) ≤ r := by omega
    have i8 : ((k + 1 : Nat) : Int) - 1 = (k : Int) := by omega
    have b1 : (((k + 1 : Nat) : Int) == 0) = false := by rw [beq_eq_false_iff_ne]; omega
    have i9 : (n : Int) - 1 = ((n - 1 : Nat) : Int) := by omega
    clear ih hX htop hles hlt
    generalize bin n (k + 1) = bn at *
    go_enter Try.func65, Try.ntmps65
    generalize hKK : k + 1 = KK at *
    have HKK := Lib.hid hKK
    clear hKK
    go_wp2_with fail
    refine (HEO.out _).mono ?_
    rintro e w1 ⟨rfl, hb⟩
    have HB1 := Lib.hid hb
    clear hb
    go_wp2_with fail
    clear i1 i2 i3 i4 i5 i6 i7 i9
    go_loopw [8] (fun s8 wr => ∃ t : Nat, s8 = .int .i64 t ∧ X ≤ t ∧ t < n ∧ Below w.heap.size w wr) (fun s8 _ => (intOf s8).toNat)
    case atStart => exact ⟨n - 1, rfl, by omega, by omega, HB1.out⟩
    case round =>
      obtain ⟨t, rfl, hXt, htn, hbel⟩ := hrel
      have HB := Lib.hid hbel
      clear hbel
      have HO := Lib.hid (HET.out t wr (by omega))
      by_cases hlt : X < t
      · have hgt := HUP.out t hlt
        have i3 : (t : Int) - 1 = ((t - 1 : Nat) : Int) := by omega
        have HT : Hid (0 < t) := by unfold Hid; omega
        generalize bin t KK = v at *
        generalize hT : t - 1 = T at *
        have HTT := Lib.hid hT
        clear hT
        go_wp2_with fail
        refine HO.out.mono ?_
        rintro e w2 ⟨rfl, hb⟩
        have HB2 : Hid (Below w.heap.size w w2) := HB.out.trans (hb.mono HB.out.size)
        clear hb
        go_wp2_with fail
        go_roundw
        case rel => exact ⟨T, rfl, by have := HTT.out; omega, by have := HTT.out; omega, HB2.out⟩
        case measure => simp [intOf]; have := HTT.out; have := HT.out; omega
      · obtain rfl : t = X := by omega
        have HO2 := Lib.hid (fun u => HET.out t u (by omega))
        clear HO
        have hel2 : (eatL t k (r - bin t KK)).length ≤ 60 := by omega
        generalize bin t KK = v at *
        have i3 : (r : Int) - (v : Int) = ((r - v : Nat) : Int) := by omega
        generalize eatL t k (r - v) = L at *
        generalize hrv : r - v = rv at *
        have HRV := Lib.hid hrv
        clear hrv hel
        go_wp2_with fail
        refine (HO2.out _).mono ?_
        rintro e w2 ⟨rfl, hb⟩
        have HB2 : Hid (Below w.heap.size w w2) := HB.out.trans (hb.mono HB.out.size)
        clear hb
        go_wp2_with fail
        refine (HO2.out _).mono ?_
        rintro e w3 ⟨rfl, hb⟩
        have HB3 : Hid (Below w.heap.size w w3) := HB2.out.trans (hb.mono HB2.out.size)
        clear hb
        go_wp2_with fail
        refine (HI.out _).mono ?_
        rintro e w4 ⟨v4, rfl, ho, hb⟩
        have HB4 : Hid (Below w.heap.size w w4) := HB3.out.trans (hb.mono HB3.out.size)
        have HO4 := Lib.hid (ho.low HB3.out.size)
        have HSZ := Lib.hid HB4.out.size
        clear hb ho
        go_wp2_with (first
          | (at_builtin; go_must (refine wpList_push _ rfl _ _ 22 3 8 elem_ints rfl w.heap.size _ _ rfl (Own.alloc' HO4.out _) (.int .i64 t) ⟨w4.heap.size, 0, none⟩ 1 rfl (cell_new1 _ _ _) rfl (by rw [List.length_map]; omega) (by rw [List.length_map]; unfold maxLen; omega) (by simp; exact Nat.le_succ_of_le HSZ.out) ?_); intro v5 w5 hown5 hbel5; have HO5 := Lib.hid hown5; have HB5 := Lib.hid hbel5; clear hown5 hbel5)
          | fail)
        go_ret2
        refine ⟨_, rfl, ?_, (HB4.out.alloc HSZ.out _).trans HB5.out⟩
        rw [HE.out, List.map_append]
        exact HO5.out
end Go.Proofs.Ytmcbkjepjijfjaa
