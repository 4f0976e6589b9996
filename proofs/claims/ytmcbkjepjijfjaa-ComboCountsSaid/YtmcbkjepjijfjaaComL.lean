/- ComboCounts: the law's function, walked. No condition. -/
import Derived.Test.YtmcbkjepjijfjaaComT
import Derived.Test.YtmcbkjepjijfjaaComO
import Derived.Test.YtmcbkjepjijfjaaContI
import Derived.Test.YtmcbkjepjijfjaaEqints
namespace Go.Proofs.Ytmcbkjepjijfjaa
open Go.ChangeShapes Go.WideShapes Go.ChangeAt Go.RowKit
set_option linter.unusedVariables false

abbrev lawCom (n k : Int) (zs : List Int) (A : Option Addr) (c : Nat) (w : World) : Prop :=
  Calls Try.prog 3 #[.int .i64 n, .int .i64 k, .slice A zs.length c] w fun e w' => e = .returned (.bool true) ∧ Below w.heap.size w w'
theorem eright_range {n : Int} {zs : List Int} (h : eright n zs = true) : 0 ≤ n ∧ n ≤ 60 := by
  unfold eright at h
  simp at h
  exact h.1
set_option maxRecDepth 20000 in
set_option maxHeartbeats 4000000 in
theorem com_b1 (n k : Int) (zs : List Int) (A : Option Addr) (c : Nat) (w : World) (hs : Seg w w.heap.size A (zs.map (.int .i64))) (hm : zs.length ≤ 9223372036854775807) (hc : zs.length ≤ c) (hr : eright n zs = false) (h : n < 0) : lawCom n k zs A c w := by
  have HS := Lib.hid hs
  have HR := Lib.hid hr
  have HR1 : Hid (∀ (u : World), Seg u u.heap.size A (zs.map (.int .i64)) → Calls Try.prog 16 #[.int .i64 n, .slice A zs.length c] u fun e w' => e = .returned (.bool false) ∧ u = w') := fun u hu => by
    have h := cright_any n zs A c _ u hu hm
    rwa [hr] at h
  have HR2 : Hid (∀ (u : World), Seg u u.heap.size A (zs.map (.int .i64)) → Calls Try.prog 17 #[.int .i64 n, .slice A zs.length c] u fun e w' => e = .returned (.bool false) ∧ u = w') := fun u hu => by
    have h := eright_any n zs A c _ u hu hm
    rwa [hr] at h
  clear hs hr
  have HS1 := HS
  have HB1 := Lib.hid (Below.refl w.heap.size w)
  have HBAD : Hid (n < 0 ∨ 60 < n ∨ k < 0) := by unfold Hid; omega
  go_enter Try.func3, Try.ntmps3
  go_wp2_with fail
  refine (cof_bad n k _ HBAD.out).mono ?_
  rintro e w' ⟨rfl, rfl⟩
  go_wp2_with fail
  refine (rest_bad n zs A c _ _ HS1.out hm HR.out).mono ?_
  rintro e w' ⟨rfl, rfl⟩
  go_wp2_with fail
  refine (HR1.out _ HS1.out).mono ?_
  rintro e w' ⟨rfl, rfl⟩
  go_wp2_with fail
  refine (HR2.out _ HS1.out).mono ?_
  rintro e w' ⟨rfl, rfl⟩
  go_wp2_with fail
  refine (HR2.out _ HS1.out).mono ?_
  rintro e w' ⟨rfl, rfl⟩
  go_wp2_with fail
  go_ret
  exact ⟨rfl, HB1.out⟩
set_option maxRecDepth 20000 in
set_option maxHeartbeats 4000000 in
theorem com_b2 (n k : Int) (zs : List Int) (A : Option Addr) (c : Nat) (w : World) (hs : Seg w w.heap.size A (zs.map (.int .i64))) (hm : zs.length ≤ 9223372036854775807) (hc : zs.length ≤ c) (hr : eright n zs = false) (h0 : ¬ n < 0) (h : 60 < n) : lawCom n k zs A c w := by
  have HS := Lib.hid hs
  have HR := Lib.hid hr
  have HR1 : Hid (∀ (u : World), Seg u u.heap.size A (zs.map (.int .i64)) → Calls Try.prog 16 #[.int .i64 n, .slice A zs.length c] u fun e w' => e = .returned (.bool false) ∧ u = w') := fun u hu => by
    have h := cright_any n zs A c _ u hu hm
    rwa [hr] at h
  have HR2 : Hid (∀ (u : World), Seg u u.heap.size A (zs.map (.int .i64)) → Calls Try.prog 17 #[.int .i64 n, .slice A zs.length c] u fun e w' => e = .returned (.bool false) ∧ u = w') := fun u hu => by
    have h := eright_any n zs A c _ u hu hm
    rwa [hr] at h
  clear hs hr
  have HS1 := HS
  have HB1 := Lib.hid (Below.refl w.heap.size w)
  have HBAD : Hid (n < 0 ∨ 60 < n ∨ k < 0) := by unfold Hid; omega
  go_enter Try.func3, Try.ntmps3
  go_wp2_with fail
  refine (cof_bad n k _ HBAD.out).mono ?_
  rintro e w' ⟨rfl, rfl⟩
  go_wp2_with fail
  refine (rest_bad n zs A c _ _ HS1.out hm HR.out).mono ?_
  rintro e w' ⟨rfl, rfl⟩
  go_wp2_with fail
  refine (HR1.out _ HS1.out).mono ?_
  rintro e w' ⟨rfl, rfl⟩
  go_wp2_with fail
  refine (HR2.out _ HS1.out).mono ?_
  rintro e w' ⟨rfl, rfl⟩
  go_wp2_with fail
  refine (HR2.out _ HS1.out).mono ?_
  rintro e w' ⟨rfl, rfl⟩
  go_wp2_with fail
  go_ret
  exact ⟨rfl, HB1.out⟩
set_option maxRecDepth 20000 in
set_option maxHeartbeats 4000000 in
theorem com_b3 (n k : Int) (zs : List Int) (A : Option Addr) (c : Nat) (w : World) (hs : Seg w w.heap.size A (zs.map (.int .i64))) (hm : zs.length ≤ 9223372036854775807) (hc : zs.length ≤ c) (hr : eright n zs = false) (h0 : ¬ n < 0) (h1 : ¬ 60 < n) (h : k < 0) : lawCom n k zs A c w := by
  have HS := Lib.hid hs
  have HR := Lib.hid hr
  have HR1 : Hid (∀ (u : World), Seg u u.heap.size A (zs.map (.int .i64)) → Calls Try.prog 16 #[.int .i64 n, .slice A zs.length c] u fun e w' => e = .returned (.bool false) ∧ u = w') := fun u hu => by
    have h := cright_any n zs A c _ u hu hm
    rwa [hr] at h
  have HR2 : Hid (∀ (u : World), Seg u u.heap.size A (zs.map (.int .i64)) → Calls Try.prog 17 #[.int .i64 n, .slice A zs.length c] u fun e w' => e = .returned (.bool false) ∧ u = w') := fun u hu => by
    have h := eright_any n zs A c _ u hu hm
    rwa [hr] at h
  clear hs hr
  have HS1 := HS
  have HB1 := Lib.hid (Below.refl w.heap.size w)
  have HBAD : Hid (n < 0 ∨ 60 < n ∨ k < 0) := by unfold Hid; omega
  go_enter Try.func3, Try.ntmps3
  go_wp2_with fail
  refine (cof_bad n k _ HBAD.out).mono ?_
  rintro e w' ⟨rfl, rfl⟩
  go_wp2_with fail
  refine (rest_bad n zs A c _ _ HS1.out hm HR.out).mono ?_
  rintro e w' ⟨rfl, rfl⟩
  go_wp2_with fail
  refine (HR1.out _ HS1.out).mono ?_
  rintro e w' ⟨rfl, rfl⟩
  go_wp2_with fail
  refine (HR2.out _ HS1.out).mono ?_
  rintro e w' ⟨rfl, rfl⟩
  go_wp2_with fail
  refine (HR2.out _ HS1.out).mono ?_
  rintro e w' ⟨rfl, rfl⟩
  go_wp2_with fail
  go_ret
  exact ⟨rfl, HB1.out⟩
set_option maxRecDepth 20000 in
set_option maxHeartbeats 4000000 in
theorem com_g1 (n k : Int) (zs : List Int) (A : Option Addr) (c : Nat) (w : World) (hs : Seg w w.heap.size A (zs.map (.int .i64))) (hm : zs.length ≤ 9223372036854775807) (hc : zs.length ≤ c) (hr : eright n zs = false) (h0 : 0 ≤ n) (h1 : n ≤ 60) (h2 : 0 ≤ k) : lawCom n k zs A c w := by
  have HS := Lib.hid hs
  have HR := Lib.hid hr
  have HR1 : Hid (∀ (u : World), Seg u u.heap.size A (zs.map (.int .i64)) → Calls Try.prog 16 #[.int .i64 n, .slice A zs.length c] u fun e w' => e = .returned (.bool false) ∧ u = w') := fun u hu => by
    have h := cright_any n zs A c _ u hu hm
    rwa [hr] at h
  have HR2 : Hid (∀ (u : World), Seg u u.heap.size A (zs.map (.int .i64)) → Calls Try.prog 17 #[.int .i64 n, .slice A zs.length c] u fun e w' => e = .returned (.bool false) ∧ u = w') := fun u hu => by
    have h := eright_any n zs A c _ u hu hm
    rwa [hr] at h
  clear hs hr
  have b0 : ¬ n < 0 := by omega
  have b1 : ¬ 60 < n := by omega
  have b2 : ¬ k < 0 := by omega
  go_enter Try.func3, Try.ntmps3
  go_wp2_with fail
  refine (cof_ok n k _ h0 h1 h2).mono ?_
  rintro e w' ⟨rfl, d, rfl⟩
  have HS1 := Lib.hid (HS.out.drewN d)
  have HB1 := Lib.hid (below_drewN (Below.refl w.heap.size w) d)
  have hwz : (w.drewN d).heap.size = w.heap.size := rfl
  rw [← hwz] at HS1
  generalize w.drewN d = w1 at *
  have HWZ := Lib.hid hwz
  clear hwz
  go_wp2_with fail
  refine (rest_bad n zs A c _ _ HS1.out hm HR.out).mono ?_
  rintro e w' ⟨rfl, rfl⟩
  go_wp2_with fail
  refine (eof_any n k _ (by omega)).mono ?_
  rintro e w2 ⟨rfl, hbe⟩
  have HS2 : Hid (Seg w2 w2.heap.size A (zs.map (.int .i64))) := (HS1.out.below hbe).more hbe.size
  have HB2 : Hid (Below w.heap.size w w2) := HB1.out.trans (hbe.mono HB1.out.size)
  have HE := Lib.hid hbe
  clear hbe
  go_wp2_with fail
  refine (HR1.out _ HS2.out).mono ?_
  rintro e w' ⟨rfl, rfl⟩
  go_wp2_with fail
  refine (HR2.out _ HS2.out).mono ?_
  rintro e w' ⟨rfl, rfl⟩
  go_wp2_with fail
  refine (HR2.out _ HS2.out).mono ?_
  rintro e w' ⟨rfl, rfl⟩
  go_wp2_with fail
  go_ret
  exact ⟨rfl, HB2.out⟩
set_option maxRecDepth 20000 in
set_option maxHeartbeats 4000000 in
theorem com_b4 (n k : Int) (N : Nat) (zs : List Int) (A : Option Addr) (c : Nat) (w : World) (hs : Seg w w.heap.size A (zs.map (.int .i64))) (hm : zs.length ≤ 9223372036854775807) (hc : zs.length ≤ c) (hr : eright n zs = true) (hn : n = N) (h1 : N ≤ 60) (h : k < 0) : lawCom n k zs A c w := by
  subst hn
  have HS := Lib.hid hs
  have HR := Lib.hid hr
  have HR1 : Hid (∀ (u : World), Seg u u.heap.size A (zs.map (.int .i64)) → Calls Try.prog 16 #[.int .i64 N, .slice A zs.length c] u fun e w' => e = .returned (.bool true) ∧ u = w') := fun u hu => by
    have h := cright_any N zs A c _ u hu hm
    rwa [hr] at h
  have HR2 : Hid (∀ (u : World), Seg u u.heap.size A (zs.map (.int .i64)) → Calls Try.prog 17 #[.int .i64 N, .slice A zs.length c] u fun e w' => e = .returned (.bool true) ∧ u = w') := fun u hu => by
    have h := eright_any N zs A c _ u hu hm
    rwa [hr] at h
  clear hs hr
  have HEK : Hid (eokc N zs zs.length = true) := by
    have h := HR.out
    unfold eright at h
    simp at h
    exact h.2
  have HS1 := HS
  have HB1 := Lib.hid (Below.refl w.heap.size w)
  have b0 : ¬ (N : Int) < 0 := by omega
  have b1 : ¬ 60 < (N : Int) := by omega
  have b2 : ¬ 60 < N := by omega
  have HBAD : Hid ((N : Int) < 0 ∨ 60 < (N : Int) ∨ k < 0) := by unfold Hid; omega
  go_enter Try.func3, Try.ntmps3
  go_wp2_with fail
  refine (cof_bad N k _ HBAD.out).mono ?_
  rintro e w' ⟨rfl, rfl⟩
  go_wp2_with fail
  refine (rest_ok N zs A c _ HS1.out hm hc HR.out (by omega)).mono ?_
  rintro e w2 ⟨A2, c2, rfl, hc2, hsg2, hb2⟩
  have HS2 : Hid (Seg w2 w2.heap.size A (zs.map (.int .i64))) := (HS1.out.below hb2).more hb2.size
  have HSG2 := Lib.hid hsg2
  have HB2 : Hid (Below w.heap.size w w2) := HB1.out.trans (hb2.mono HB1.out.size)
  clear hsg2 hb2
  go_wp2_with fail
  refine (HR1.out _ HS2.out).mono ?_
  rintro e w' ⟨rfl, rfl⟩
  go_wp2_with fail
  refine (HR2.out _ HS2.out).mono ?_
  rintro e w' ⟨rfl, rfl⟩
  go_wp2_with fail
  refine (HR2.out _ HS2.out).mono ?_
  rintro e w' ⟨rfl, rfl⟩
  go_wp2_with fail
  have HL := Lib.hid (ro_eq (n := (N : Int)) (zs := zs) HEK.out N)
  go_loopw [11, 69] (fun s11 s69 wr => ∃ x : Nat, x ≤ N ∧ s69 = .int .i64 x ∧ Own wr w2.heap.size 3 s11 ((rw_ zs x).map (.int .i64)) ∧ Below w2.heap.size w2 wr) (fun _ s69 _ => N - (intOf s69).toNat)
  case atStart => exact ⟨0, Nat.zero_le _, rfl, Own.none_, Below.refl _ _⟩
  case round =>
    obtain ⟨x, hx, rfl, hown, hbel⟩ := hrel
    have HOW := Lib.hid hown
    have HB := Lib.hid hbel
    have HSZ := Lib.hid hbel.size
    clear hown hbel
    have hol := rw_len zs x
    by_cases hlt : x < N
    · have i1 : (x : Int) < (N : Int) := by omega
      have hcon := contains_ints zs x A c _ wr (HS2.out.below HB.out) hm
      by_cases hmem : (x : Int) ∈ zs
      · have HW : Hid (rw_ zs (x + 1) = rw_ zs x) := if_pos hmem
        rw [decide_eq_true hmem] at hcon
        have HC := Lib.hid hcon
        clear hcon hmem
        go_wp2_with fail
        refine HC.out.mono ?_
        rintro e w' ⟨rfl, rfl⟩
        go_wp2_with fail
        go_roundw
        case rel => exact ⟨x + 1, by omega, by go_num, by rw [HW.out]; exact HOW.out, HB.out⟩
        case measure => simp [intOf]; omega
      · have HW : Hid (rw_ zs (x + 1) = rw_ zs x ++ [(x : Int)]) := if_neg hmem
        rw [decide_eq_false hmem] at hcon
        have HC := Lib.hid hcon
        clear hcon hmem
        go_wp2_with fail
        refine HC.out.mono ?_
        rintro e w' ⟨rfl, rfl⟩
        go_wp2_with (first
          | (at_builtin; go_must (refine wpList_push _ rfl _ _ 22 3 8 elem_ints rfl w2.heap.size _ _ rfl (Own.alloc' HOW.out _) (.int .i64 x) ⟨wr.heap.size, 0, none⟩ 1 rfl (cell_new1 _ _ _) rfl (by rw [List.length_map]; omega) (by rw [List.length_map]; unfold maxLen; omega) (by simp; exact Nat.le_succ_of_le HSZ.out) ?_); intro v3 w3 hown3 hbel3; have HO3 := Lib.hid hown3; have HB3 := Lib.hid hbel3; clear hown3 hbel3)
          | fail)
        go_roundw
        case rel =>
          refine ⟨x + 1, by omega, by go_num, ?_, (HB.out.alloc HSZ.out _).trans HB3.out⟩
          have h := HO3.out
          rw [HW.out, List.map_append]; exact h
        case measure => simp [intOf]; omega
    · have i1 : ¬ (x : Int) < (N : Int) := by omega
      have hxn : x = N := by omega
      obtain ⟨A3, c3, rfl, hc3, hsg⟩ := HOW.out.res
      have HEQ : Hid (∀ u, Seg u wr.heap.size A2 ((ro zs N).map (.int .i64)) → Seg u wr.heap.size A3 ((rw_ zs x).map (.int .i64)) → Calls Try.prog 19 #[.slice A2 (ro zs N).length c2, .slice A3 (rw_ zs x).length c3] u fun e w' => e = .returned (.bool true) ∧ ∃ n, w' = u.drewN n) := fun u h1 h2 => by
        have h := eq_ints (ro zs N) (rw_ zs x) A2 A3 c2 c3 _ u h1 h2 (by have := ro_len zs N; omega)
        rwa [decide_eq_true (show ro zs N = rw_ zs x by rw [hxn]; exact HL.out)] at h
      have HG3 := Lib.hid hsg
      have HG2 : Hid (Seg wr wr.heap.size A2 ((ro zs N).map (.int .i64))) := (HSG2.out.below HB.out).more HSZ.out
      clear hsg hc3 hxn
      rw [List.length_map]
      go_wp2_with fail
      refine (HEQ.out _ HG2.out HG3.out).mono ?_
      rintro e w' ⟨rfl, d2, rfl⟩
      go_wp2_with fail
      go_ret
      exact ⟨rfl, below_drewN (HB2.out.trans (HB.out.mono HB2.out.size)) _⟩
set_option maxRecDepth 20000 in
set_option maxHeartbeats 4000000 in
theorem com_g2 (n k : Int) (N : Nat) (zs : List Int) (A : Option Addr) (c : Nat) (w : World) (hs : Seg w w.heap.size A (zs.map (.int .i64))) (hm : zs.length ≤ 9223372036854775807) (hc : zs.length ≤ c) (hr : eright n zs = true) (hn : n = N) (hN : N ≤ 60) (h2 : 0 ≤ k) : lawCom n k zs A c w := by
  subst hn
  have HS := Lib.hid hs
  have HR := Lib.hid hr
  have HR1 : Hid (∀ (u : World), Seg u u.heap.size A (zs.map (.int .i64)) → Calls Try.prog 16 #[.int .i64 N, .slice A zs.length c] u fun e w' => e = .returned (.bool true) ∧ u = w') := fun u hu => by
    have h := cright_any N zs A c _ u hu hm
    rwa [hr] at h
  have HR2 : Hid (∀ (u : World), Seg u u.heap.size A (zs.map (.int .i64)) → Calls Try.prog 17 #[.int .i64 N, .slice A zs.length c] u fun e w' => e = .returned (.bool true) ∧ u = w') := fun u hu => by
    have h := eright_any N zs A c _ u hu hm
    rwa [hr] at h
  clear hs hr
  have HEK : Hid (eokc N zs zs.length = true) := by
    have h := HR.out
    unfold eright at h
    simp at h
    exact h.2
  have h0 : 0 ≤ (N : Int) := by omega
  have h1 : (N : Int) ≤ 60 := by omega
  have b0 : ¬ (N : Int) < 0 := by omega
  have b1 : ¬ 60 < (N : Int) := by omega
  have b3 : ¬ 60 < N := by omega
  have b2 : ¬ k < 0 := by omega
  go_enter Try.func3, Try.ntmps3
  go_wp2_with fail
  refine (cof_ok N k _ h0 h1 h2).mono ?_
  rintro e w' ⟨rfl, d, rfl⟩
  have HS1 := Lib.hid (HS.out.drewN d)
  have HB1 := Lib.hid (below_drewN (Below.refl w.heap.size w) d)
  have hwz : (w.drewN d).heap.size = w.heap.size := rfl
  rw [← hwz] at HS1
  generalize w.drewN d = w1 at *
  have HWZ := Lib.hid hwz
  clear hwz
  go_wp2_with fail
  refine (rest_ok N zs A c _ HS1.out hm hc HR.out (by omega)).mono ?_
  rintro e w2 ⟨A2, c2, rfl, hc2, hsg2, hb2⟩
  have HS2 : Hid (Seg w2 w2.heap.size A (zs.map (.int .i64))) := (HS1.out.below hb2).more hb2.size
  have HSG2 := Lib.hid hsg2
  have HB2 : Hid (Below w.heap.size w w2) := HB1.out.trans (hb2.mono HB1.out.size)
  clear hsg2 hb2
  go_wp2_with fail
  refine (eof_any N k _ (by omega)).mono ?_
  rintro e w3 ⟨rfl, hbe⟩
  have HS3 : Hid (Seg w3 w3.heap.size A (zs.map (.int .i64))) := (HS2.out.below hbe).more hbe.size
  have HB3 : Hid (Below w.heap.size w w3) := HB2.out.trans (hbe.mono HB2.out.size)
  have HE := Lib.hid hbe
  clear hbe
  go_wp2_with fail
  refine (HR1.out _ HS3.out).mono ?_
  rintro e w' ⟨rfl, rfl⟩
  go_wp2_with fail
  refine (HR2.out _ HS3.out).mono ?_
  rintro e w' ⟨rfl, rfl⟩
  go_wp2_with fail
  refine (HR2.out _ HS3.out).mono ?_
  rintro e w' ⟨rfl, rfl⟩
  go_wp2_with fail
  have HL := Lib.hid (ro_eq (n := (N : Int)) (zs := zs) HEK.out N)
  go_loopw [11, 69] (fun s11 s69 wr => ∃ x : Nat, x ≤ N ∧ s69 = .int .i64 x ∧ Own wr w3.heap.size 3 s11 ((rw_ zs x).map (.int .i64)) ∧ Below w3.heap.size w3 wr) (fun _ s69 _ => N - (intOf s69).toNat)
  case atStart => exact ⟨0, Nat.zero_le _, rfl, Own.none_, Below.refl _ _⟩
  case round =>
    obtain ⟨x, hx, rfl, hown, hbel⟩ := hrel
    have HOW := Lib.hid hown
    have HB := Lib.hid hbel
    have HSZ := Lib.hid hbel.size
    clear hown hbel
    have hol := rw_len zs x
    by_cases hlt : x < N
    · have i1 : (x : Int) < (N : Int) := by omega
      have hcon := contains_ints zs x A c _ wr (HS3.out.below HB.out) hm
      by_cases hmem : (x : Int) ∈ zs
      · have HW : Hid (rw_ zs (x + 1) = rw_ zs x) := if_pos hmem
        rw [decide_eq_true hmem] at hcon
        have HC := Lib.hid hcon
        clear hcon hmem
        go_wp2_with fail
        refine HC.out.mono ?_
        rintro e w' ⟨rfl, rfl⟩
        go_wp2_with fail
        go_roundw
        case rel => exact ⟨x + 1, by omega, by go_num, by rw [HW.out]; exact HOW.out, HB.out⟩
        case measure => simp [intOf]; omega
      · have HW : Hid (rw_ zs (x + 1) = rw_ zs x ++ [(x : Int)]) := if_neg hmem
        rw [decide_eq_false hmem] at hcon
        have HC := Lib.hid hcon
        clear hcon hmem
        go_wp2_with fail
        refine HC.out.mono ?_
        rintro e w' ⟨rfl, rfl⟩
        go_wp2_with (first
          | (at_builtin; go_must (refine wpList_push _ rfl _ _ 22 3 8 elem_ints rfl w3.heap.size _ _ rfl (Own.alloc' HOW.out _) (.int .i64 x) ⟨wr.heap.size, 0, none⟩ 1 rfl (cell_new1 _ _ _) rfl (by rw [List.length_map]; omega) (by rw [List.length_map]; unfold maxLen; omega) (by simp; exact Nat.le_succ_of_le HSZ.out) ?_); intro v3 w3 hown3 hbel3; have HO3 := Lib.hid hown3; have HB3 := Lib.hid hbel3; clear hown3 hbel3)
          | fail)
        go_roundw
        case rel =>
          refine ⟨x + 1, by omega, by go_num, ?_, (HB.out.alloc HSZ.out _).trans HB3.out⟩
          have h := HO3.out
          rw [HW.out, List.map_append]; exact h
        case measure => simp [intOf]; omega
    · have i1 : ¬ (x : Int) < (N : Int) := by omega
      have hxn : x = N := by omega
      obtain ⟨A3, c3, rfl, hc3, hsg⟩ := HOW.out.res
      have HEQ : Hid (∀ u, Seg u wr.heap.size A2 ((ro zs N).map (.int .i64)) → Seg u wr.heap.size A3 ((rw_ zs x).map (.int .i64)) → Calls Try.prog 19 #[.slice A2 (ro zs N).length c2, .slice A3 (rw_ zs x).length c3] u fun e w' => e = .returned (.bool true) ∧ ∃ n, w' = u.drewN n) := fun u h1 h2 => by
        have h := eq_ints (ro zs N) (rw_ zs x) A2 A3 c2 c3 _ u h1 h2 (by have := ro_len zs N; omega)
        rwa [decide_eq_true (show ro zs N = rw_ zs x by rw [hxn]; exact HL.out)] at h
      have HG3 := Lib.hid hsg
      have HG2 : Hid (Seg wr wr.heap.size A2 ((ro zs N).map (.int .i64))) := (((HSG2.out.below HE.out).more HE.out.size).below HB.out).more HSZ.out
      clear hsg hc3 hxn
      rw [List.length_map]
      go_wp2_with fail
      refine (HEQ.out _ HG2.out HG3.out).mono ?_
      rintro e w' ⟨rfl, d2, rfl⟩
      go_wp2_with fail
      go_ret
      exact ⟨rfl, below_drewN (HB3.out.trans (HB.out.mono HB3.out.size)) _⟩
theorem ComboCounts_walk (a0 a1 : Int) (A2 : Option Addr) (z2 : List Int) (c2 : Nat) (w : World) (_w0 : (Lit.int .i64 a0).wf = true) (_w1 : (Lit.int .i64 a1).wf = true) (hc2 : z2.length ≤ c2) (hm2 : c2 ≤ maxLen) (_hw2 : ∀ n, n ∈ z2 → (Lit.int .i64 n).wf = true) (s2 : Seg w w.heap.size A2 (z2.map (.int .i64))) : lawCom a0 a1 z2 A2 c2 w := by
  unfold maxLen at hm2
  have hm : z2.length ≤ 9223372036854775807 := by omega
  cases hr : eright a0 z2 with
  | false =>
    by_cases h0 : a0 < 0
    · exact com_b1 _ _ _ _ _ _ s2 hm hc2 hr h0
    · by_cases h1 : 60 < a0
      · exact com_b2 _ _ _ _ _ _ s2 hm hc2 hr h0 h1
      · by_cases h2 : a1 < 0
        · exact com_b3 _ _ _ _ _ _ s2 hm hc2 hr h0 h1 h2
        · exact com_g1 _ _ _ _ _ _ s2 hm hc2 hr (by omega) (by omega) (by omega)
  | true =>
    obtain ⟨h0, h1⟩ := eright_range hr
    by_cases h2 : a1 < 0
    · exact com_b4 _ _ a0.toNat _ _ _ _ s2 hm hc2 hr (by omega) (by omega) h2
    · exact com_g2 _ _ a0.toNat _ _ _ _ s2 hm hc2 hr (by omega) (by omega) (by omega)
end Go.Proofs.Ytmcbkjepjijfjaa
