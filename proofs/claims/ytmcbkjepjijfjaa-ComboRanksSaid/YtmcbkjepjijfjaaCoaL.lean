/- ComboRanks: the law's function, walked. No condition. -/
import Derived.Test.YtmcbkjepjijfjaaCoaN
import Derived.Test.YtmcbkjepjijfjaaCoaE
import Derived.Test.YtmcbkjepjijfjaaSeqE
namespace Go.Proofs.Ytmcbkjepjijfjaa
open Go.ChangeShapes Go.WideShapes Go.ChangeAt Go.RowKit
set_option linter.unusedVariables false

theorem cwf_bd {n : Int} (h : (Lit.int .i64 n).wf = true) : -9223372036854775808 ≤ n ∧ n ≤ 9223372036854775807 := by
  simp [Lit.wf, IntKind.min, IntKind.max, IntKind.bits, IntKind.signed] at h; omega
theorem cat_any (n k r : Int) (w : World) (hr : r ≤ 9223372036854775807) :
    Calls Try.prog 64 #[.int .i64 n, .int .i64 k, .int .i64 r] w fun e w' => SOut w w' e (catL n k r) (catE n k r) := by
  by_cases h : 0 ≤ n ∧ n ≤ 60 ∧ 0 ≤ k ∧ 0 ≤ r
  · obtain ⟨N, rfl⟩ : ∃ N : Nat, n = N := ⟨n.toNat, by omega⟩
    obtain ⟨K, rfl⟩ : ∃ K : Nat, k = K := ⟨k.toNat, by omega⟩
    obtain ⟨R, rfl⟩ : ∃ R : Nat, r = R := ⟨r.toNat, by omega⟩
    exact cat_ok_any N K R w (by omega) hr
  · exact cat_bad_any n k r w h
set_option maxRecDepth 20000 in
set_option maxHeartbeats 2000000 in
theorem eat_bad_any (n k r : Int) (w : World) (h : ¬ (0 ≤ n ∧ n ≤ 60 ∧ 0 ≤ k ∧ 0 ≤ r)) :
    Calls Try.prog 65 #[.int .i64 n, .int .i64 k, .int .i64 r] w fun e w' => SOut w w' e (catL n k r) (catE n k r) := by
  have HL := Lib.hid (cat_bad h)
  rcases (by omega : n < 0 ∨ (¬ n < 0 ∧ 60 < n) ∨ (¬ n < 0 ∧ ¬ 60 < n ∧ k < 0) ∨ (¬ n < 0 ∧ ¬ 60 < n ∧ ¬ k < 0 ∧ r < 0)) with h1 | ⟨h1, h2⟩ | ⟨h1, h2, h3⟩ | ⟨h1, h2, h3, h4⟩
  all_goals
    clear h
    go_enter Try.func65, Try.ntmps65
    go_wp2_with fail
    go_ret2
    rw [HL.out.1, HL.out.2]
    exact SOut.nil_ (Below.refl _ _)
set_option maxRecDepth 20000 in
set_option maxHeartbeats 2000000 in
theorem eat_none_any (n k r : Nat) (w : World) (hn : n ≤ 60) (h : bin n k ≤ r) :
    Calls Try.prog 65 #[.int .i64 n, .int .i64 k, .int .i64 r] w fun e w' => SOut w w' e (catL n k r) (catE n k r) := by
  have HL := Lib.hid (cat_none hn h)
  have HEO := Lib.hid (eof_nat n k w (by omega))
  have i1 : ¬ (n : Int) < 0 := by omega
  have i2 : ¬ 60 < (n : Int) := by omega
  have i3 : ¬ (k : Int) < 0 := by omega
  have i4 : ¬ (r : Int) < 0 := by omega
  by_cases hk : n < k
  · have i5 : (n : Int) < (k : Int) := by omega
    clear h HEO
    go_enter Try.func65, Try.ntmps65
    go_wp2_with fail
    go_ret2
    rw [HL.out.1, HL.out.2]
    exact SOut.nil_ (Below.refl _ _)
  · have i5 : ¬ (n : Int) < (k : Int) := by omega
    generalize bin n k = v at *
    go_enter Try.func65, Try.ntmps65
    go_wp2_with fail
    refine HEO.out.mono ?_
    rintro e w1 ⟨rfl, hb⟩
    have HB1 := Lib.hid hb
    clear hb
    go_wp2_with fail
    go_ret2
    rw [HL.out.1, HL.out.2]
    exact SOut.nil_ HB1.out
theorem reat_any (n k r : Int) (w : World) (hr : r ≤ 9223372036854775807) :
    Calls Try.prog 65 #[.int .i64 n, .int .i64 k, .int .i64 r] w fun e w' => SOut w w' e (catL n k r) (catE n k r) := by
  by_cases h : 0 ≤ n ∧ n ≤ 60 ∧ 0 ≤ k ∧ 0 ≤ r
  · obtain ⟨N, rfl⟩ : ∃ N : Nat, n = N := ⟨n.toNat, by omega⟩
    obtain ⟨K, rfl⟩ : ∃ K : Nat, k = K := ⟨k.toNat, by omega⟩
    obtain ⟨R, rfl⟩ : ∃ R : Nat, r = R := ⟨r.toNat, by omega⟩
    by_cases hlt : R < bin N K
    · have h1 := cat_ok (n := N) (k := K) (r := R) (by omega) hlt
      rw [h1.1, h1.2]
      exact (eat_any K N R w (by omega) hr hlt).mono fun _ _ h => h.sout
    · exact eat_none_any N K R w (by omega) (by omega)
  · exact eat_bad_any n k r w h
theorem catL_len (n k r : Int) : (catL n k r).length ≤ 60 := by
  unfold catL
  split
  · next h =>
    have := bin_pos_le (n := n.toNat) (k := k.toNat) (r := r.toNat) (by omega)
    rw [eatL_len]; omega
  · exact Nat.zero_le _
set_option maxRecDepth 20000 in
set_option maxHeartbeats 4000000 in
theorem cranks_law (zs L M : List Int) (n k r E F : Int) (A : Option Addr) (c q : Nat) (P : Bool) (w : World) (hp : Seg w w.heap.size A (zs.map (.int .i64))) (hL : L.length ≤ 9223372036854775807) (hM : M.length ≤ 9223372036854775807) (hq : (q : Int) ≤ 2305843009213693952) (hzl : (zs.length : Int) ≤ 9223372036854775807)
    (hf : P = false → M = [] ∧ F = 1)
    (h1 : ∀ u, Seg u u.heap.size A (zs.map (.int .i64)) → Calls Try.prog 63 #[.int .i64 n, .slice A zs.length c] u fun e w' => e = .returned (.tuple (if P = true then #[.int .i64 q, .int .i64 0] else #[.int .i64 0, .int .i64 1])) ∧ ∃ d, w' = u.drewN d)
    (h2 : ∀ u, Calls Try.prog 64 #[.int .i64 n, .int .i64 k, .int .i64 r] u fun e w' => SOut u w' e L E)
    (h3 : ∀ u, Calls Try.prog 65 #[.int .i64 n, .int .i64 k, .int .i64 r] u fun e w' => SOut u w' e L E)
    (h4 : ∀ u, Seg u u.heap.size A (zs.map (.int .i64)) → Calls Try.prog 66 #[.int .i64 n, .slice A zs.length c] u fun e w' => SOut u w' e M F)
    (h5 : ∀ u, Seg u u.heap.size A (zs.map (.int .i64)) → Calls Try.prog 17 #[.int .i64 n, .slice A zs.length c] u fun e w' => e = .returned (.bool P) ∧ u = w')
    (h6 : P = true → ∀ u, Seg u u.heap.size A (zs.map (.int .i64)) → Calls Try.prog 67 #[.slice A zs.length c] u fun e w' => e = .returned (.int .i64 q) ∧ Below u.heap.size u w')
    (h7 : P = true → ∀ u, Calls Try.prog 65 #[.int .i64 n, .int .i64 zs.length, .int .i64 ((q : Int) + 1)] u fun e w' => SOut u w' e M F) :
    Calls Try.prog 11 #[.int .i64 n, .int .i64 k, .int .i64 r, .slice A zs.length c] w fun e w' => e = .returned (.bool true) ∧ Below w.heap.size w w' := by
  have HP0 := Lib.hid hp
  have H1 := Lib.hid h1
  have H2 := Lib.hid h2
  have H3 := Lib.hid h3
  have H4 := Lib.hid h4
  have H5 := Lib.hid h5
  have H6 := Lib.hid h6
  have H7 := Lib.hid h7
  have b1 : (E != E) = false := by simp
  clear hp h1 h2 h3 h4 h5 h6 h7
  cases P with
  | false =>
    rw [if_neg (by decide)] at H1
    obtain ⟨rfl, rfl⟩ := hf rfl
    clear hf
    go_enter Try.func11, Try.ntmps11
    go_wp2_with fail
    refine (H1.out _ HP0.out).mono ?_
    rintro e w' ⟨rfl, n1, rfl⟩
    have HB1 : Hid (Below w.heap.size w (w.drewN n1)) := below_drewN (Below.refl _ _) n1
    have HP1 : Hid (Seg (w.drewN n1) (w.drewN n1).heap.size A (zs.map (.int .i64))) := HP0.out
    generalize w.drewN n1 = w1 at *
    go_wp2_with fail
    refine (H2.out _).mono ?_
    rintro e w2 ⟨A2, k2, rfl, _, hsg, hb⟩
    have HB2 : Hid (Below w.heap.size w w2) := HB1.out.trans (hb.mono HB1.out.size)
    have HP2 := Lib.hid (HP1.out.on hb)
    have HR2 := Lib.hid hsg
    clear hsg hb
    go_wp2_with fail
    refine (H3.out _).mono ?_
    rintro e w3 ⟨A3, k3, rfl, _, hsg, hb⟩
    have HB3 : Hid (Below w.heap.size w w3) := HB2.out.trans (hb.mono HB2.out.size)
    have HP3 := Lib.hid (HP2.out.on hb)
    have HR3 := Lib.hid hsg
    have HS3 := Lib.hid (HR2.out.on hb)
    clear hsg hb
    go_wp2_with fail
    refine (H4.out _ HP3.out).mono ?_
    rintro e w4 ⟨A4, k4, rfl, _, hsg, hb⟩
    have HB4 : Hid (Below w.heap.size w w4) := HB3.out.trans (hb.mono HB3.out.size)
    have HP4 := Lib.hid (HP3.out.on hb)
    have HR4 := Lib.hid (HR3.out.on hb)
    have HS4 := Lib.hid (HS3.out.on hb)
    have HM4 := Lib.hid hsg
    clear hsg hb
    go_wp2_with fail
    refine (eq_same L A2 A3 k2 k3 _ HS4.out HR4.out hL).mono ?_
    rintro e w' ⟨rfl, n7, rfl⟩
    have HB7 : Hid (Below w.heap.size w (w4.drewN n7)) := below_drewN HB4.out n7
    have HP7 : Hid (Seg (w4.drewN n7) (w4.drewN n7).heap.size A (zs.map (.int .i64))) := HP4.out
    have HM7 : Hid (Seg (w4.drewN n7) (w4.drewN n7).heap.size A4 ((([] : List Int)).map (.int .i64))) := HM4.out
    generalize w4.drewN n7 = w7 at *
    go_wp2_with fail
    refine (H5.out _ HP7.out).mono ?_
    rintro e w' ⟨rfl, rfl⟩
    go_wp2_with fail
    go_ret
    exact ⟨rfl, HB7.out⟩
  | true =>
    rw [if_pos rfl] at H1
    have H8 := Lib.hid (H6.out rfl)
    have H9 := Lib.hid (H7.out rfl)
    have b2 : ((q : Int) != (q : Int)) = false := by simp
    have b3 : (F == F) = true := by simp
    clear H6 H7 hf
    go_enter Try.func11, Try.ntmps11
    go_wp2_with fail
    refine (H1.out _ HP0.out).mono ?_
    rintro e w' ⟨rfl, n1, rfl⟩
    have HB1 : Hid (Below w.heap.size w (w.drewN n1)) := below_drewN (Below.refl _ _) n1
    have HP1 : Hid (Seg (w.drewN n1) (w.drewN n1).heap.size A (zs.map (.int .i64))) := HP0.out
    generalize w.drewN n1 = w1 at *
    go_wp2_with fail
    refine (H2.out _).mono ?_
    rintro e w2 ⟨A2, k2, rfl, _, hsg, hb⟩
    have HB2 : Hid (Below w.heap.size w w2) := HB1.out.trans (hb.mono HB1.out.size)
    have HP2 := Lib.hid (HP1.out.on hb)
    have HR2 := Lib.hid hsg
    clear hsg hb
    go_wp2_with fail
    refine (H3.out _).mono ?_
    rintro e w3 ⟨A3, k3, rfl, _, hsg, hb⟩
    have HB3 : Hid (Below w.heap.size w w3) := HB2.out.trans (hb.mono HB2.out.size)
    have HP3 := Lib.hid (HP2.out.on hb)
    have HR3 := Lib.hid hsg
    have HS3 := Lib.hid (HR2.out.on hb)
    clear hsg hb
    go_wp2_with fail
    refine (H4.out _ HP3.out).mono ?_
    rintro e w4 ⟨A4, k4, rfl, _, hsg, hb⟩
    have HB4 : Hid (Below w.heap.size w w4) := HB3.out.trans (hb.mono HB3.out.size)
    have HP4 := Lib.hid (HP3.out.on hb)
    have HR4 := Lib.hid (HR3.out.on hb)
    have HS4 := Lib.hid (HS3.out.on hb)
    have HM4 := Lib.hid hsg
    clear hsg hb
    go_wp2_with fail
    refine (eq_same L A2 A3 k2 k3 _ HS4.out HR4.out hL).mono ?_
    rintro e w' ⟨rfl, n7, rfl⟩
    have HB7 : Hid (Below w.heap.size w (w4.drewN n7)) := below_drewN HB4.out n7
    have HP7 : Hid (Seg (w4.drewN n7) (w4.drewN n7).heap.size A (zs.map (.int .i64))) := HP4.out
    have HM7 : Hid (Seg (w4.drewN n7) (w4.drewN n7).heap.size A4 ((M).map (.int .i64))) := HM4.out
    generalize w4.drewN n7 = w7 at *
    go_wp2_with fail
    refine (H5.out _ HP7.out).mono ?_
    rintro e w' ⟨rfl, rfl⟩
    go_wp2_with fail
    refine (H8.out _ HP7.out).mono ?_
    rintro e w8 ⟨rfl, hb⟩
    have HB8 : Hid (Below w.heap.size w w8) := HB7.out.trans (hb.mono HB7.out.size)
    have HP8 := Lib.hid (HP7.out.on hb)
    have HM8 := Lib.hid (HM7.out.on hb)
    clear hb
    go_wp2_with fail
    refine (H8.out _ HP8.out).mono ?_
    rintro e w9 ⟨rfl, hb⟩
    have HB9 : Hid (Below w.heap.size w w9) := HB8.out.trans (hb.mono HB8.out.size)
    have HM9 := Lib.hid (HM8.out.on hb)
    clear hb
    go_wp2_with fail
    refine (H9.out _).mono ?_
    rintro e w10 ⟨A10, k10, rfl, _, hsg, hb⟩
    have HB10 : Hid (Below w.heap.size w w10) := HB9.out.trans (hb.mono HB9.out.size)
    have HM10 := Lib.hid (HM9.out.on hb)
    have HN10 := Lib.hid hsg
    clear hsg hb
    go_wp2_with fail
    refine (eq_same M A4 A10 k4 k10 _ HM10.out HN10.out hM).mono ?_
    rintro e w' ⟨rfl, n11, rfl⟩
    go_wp2_with fail
    go_ret
    exact ⟨rfl, below_drewN HB10.out _⟩
theorem ComboRanks_walk (a0 a1 a2 : Int) (A3 : Option Addr) (z3 : List Int) (c3 : Nat) (w : World) (w0 : (Lit.int .i64 a0).wf = true) (_w1 : (Lit.int .i64 a1).wf = true) (w2 : (Lit.int .i64 a2).wf = true)
    (hc3 : z3.length ≤ c3) (hm3 : c3 ≤ maxLen) (_hw3 : ∀ n, n ∈ z3 → (Lit.int .i64 n).wf = true) (s3 : Seg w w.heap.size A3 (z3.map (.int .i64))) :
    Calls Try.prog 11 #[.int .i64 a0, .int .i64 a1, .int .i64 a2, .slice A3 z3.length c3] w fun e w' => e = .returned (.bool true) ∧ Below w.heap.size w w' := by
  unfold maxLen at hm3
  have m3 : z3.length ≤ 9223372036854775807 := by omega
  have hr : a2 ≤ 9223372036854775807 := (cwf_bd w2).2
  obtain ⟨q, hq⟩ : ∃ q, (if eright a0 z3 = true then erk z3 z3.length else 0) = q := ⟨_, rfl⟩
  have hqb : (q : Int) ≤ 2305843009213693952 := by
    cases hg : eright a0 z3 with
    | false => rw [hg, if_neg (by decide)] at hq; omega
    | true =>
      rw [hg, if_pos rfl] at hq
      obtain ⟨hl, h0, h60, hok⟩ := eright_len hg
      have h1 := erk_bound hok h0 (Nat.le_refl _)
      have h2 := bin_small (n := a0.toNat) (by omega) z3.length
      omega
  have hML : (nextR a0 z3).1.length ≤ 9223372036854775807 := by
    unfold nextR
    split
    · next hg =>
      obtain ⟨hl, h0, h60, hok⟩ := eright_len hg
      rw [nxt_eat hok h0 h60 z3.length 0 (by omega) (fun j hj => by omega)]
      have := catL_len a0 z3.length ((erk z3 z3.length + 1 : Nat) : Int)
      show (catL a0 z3.length ((erk z3 z3.length + 1 : Nat) : Int)).length ≤ _
      omega
    · exact Nat.zero_le _
  refine cranks_law z3 (catL a0 a1 a2) (nextR a0 z3).1 a0 a1 a2 (catE a0 a1 a2) (nextR a0 z3).2 A3 c3 q (eright a0 z3) w s3 (by have := catL_len a0 a1 a2; omega) hML hqb (by omega) ?_ ?_ (fun u => cat_any a0 a1 a2 u hr) (fun u => reat_any a0 a1 a2 u hr) (fun u h => next_any a0 z3 A3 c3 u h m3) (fun u h => eright_any a0 z3 A3 c3 _ u h m3) ?_ ?_
  · intro hg
    unfold nextR
    rw [hg]
    exact ⟨rfl, rfl⟩
  · intro u h
    have h1 := crank_any a0 z3 A3 c3 u h m3
    cases hg : eright a0 z3 with
    | false => rw [hg] at h1; exact h1
    | true =>
      rw [hg, if_pos rfl] at hq h1
      rw [← hq]; exact h1
  · intro hg u h
    rw [hg, if_pos rfl] at hq
    obtain ⟨hl, h0, h60, hok⟩ := eright_len hg
    rw [← hq]
    refine erank_any z3 A3 c3 (fun j hj => ⟨eokc_nn hok hj, by have := (eokc_at hok hj).2; omega⟩) (fun i hi => ?_) hl hc3 z3.length u (Nat.le_refl _) h
    have h1 := erk_bound hok h0 hi
    have h2 := bin_small (n := a0.toNat) (by omega) i
    omega
  · intro hg u
    rw [hg, if_pos rfl] at hq
    obtain ⟨hl, h0, h60, hok⟩ := eright_len hg
    have he : nextR a0 z3 = _ := (if_pos hg).trans (nxt_eat hok h0 h60 z3.length 0 (by omega) (fun j hj => by omega))
    rw [he, ← hq]
    exact reat_any a0 z3.length ((erk z3 z3.length + 1 : Nat) : Int) u (by omega)
end Go.Proofs.Ytmcbkjepjijfjaa
