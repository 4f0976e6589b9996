/- The statement TopOrders, walked. No condition but the library's tables. -/
import Derived.Test.YtmibifmabkaakaaDoorBenD
import Derived.Test.YtmibifmabkaakaaDoorUrnS
import Derived.Test.YtmibifmabkaakaaDoorNatH
import Derived.Test.YtmibifmabkaakaaDoorEqu64s
namespace Go.Proofs.YtmibifmabkaakaaDoor
open Go.ChangeShapes Go.WideShapes Go.ChangeAt Go.RowKit
set_option linter.unusedVariables false

theorem fall_up (n : Nat) : ∀ k, fall (n + 1) (k + 1) = (n + 1) * fall n k
  | 0 => by show 1 * (n + 1 - 0) = (n + 1) * 1; omega
  | k + 1 => by
    show fall (n + 1) (k + 1) * (n + 1 - (k + 1)) = (n + 1) * (fall n k * (n - k))
    rw [fall_up n k, show n + 1 - (k + 1) = n - k by omega, Nat.mul_assoc]
theorem ord_eq : ∀ (n k : Nat), bin n k * fall k k = fall n k
  | n, 0 => by rw [bin_zero]; rfl
  | 0, k + 1 => by rw [bin_gt (Nat.succ_pos k), fall_zero (Nat.succ_pos k), Nat.zero_mul]
  | n + 1, k + 1 => by
    rw [fall_up k k, ← Nat.mul_assoc, ← bin_mul, Nat.mul_assoc, ord_eq n k, fall_up]
theorem ord_small {n k : Nat} (hn : n ≤ 40) (hk : k ≤ 15) : ¬ 64 < (wd (fall n k)).length := by
  have h1 : fall n k ≤ 40 ^ 15 := Nat.le_trans (fall_le n k) (Nat.le_trans (Nat.pow_le_pow_left hn k) (Nat.pow_le_pow_right (by decide) hk))
  have h2 : (40 : Nat) ^ 15 < wB ^ 64 := by decide +kernel
  have := wd_len (k := 64) (Nat.lt_of_le_of_lt h1 h2)
  omega
theorem eq_wds (l : List Nat) (A C : Option Addr) (c d : Nat) (w : World) (hs : Seg w w.heap.size A (u64s l)) (ht : Seg w w.heap.size C (u64s l)) (hm : l.length ≤ 9223372036854775807) :
    Calls Tryd.prog 18 #[.slice A l.length c, .slice C l.length d] w fun e w' => e = .returned (.bool true) ∧ ∃ n, w' = w.drewN n := by
  have e : u64s l = (l.map fun (n : Nat) => (n : Int)).map (.int .u64) := by unfold u64s; rw [List.map_map]; rfl
  rw [e] at hs ht
  have h := eq_u64s (l.map fun (n : Nat) => (n : Int)) (l.map fun (n : Nat) => (n : Int)) A C c d w.heap.size w hs ht (by rw [List.length_map]; exact hm)
  rw [List.length_map, decide_eq_true rfl] at h
  exact h
set_option maxRecDepth 20000 in
set_option maxHeartbeats 4000000 in
theorem orders_core (n k N : Nat) (C : Nat) (lf lp : List Nat) (w : World) (hnk : k ≤ n) (hn : n ≤ 40) (hk : k ≤ 15) (hlp : lp.length = N) (hN : N ≤ 64) (hC : C < 18446744073709551616) (hC2 : C ≤ 9223372036854775807)
    (hA : Calls Tryd.prog 11 #[] w fun e w' => e = .returned (.bool true) ∧ Below w.heap.size w w')
    (h1 : ∀ u, Calls Tryd.prog 14 #[.int .i64 n, .int .i64 k] u fun e w' => e = .returned (.tuple #[.int .i64 C, .int .i64 0]) ∧ ∃ m, w' = u.drewN m)
    (h2 : ∀ u, Calls Tryd.prog 15 #[u64v k, .int .i64 k] u fun e w' => NOut u w' e lf 0)
    (h3 : ∀ u, Calls Tryd.prog 17 #[u64v C] u fun e w' => ∃ A m, e = .returned (.slice A m m) ∧ m = (wd C).length ∧ Seg w' w'.heap.size A (u64s (wd C)) ∧ Below u.heap.size u w')
    (h4 : ∀ (A D : Option Addr) (c d : Nat) u, Seg u u.heap.size A (u64s (wd C)) → Seg u u.heap.size D (u64s lf) → Calls Tryd.prog 16 #[.slice A (wd C).length c, .slice D lf.length d] u fun e w' => NOut u w' e lp 0)
    (h5 : ∀ u, Calls Tryd.prog 15 #[u64v n, .int .i64 k] u fun e w' => NOut u w' e lp 0) :
    Calls Tryd.prog 4 #[.int .i64 n, .int .i64 k] w fun e w' => e = .returned (.bool true) ∧ Below w.heap.size w w' := by
  have HA := Lib.hid hA
  have H1 := Lib.hid h1
  obtain ⟨nf, hnf⟩ : ∃ nf, nf = lf.length := ⟨_, rfl⟩
  obtain ⟨nc, hnc⟩ : ∃ nc, nc = (wd C).length := ⟨_, rfl⟩
  have H2 : Hid (∀ u, Calls Tryd.prog 15 #[u64v k, .int .i64 k] u fun e w' => ∃ A c, e = .returned (.tuple #[.slice A nf c, .int .i64 0]) ∧ Seg w' w'.heap.size A (u64s lf) ∧ Below u.heap.size u w') := fun u => by
    rw [hnf]; exact (h2 u).mono fun e w' ⟨A, c, g1, g2, g3, g4⟩ => ⟨A, c, g1, g3, g4⟩
  have H3 : Hid (∀ u, Calls Tryd.prog 17 #[u64v C] u fun e w' => ∃ A, e = .returned (.slice A nc nc) ∧ Seg w' w'.heap.size A (u64s (wd C)) ∧ Below u.heap.size u w') := fun u => by
    rw [hnc]; exact (h3 u).mono fun e w' ⟨A, m, g1, g2, g3, g4⟩ => ⟨A, by rw [g1, g2], g3, g4⟩
  have H4 : Hid (∀ (A D : Option Addr) (c d : Nat) u, Seg u u.heap.size A (u64s (wd C)) → Seg u u.heap.size D (u64s lf) → Calls Tryd.prog 16 #[.slice A nc c, .slice D nf d] u fun e w' => ∃ A c, e = .returned (.tuple #[.slice A N c, .int .i64 0]) ∧ Seg w' w'.heap.size A (u64s lp) ∧ Below u.heap.size u w') := fun A D c d u s1 s2 => by
    rw [hnf, hnc, ← hlp]; exact (h4 A D c d u s1 s2).mono fun e w' ⟨A, c, g1, g2, g3, g4⟩ => ⟨A, c, g1, g3, g4⟩
  have H5 : Hid (∀ u, Calls Tryd.prog 15 #[u64v n, .int .i64 k] u fun e w' => ∃ A c, e = .returned (.tuple #[.slice A N c, .int .i64 0]) ∧ Seg w' w'.heap.size A (u64s lp) ∧ Below u.heap.size u w') := fun u => by
    rw [← hlp]; exact (h5 u).mono fun e w' ⟨A, c, g1, g2, g3, g4⟩ => ⟨A, c, g1, g3, g4⟩
  have H6 : Hid (∀ (A D : Option Addr) (c d : Nat) u, Seg u u.heap.size A (u64s lp) → Seg u u.heap.size D (u64s lp) → Calls Tryd.prog 18 #[.slice A N c, .slice D N d] u fun e w' => e = .returned (.bool true) ∧ ∃ n, w' = u.drewN n) := fun A D c d u s1 s2 => by
    rw [← hlp]; exact eq_wds lp A D c d u s1 s2 (by omega)
  have i1 : ¬ (n : Int) < 0 := by omega
  have i2 : ¬ (40 : Int) < (n : Int) := by omega
  have i3 : ¬ (k : Int) < 0 := by omega
  have i4 : ¬ (15 : Int) < (k : Int) := by omega
  have i5 : ¬ (n : Int) < (k : Int) := by omega
  have u1 : IntKind.u64.wrap (k : Int) = (k : Int) := by simp [IntKind.wrap, IntKind.bits, IntKind.signed]; omega
  have u2 : IntKind.u64.wrap (n : Int) = (n : Int) := by simp [IntKind.wrap, IntKind.bits, IntKind.signed]; omega
  have u3 : IntKind.u64.wrap (C : Int) = (C : Int) := by simp [IntKind.wrap, IntKind.bits, IntKind.signed]; omega
  clear hA h1 h2 h3 h4 h5 hnf hnc hlp hN hC hC2 hnk hn hk
  go_enter Tryd.func4, Tryd.ntmps4
  go_wp2_with fail
  refine HA.out.mono ?_
  rintro e w1 ⟨rfl, hb1⟩
  have HB1 := Lib.hid hb1
  clear hb1
  go_wp2_with fail
  refine (H1.out _).mono ?_
  rintro e w2 ⟨rfl, m2, rfl⟩
  have HB2 : Hid (Below w.heap.size w (w1.drewN m2)) := below_drewN HB1.out _
  generalize w1.drewN m2 = w2 at *
  go_wp2_with fail
  refine (H2.out _).mono ?_
  rintro e w3 ⟨A3, c3, rfl, hs3, hb3⟩
  have HS3 := Lib.hid hs3
  have HB3 : Hid (Below w.heap.size w w3) := HB2.out.trans (hb3.mono HB2.out.size)
  clear hs3 hb3
  go_wp2_with fail
  refine (H3.out _).mono ?_
  rintro e w4 ⟨A4, rfl, hs4, hb4⟩
  have HS4 := Lib.hid hs4
  have HS34 := Lib.hid ((HS3.out.below hb4).more hb4.size)
  have HB4 : Hid (Below w.heap.size w w4) := HB3.out.trans (hb4.mono HB3.out.size)
  clear hs4 hb4
  go_wp2_with fail
  refine (H4.out _ _ _ _ _ HS4.out HS34.out).mono ?_
  rintro e w5 ⟨A5, c5, rfl, hs5, hb5⟩
  have HS5 := Lib.hid hs5
  have HB5 : Hid (Below w.heap.size w w5) := HB4.out.trans (hb5.mono HB4.out.size)
  clear hs5 hb5 HS4 HS34
  go_wp2_with fail
  refine (H5.out _).mono ?_
  rintro e w6 ⟨A6, c6, rfl, hs6, hb6⟩
  have HS6 := Lib.hid hs6
  have HS56 := Lib.hid ((HS5.out.below hb6).more hb6.size)
  have HB6 : Hid (Below w.heap.size w w6) := HB5.out.trans (hb6.mono HB5.out.size)
  clear hs6 hb6
  go_wp2_with fail
  refine (H6.out _ _ _ _ _ HS56.out HS6.out).mono ?_
  rintro e w7 ⟨rfl, m7, rfl⟩
  go_wp2_with fail
  go_ret
  exact ⟨rfl, below_drewN HB6.out _⟩
set_option maxRecDepth 20000 in
set_option maxHeartbeats 4000000 in
theorem orders_out (n k : Int) (w : World) (h : n < 0 ∨ 40 < n ∨ k < 0 ∨ 15 < k ∨ n < k)
    (hA : Calls Tryd.prog 11 #[] w fun e w' => e = .returned (.bool true) ∧ Below w.heap.size w w') :
    Calls Tryd.prog 4 #[.int .i64 n, .int .i64 k] w fun e w' => e = .returned (.bool true) ∧ Below w.heap.size w w' := by
  have HA := Lib.hid hA
  clear hA
  rcases (by omega : n < 0 ∨ (¬ n < 0 ∧ 40 < n) ∨ (¬ n < 0 ∧ ¬ 40 < n ∧ k < 0) ∨ (¬ n < 0 ∧ ¬ 40 < n ∧ ¬ k < 0 ∧ 15 < k) ∨ (¬ n < 0 ∧ ¬ 40 < n ∧ ¬ k < 0 ∧ ¬ 15 < k ∧ n < k)) with h1 | ⟨h1, h2⟩ | ⟨h1, h2, h3⟩ | ⟨h1, h2, h3, h4⟩ | ⟨h1, h2, h3, h4, h5⟩
  all_goals
    clear h
    go_enter Tryd.func4, Tryd.ntmps4
    go_wp2_with fail
    refine HA.out.mono ?_
    rintro e w2 ⟨rfl, hb2⟩
    have HB2 := Lib.hid hb2
    clear hb2
    go_wp2_with fail
    go_ret
    exact ⟨rfl, HB2.out⟩
theorem TopOrders_walk (n k : Int) (w : World) (hn : (Lit.int .i64 n).wf = true) (hk : (Lit.int .i64 k).wf = true) (hL : LibW w) :
    Calls Tryd.prog 4 #[.int .i64 n, .int .i64 k] w fun e w' => e = .returned (.bool true) ∧ Below w.heap.size w w' := by
  have hA := alive_any w hL
  by_cases h : n < 0 ∨ 40 < n ∨ k < 0 ∨ 15 < k ∨ n < k
  · exact orders_out n k w h hA
  · obtain ⟨N, rfl⟩ : ∃ N : Nat, n = N := ⟨n.toNat, by omega⟩
    obtain ⟨K, rfl⟩ : ∃ K : Nat, k = K := ⟨k.toNat, by omega⟩
    have hK : K ≤ 15 := by omega
    have hN : N ≤ 40 := by omega
    have hKN : K ≤ N := by omega
    have l1 := ord_small (n := K) (k := K) (by omega) hK
    have l2 := ord_small hN hK
    have hb := bin_small (n := N) (by omega) K
    have lC : ¬ 64 < (wd (bin N K)).length := by
      have := wd_len (n := bin N K) (k := 1) (by rw [Nat.pow_one]; exact Nat.lt_of_le_of_lt hb (by decide))
      omega
    have e1 : cofp (N : Int) (K : Int) = (((bin N K : Nat) : Int), 0) := by
      unfold cofp
      rw [if_neg (by omega)]
      unfold cof
      rw [if_neg (by omega)]
      rfl
    refine orders_core N K (wd (fall N K)).length (bin N K) (wd (fall K K)) (wd (fall N K)) w hKN hN hK rfl (by omega) (by omega) (by omega) hA ?_ ?_ ?_ ?_ ?_
    · intro u
      have h := cOf_any (N : Int) (K : Int) u
      rw [e1] at h
      exact h
    · intro u
      have h := falling_ok K K u (Nat.lt_of_le_of_lt hK (by decide)) (by omega)
      rw [nfits_ok l1] at h
      exact h
    · intro u
      exact (of_any (bin N K) u (Nat.lt_of_le_of_lt hb (by decide))).mono fun e w' ⟨A, g1, g2, g3⟩ => ⟨A, _, g1, rfl, g2, g3⟩
    · intro A D c d u s1 s2
      have h := nmul_ok A D (wd (bin N K)) (wd (fall K K)) c d u s1 s2 (wd_ok _) (wd_ok _) (nright_wd (by omega)) (nright_wd (by omega))
      rw [nv_wd, nv_wd, ord_eq, nfits_ok l2] at h
      exact h
    · intro u
      have h := falling_ok N K u (Nat.lt_of_le_of_lt hN (by decide)) (by omega)
      rw [nfits_ok l2] at h
      exact h
end Go.Proofs.YtmibifmabkaakaaDoor
