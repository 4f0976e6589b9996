/- PermRanks: the law's function, walked. No condition. -/
import Derived.Test.YtmcbkjepjijfjaaPerK
import Derived.Test.YtmcbkjepjijfjaaPerA
import Derived.Test.YtmcbkjepjijfjaaPerB
import Derived.Test.YtmcbkjepjijfjaaPerD
import Derived.Test.YtmcbkjepjijfjaaSeqE
namespace Go.Proofs.Ytmcbkjepjijfjaa
open Go.ChangeShapes Go.WideShapes Go.ChangeAt Go.RowKit
set_option linter.unusedVariables false

theorem at_any (n r : Int) (w : World) (hr : r ≤ 9223372036854775807) :
    Calls Try.prog 28 #[.int .i64 n, .int .i64 r] w fun e w' => SOut w w' e (atL n r) (atE n r) := by
  by_cases h : 0 ≤ n ∧ n ≤ 20 ∧ 0 ≤ r
  · obtain ⟨N, rfl⟩ : ∃ N : Nat, n = N := ⟨n.toNat, by omega⟩
    obtain ⟨R, rfl⟩ : ∃ R : Nat, r = R := ⟨r.toNat, by omega⟩
    exact at_ok N R w (by omega) hr
  · exact at_bad n r w h
theorem dat_any (n r : Int) (w : World) (hr : r ≤ 9223372036854775807) :
    Calls Try.prog 29 #[.int .i64 n, .int .i64 r] w fun e w' => SOut w w' e (atL n r) (atE n r) := by
  by_cases h : 0 ≤ n ∧ n ≤ 20 ∧ 0 ≤ r
  · obtain ⟨N, rfl⟩ : ∃ N : Nat, n = N := ⟨n.toNat, by omega⟩
    obtain ⟨R, rfl⟩ : ∃ R : Nat, r = R := ⟨r.toNat, by omega⟩
    exact dat_ok N R w (by omega) hr
  · exact dat_bad n r w h
theorem atL_len (n r : Int) : (atL n r).length ≤ 20 := by
  unfold atL
  split
  · rw [ot_len]; omega
  · exact Nat.zero_le _
set_option maxRecDepth 20000 in
set_option maxHeartbeats 4000000 in
theorem ranks_law (p L : List Int) (n r E : Int) (A : Option Addr) (c : Nat) (P : Bool) (w : World) (hp : Seg w w.heap.size A (p.map (.int .i64))) (hL : L.length ≤ 9223372036854775807)
    (h1 : ∀ u, Seg u u.heap.size A (p.map (.int .i64)) → Calls Try.prog 27 #[.slice A p.length c] u fun e w' => e = .returned (.tuple (if P = true then #[.int .i64 (drk p : Nat), .int .i64 0] else #[.int .i64 0, .int .i64 1])) ∧ Below u.heap.size u w')
    (h2 : ∀ u, Calls Try.prog 28 #[.int .i64 n, .int .i64 r] u fun e w' => SOut u w' e L E)
    (h3 : ∀ u, Calls Try.prog 29 #[.int .i64 n, .int .i64 r] u fun e w' => SOut u w' e L E)
    (h4 : ∀ u, Seg u u.heap.size A (p.map (.int .i64)) → Calls Try.prog 26 #[.slice A p.length c] u fun e w' => e = .returned (.bool P) ∧ u = w')
    (h5 : P = true → ∀ u, Seg u u.heap.size A (p.map (.int .i64)) → Calls Try.prog 30 #[.slice A p.length c] u fun e w' => e = .returned (.int .i64 (drk p : Nat)) ∧ Below u.heap.size u w') :
    Calls Try.prog 5 #[.slice A p.length c, .int .i64 n, .int .i64 r] w fun e w' => e = .returned (.bool true) ∧ Below w.heap.size w w' := by
  have HP0 := Lib.hid hp
  have H1 := Lib.hid h1
  have H2 := Lib.hid h2
  have H3 := Lib.hid h3
  have H4 := Lib.hid h4
  have H5 := Lib.hid h5
  have b1 : (E != E) = false := by simp
  clear hp h1 h2 h3 h4 h5
  cases P with
  | false =>
    rw [if_neg (by decide)] at H1
    go_enter Try.func5, Try.ntmps5
    go_wp2_with fail
    refine (H1.out _ HP0.out).mono ?_
    rintro e w1 ⟨rfl, hb⟩
    have HB1 := Lib.hid hb
    have HP1 := Lib.hid (HP0.out.on hb)
    clear hb
    go_wp2_with fail
    refine (H2.out _).mono ?_
    rintro e w2 ⟨A2, k2, rfl, _, hsg, hb⟩
    have HB2 : Hid (Below w.heap.size w w2) := HB1.out.trans (hb.mono HB1.out.size)
    have HP2 := Lib.hid (HP1.out.on hb)
    have HR2 := Lib.hid hsg
    clear hsg hb
    go_wp2_with fail
    refine (H3.out _).mono ?_
    rintro e w3 ⟨A3, k3, rfl, _, hsg, hb⟩
    have HB3 : Hid (Below w.heap.size w w3) := HB2.out.trans (hb.mono HB2.out.size)
    have HP3 := Lib.hid (HP2.out.on hb)
    have HR3 := Lib.hid hsg
    have HR4 := Lib.hid (HR2.out.on hb)
    clear hsg hb
    go_wp2_with fail
    refine (eq_same L A2 A3 k2 k3 _ HR4.out HR3.out hL).mono ?_
    rintro e w' ⟨rfl, n7, rfl⟩
    have HB7 : Hid (Below w.heap.size w (w3.drewN n7)) := below_drewN HB3.out n7
    have HP7 : Hid (Seg (w3.drewN n7) (w3.drewN n7).heap.size A (p.map (.int .i64))) := HP3.out
    generalize w3.drewN n7 = w7 at *
    go_wp2_with fail
    refine (H4.out _ HP7.out).mono ?_
    rintro e w' ⟨rfl, rfl⟩
    go_wp2_with fail
    go_ret
    exact ⟨rfl, HB7.out⟩
  | true =>
    rw [if_pos rfl] at H1
    have H6 := Lib.hid (H5.out rfl)
    clear H5
    generalize drk p = d at *
    have b2 : ((d : Int) == (d : Int)) = true := by simp
    go_enter Try.func5, Try.ntmps5
    go_wp2_with fail
    refine (H1.out _ HP0.out).mono ?_
    rintro e w1 ⟨rfl, hb⟩
    have HB1 := Lib.hid hb
    have HP1 := Lib.hid (HP0.out.on hb)
    clear hb
    go_wp2_with fail
    refine (H2.out _).mono ?_
    rintro e w2 ⟨A2, k2, rfl, _, hsg, hb⟩
    have HB2 : Hid (Below w.heap.size w w2) := HB1.out.trans (hb.mono HB1.out.size)
    have HP2 := Lib.hid (HP1.out.on hb)
    have HR2 := Lib.hid hsg
    clear hsg hb
    go_wp2_with fail
    refine (H3.out _).mono ?_
    rintro e w3 ⟨A3, k3, rfl, _, hsg, hb⟩
    have HB3 : Hid (Below w.heap.size w w3) := HB2.out.trans (hb.mono HB2.out.size)
    have HP3 := Lib.hid (HP2.out.on hb)
    have HR3 := Lib.hid hsg
    have HR4 := Lib.hid (HR2.out.on hb)
    clear hsg hb
    go_wp2_with fail
    refine (eq_same L A2 A3 k2 k3 _ HR4.out HR3.out hL).mono ?_
    rintro e w' ⟨rfl, n7, rfl⟩
    have HB7 : Hid (Below w.heap.size w (w3.drewN n7)) := below_drewN HB3.out n7
    have HP7 : Hid (Seg (w3.drewN n7) (w3.drewN n7).heap.size A (p.map (.int .i64))) := HP3.out
    generalize w3.drewN n7 = w7 at *
    go_wp2_with fail
    refine (H4.out _ HP7.out).mono ?_
    rintro e w' ⟨rfl, rfl⟩
    go_wp2_with fail
    refine (H6.out _ HP7.out).mono ?_
    rintro e w8 ⟨rfl, hb⟩
    have HB8 : Hid (Below w.heap.size w w8) := HB7.out.trans (hb.mono HB7.out.size)
    clear hb
    go_wp2_with fail
    go_ret
    exact ⟨rfl, HB8.out⟩
theorem wf_bd {n : Int} (h : (Lit.int .i64 n).wf = true) : -9223372036854775808 ≤ n ∧ n ≤ 9223372036854775807 := by
  simp [Lit.wf, IntKind.min, IntKind.max, IntKind.bits, IntKind.signed] at h; omega
theorem PermRanks_walk (A0 : Option Addr) (z0 : List Int) (c0 : Nat) (a1 a2 : Int) (w : World)
    (hc0 : z0.length ≤ c0) (hm0 : c0 ≤ maxLen) (_hw0 : ∀ n, n ∈ z0 → (Lit.int .i64 n).wf = true) (s0 : Seg w w.heap.size A0 (z0.map (.int .i64))) (_w1 : (Lit.int .i64 a1).wf = true) (w2 : (Lit.int .i64 a2).wf = true) :
    Calls Try.prog 5 #[.slice A0 z0.length c0, .int .i64 a1, .int .i64 a2] w fun e w' => e = .returned (.bool true) ∧ Below w.heap.size w w' := by
  unfold maxLen at hm0
  have m0 : z0.length ≤ 9223372036854775807 := by omega
  have hr : a2 ≤ 9223372036854775807 := (wf_bd w2).2
  refine ranks_law z0 (atL a1 a2) a1 a2 (atE a1 a2) A0 c0 (permB z0) w s0 (by have := atL_len a1 a2; omega) (fun u h => rank_any z0 A0 c0 u h m0 hc0) (fun u => at_any a1 a2 u hr) (fun u => dat_any a1 a2 u hr) (fun u h => dright_any z0 A0 c0 u h m0) (fun hp u h => ?_)
  exact drank_any z0.length z0 A0 c0 u rfl (permB_len hp) hc0 h
end Go.Proofs.Ytmcbkjepjijfjaa
