/- TapeDraws: the fair bits, and the law's function, walked. No condition. -/
import Derived.Test.YtmcbkjepjijfjaaTapE
import Derived.Test.YtmcbkjepjijfjaaEqints
namespace Go.Proofs.Ytmcbkjepjijfjaa
open Go.ChangeShapes Go.WideShapes Go.ChangeAt Go.RowKit
set_option linter.unusedVariables false

abbrev F3 (r : Bool × Int × Int) : Ending := .returned (.tuple #[.bool r.1, .int .i64 r.2.1, .int .i64 r.2.2])
set_option maxRecDepth 20000 in
set_option maxHeartbeats 4000000 in
theorem fair_any (t : List Bool) (A : Option Addr) (c B : Nat) (w : World) (hs : Seg w B A (t.map .bool)) (hm : (t.length : Int) ≤ 9223372036854775000) (r : Bool × Int × Int) (hr : Hid (pfair t (t.length + 1) 0 = r)) :
    Calls Try.prog 35 #[.slice A t.length c] w fun e w' => e = F3 r ∧ ∃ n, w' = w.drewN n := by
  have HS := Lib.hid hs
  clear hs
  go_enter Try.func35, Try.ntmps35
  go_wp2_with fail
  go_loopw [5] (fun s5 wr => ∃ q f : Nat, s5 = .int .i64 (2 * q : Nat) ∧ 2 * q ≤ t.length + 1 ∧ f + q = t.length + 1 ∧ Hid (pfair t f q = r) ∧ ∃ n, wr = w.drewN n) (fun s5 _ => t.length + 2 - (intOf s5).toNat)
  case atStart => exact ⟨0, t.length + 1, rfl, by omega, rfl, hr, 0, rfl⟩
  case round =>
    obtain ⟨q, f, rfl, hqb, hf, hp, n, rfl⟩ := hrel
    by_cases hlt : 2 * q + 1 < t.length
    · obtain ⟨g, rfl⟩ : ∃ g, f = g + 1 := ⟨f - 1, by omega⟩
      have hb1 : t.getD (2 * q) false = t[2 * q] := by simp [show 2 * q < t.length by omega]
      have hb2 : t.getD (2 * q + 1) false = t[2 * q + 1] := by simp [hlt]
      have HHIT : Hid (¬ t[2 * q] = t[2 * q + 1] → r = (t[2 * q], ((2 * q + 2 : Nat) : Int), 0)) := fun h => by
        rw [← hp.out, pfair_hit (by omega) hlt (by rw [hb1, hb2]; exact h), hb1]
      have HNEXT : Hid (t[2 * q] = t[2 * q + 1] → pfair t g (q + 1) = r) := fun h => by
        rw [← hp.out, pfair_next hlt (by rw [hb1, hb2]; exact h)]
      have HP2 : Hid (2 * (q + 1) = 2 * q + 2) := rfl
      obtain ⟨ad, rfl, _, hc1⟩ := HS.out.bool (show 2 * q < t.length by omega)
      obtain ⟨ad2, e2, _, hc2⟩ := HS.out.bool hlt
      obtain rfl : ad = ad2 := by injection e2
      clear hb1 hb2 hp e2
      have i9 : 2 * q < t.length := by omega
      obtain ⟨x, hx⟩ : ∃ x, x = t[2 * q] := ⟨_, rfl⟩
      obtain ⟨y, hy⟩ : ∃ y, y = t[2 * q + 1] := ⟨_, rfl⟩
      rw [← hx, ← hy] at HHIT HNEXT
      rw [← hx] at hc1
      rw [← hy] at hc2
      clear hx hy
      have hPL : 2 * q + 1 < t.length := hlt
      clear hlt i9
      generalize hP : 2 * q = P at *
      generalize hP1 : P + 1 = P1 at *
      have i1 : (P : Int) + 1 = (P1 : Int) := by omega
      have i2 : (P1 : Int) < (t.length : Int) := by omega
      have i3 : (P : Int) < (t.length : Int) := by omega
      have HPP : Hid (P = 2 * q) := hP.symm
      have HPM : Hid (P + 1 = P1) := hP1
      clear hP hP1
      cases x with
      | true =>
        cases y with
        | true =>
          have HR := Lib.hid (HNEXT.out rfl)
          go_wp2_with fail
          go_quiet (fail)
          go_wp2_with fail
          go_roundw
          case rel => exact ⟨q + 1, g, by rw [HP2.out]; go_num, by rw [HP2.out]; omega, by omega, HR, _, rfl⟩
          case measure => simp [intOf]; omega
        | false =>
          have HR := Lib.hid (HHIT.out (by decide))
          go_wp2_with fail
          go_quiet (fail)
          go_wp2_with fail
          refine bodyPost_ret (v := .tuple #[.bool true, .int .i64 (P + 2 : Nat), .int .i64 0]) (by simp [results, Try.results35, go_sem]) rfl ⟨by rw [HR.out], _, rfl⟩
      | false =>
        cases y with
        | true =>
          have HR := Lib.hid (HHIT.out (by decide))
          go_wp2_with fail
          go_quiet (fail)
          go_wp2_with fail
          refine bodyPost_ret (v := .tuple #[.bool false, .int .i64 (P + 2 : Nat), .int .i64 0]) (by simp [results, Try.results35, go_sem]) rfl ⟨by rw [HR.out], _, rfl⟩
        | false =>
          have HR := Lib.hid (HNEXT.out rfl)
          go_wp2_with fail
          go_quiet (fail)
          go_wp2_with fail
          go_roundw
          case rel => exact ⟨q + 1, g, by rw [HP2.out]; go_num, by rw [HP2.out]; omega, by omega, HR, _, rfl⟩
          case measure => simp [intOf]; omega
    · have HE : Hid (r = (false, 0, 7)) := by unfold Hid; rw [← hp.out]; exact pfair_end hlt
      have i1 : ¬ ((2 * q : Nat) : Int) + 1 < (t.length : Int) := by omega
      generalize 2 * q = P at *
      go_wp2_with fail
      refine bodyPost_ret (v := .tuple #[.bool false, .int .i64 0, .int .i64 7]) (by simp [results, Try.results35, go_sem]) rfl ⟨by rw [HE.out], n, rfl⟩
set_option maxRecDepth 20000 in
set_option maxHeartbeats 4000000 in
theorem bfair_any (t : List Bool) (A : Option Addr) (c B : Nat) (w : World) (hs : Seg w B A (t.map .bool)) (hm : (t.length : Int) ≤ 9223372036854775000) (r : Bool × Int × Int) (hr : Hid (pfair t (t.length + 1) 0 = r)) :
    Calls Try.prog 36 #[.slice A t.length c] w fun e w' => e = F3 r ∧ ∃ n, w' = w.drewN n := by
  have HS := Lib.hid hs
  clear hs
  go_enter Try.func36, Try.ntmps36
  go_wp2_with fail
  go_loopw [5] (fun s5 wr => ∃ q f : Nat, s5 = .int .i64 (2 * q : Nat) ∧ 2 * q ≤ t.length + 1 ∧ f + q = t.length + 1 ∧ Hid (pfair t f q = r) ∧ ∃ n, wr = w.drewN n) (fun s5 _ => t.length + 2 - (intOf s5).toNat)
  case atStart => exact ⟨0, t.length + 1, rfl, by omega, rfl, hr, 0, rfl⟩
  case round =>
    obtain ⟨q, f, rfl, hqb, hf, hp, n, rfl⟩ := hrel
    by_cases hlt : 2 * q + 1 < t.length
    · obtain ⟨g, rfl⟩ : ∃ g, f = g + 1 := ⟨f - 1, by omega⟩
      have hb1 : t.getD (2 * q) false = t[2 * q] := by simp [show 2 * q < t.length by omega]
      have hb2 : t.getD (2 * q + 1) false = t[2 * q + 1] := by simp [hlt]
      have HHIT : Hid (¬ t[2 * q] = t[2 * q + 1] → r = (t[2 * q], ((2 * q + 2 : Nat) : Int), 0)) := fun h => by
        rw [← hp.out, pfair_hit (by omega) hlt (by rw [hb1, hb2]; exact h), hb1]
      have HNEXT : Hid (t[2 * q] = t[2 * q + 1] → pfair t g (q + 1) = r) := fun h => by
        rw [← hp.out, pfair_next hlt (by rw [hb1, hb2]; exact h)]
      have HP2 : Hid (2 * (q + 1) = 2 * q + 2) := rfl
      obtain ⟨ad, rfl, _, hc1⟩ := HS.out.bool (show 2 * q < t.length by omega)
      obtain ⟨ad2, e2, _, hc2⟩ := HS.out.bool hlt
      obtain rfl : ad = ad2 := by injection e2
      clear hb1 hb2 hp e2
      have i9 : 2 * q < t.length := by omega
      obtain ⟨x, hx⟩ : ∃ x, x = t[2 * q] := ⟨_, rfl⟩
      obtain ⟨y, hy⟩ : ∃ y, y = t[2 * q + 1] := ⟨_, rfl⟩
      rw [← hx, ← hy] at HHIT HNEXT
      rw [← hx] at hc1
      rw [← hy] at hc2
      clear hx hy
      have hPL : 2 * q + 1 < t.length := hlt
      clear hlt i9
      generalize hP : 2 * q = P at *
      generalize hP1 : P + 1 = P1 at *
      have i1 : (P : Int) + 1 = (P1 : Int) := by omega
      have i2 : (P1 : Int) < (t.length : Int) := by omega
      have i3 : (P : Int) < (t.length : Int) := by omega
      have i4 : (P : Int) + 2 ≤ (t.length : Int) := by omega
      have HPP : Hid (P = 2 * q) := hP.symm
      have HPM : Hid (P + 1 = P1) := hP1
      clear hP hP1
      cases x with
      | true =>
        cases y with
        | true =>
          have HR := Lib.hid (HNEXT.out rfl)
          go_wp2_with fail
          go_quiet (fail)
          go_wp2_with fail
          go_roundw
          case rel => exact ⟨q + 1, g, by rw [HP2.out]; go_num, by rw [HP2.out]; omega, by omega, HR, _, rfl⟩
          case measure => simp [intOf]; omega
        | false =>
          have HR := Lib.hid (HHIT.out (by decide))
          go_wp2_with fail
          go_quiet (fail)
          go_wp2_with fail
          refine bodyPost_ret (v := .tuple #[.bool true, .int .i64 (P + 2 : Nat), .int .i64 0]) (by simp [results, Try.results36, go_sem]) rfl ⟨by rw [HR.out], _, rfl⟩
      | false =>
        cases y with
        | true =>
          have HR := Lib.hid (HHIT.out (by decide))
          go_wp2_with fail
          go_quiet (fail)
          go_wp2_with fail
          refine bodyPost_ret (v := .tuple #[.bool false, .int .i64 (P + 2 : Nat), .int .i64 0]) (by simp [results, Try.results36, go_sem]) rfl ⟨by rw [HR.out], _, rfl⟩
        | false =>
          have HR := Lib.hid (HNEXT.out rfl)
          go_wp2_with fail
          go_quiet (fail)
          go_wp2_with fail
          go_roundw
          case rel => exact ⟨q + 1, g, by rw [HP2.out]; go_num, by rw [HP2.out]; omega, by omega, HR, _, rfl⟩
          case measure => simp [intOf]; omega
    · have HE : Hid (r = (false, 0, 7)) := by unfold Hid; rw [← hp.out]; exact pfair_end hlt
      have i1 : ¬ ((2 * q : Nat) : Int) + 2 ≤ (t.length : Int) := by omega
      generalize 2 * q = P at *
      go_wp2_with fail
      refine bodyPost_ret (v := .tuple #[.bool false, .int .i64 0, .int .i64 7]) (by simp [results, Try.results36, go_sem]) rfl ⟨by rw [HE.out], n, rfl⟩
set_option maxRecDepth 20000 in
set_option maxHeartbeats 4000000 in
theorem tape_law (t : List Bool) (n : Int) (l : List Int) (A C : Option Addr) (c d : Nat) (w : World) (hs : Seg w w.heap.size A (t.map .bool)) (hl : Seg w w.heap.size C (l.map (.int .i64)))
    (r : Int × Int × Int) (R : List Int × Int × Int) (q : Bool × Int × Int) (hlen : R.1.length ≤ 9223372036854775807)
    (h1 : ∀ w, Seg w w.heap.size A (t.map .bool) → Calls Try.prog 31 #[.slice A t.length c, .int .i64 n] w fun e w' => e = V3 r ∧ w = w')
    (h2 : ∀ w, Seg w w.heap.size A (t.map .bool) → Calls Try.prog 32 #[.slice A t.length c, .int .i64 n] w fun e w' => e = V3 r ∧ w = w')
    (h3 : ∀ w, Seg w w.heap.size A (t.map .bool) → Seg w w.heap.size C (l.map (.int .i64)) → Calls Try.prog 33 #[.slice A t.length c, .slice C l.length d] w fun e w' => ManyOut w w' e R)
    (h4 : ∀ w, Seg w w.heap.size A (t.map .bool) → Seg w w.heap.size C (l.map (.int .i64)) → Calls Try.prog 34 #[.slice A t.length c, .slice C l.length d] w fun e w' => ManyOut w w' e R)
    (h5 : ∀ w, Seg w w.heap.size A (t.map .bool) → Calls Try.prog 35 #[.slice A t.length c] w fun e w' => e = F3 q ∧ ∃ n, w' = w.drewN n)
    (h6 : ∀ w, Seg w w.heap.size A (t.map .bool) → Calls Try.prog 36 #[.slice A t.length c] w fun e w' => e = F3 q ∧ ∃ n, w' = w.drewN n) :
    Calls Try.prog 6 #[.slice A t.length c, .int .i64 n, .slice C l.length d] w fun e w' => e = .returned (.bool true) ∧ Below w.heap.size w w' := by
  have HT0 := Lib.hid hs
  have HL0 := Lib.hid hl
  have H1 := Lib.hid h1
  have H2 := Lib.hid h2
  have H3 := Lib.hid h3
  have H4 := Lib.hid h4
  have H5 := Lib.hid h5
  have H6 := Lib.hid h6
  clear hs hl h1 h2 h3 h4 h5 h6
  obtain ⟨x, u, e0⟩ := r
  obtain ⟨L, s, g⟩ := R
  obtain ⟨y, z, j⟩ := q
  go_enter Try.func6, Try.ntmps6
  go_wp2_with fail
  refine (H1.out _ HT0.out).mono ?_
  rintro e w' ⟨rfl, rfl⟩
  go_wp2_with fail
  refine (H2.out _ HT0.out).mono ?_
  rintro e w' ⟨rfl, rfl⟩
  go_wp2_with fail
  refine (H3.out _ HT0.out HL0.out).mono ?_
  rintro e w1 ⟨A1, c1, rfl, hsg1, hb1⟩
  have HT1 : Hid (Seg w1 w1.heap.size A (t.map .bool)) := (HT0.out.below hb1).more hb1.size
  have HL1 : Hid (Seg w1 w1.heap.size C (l.map (.int .i64))) := (HL0.out.below hb1).more hb1.size
  have HG1 := Lib.hid hsg1
  have HB1 := Lib.hid hb1
  clear hsg1 hb1
  go_wp2_with fail
  refine (H4.out _ HT1.out HL1.out).mono ?_
  rintro e w2 ⟨A2, c2, rfl, hsg2, hb2⟩
  have HT2 : Hid (Seg w2 w2.heap.size A (t.map .bool)) := (HT1.out.below hb2).more hb2.size
  have HL2 : Hid (Seg w2 w2.heap.size C (l.map (.int .i64))) := (HL1.out.below hb2).more hb2.size
  have HG2 := Lib.hid hsg2
  have HB2 := Lib.hid hb2
  clear hsg2 hb2
  go_wp2_with fail
  refine (H5.out _ HT2.out).mono ?_
  rintro e w' ⟨rfl, n5, rfl⟩
  go_wp2_with fail
  refine (H6.out _ (HT2.out.drewN n5)).mono ?_
  rintro e w' ⟨rfl, n6, rfl⟩
  have HEQ : Hid (Calls Try.prog 19 #[.slice A1 L.length c1, .slice A2 L.length c2] (w2.drewN (n5 + n6)) fun e w' => e = .returned (.bool true) ∧ ∃ n, w' = (w2.drewN (n5 + n6)).drewN n) := by
    have h := eq_ints L L A1 A2 c1 c2 w2.heap.size (w2.drewN (n5 + n6)) (((HG1.out.below HB2.out).more HB2.out.size).drewN _) (HG2.out.drewN _) hlen
    rwa [decide_eq_true rfl] at h
  go_wp2_with fail
  refine HEQ.out.mono ?_
  rintro e w' ⟨rfl, n7, rfl⟩
  go_wp2_with fail
  go_ret
  exact ⟨rfl, below_drewN ((HB1.out.trans (HB2.out.mono HB1.out.size))) _⟩
theorem pmany_len (t : List Bool) (l : List Int) : ∀ (u : Nat) (out : List Int), (pmany t l u out).1.length ≤ out.length + l.length := by
  induction l with
  | nil => intro u out; exact Nat.le_refl _
  | cons m l ih =>
    intro u out
    unfold pmany
    split
    · simp
    · have := ih (u + (pbelow (t.drop u) m).2.1.toNat) (out ++ [(pbelow (t.drop u) m).1])
      simp at this ⊢
      omega
theorem TapeDraws_walk (A0 : Option Addr) (z0 : List Bool) (c0 : Nat) (a1 : Int) (A2 : Option Addr) (z2 : List Int) (c2 : Nat) (w : World) (hc0 : z0.length ≤ c0) (hm0 : c0 ≤ maxLen) (s0 : Seg w w.heap.size A0 (z0.map .bool)) (R0 : c0 * 1 ≤ 140737488351232) (_w1 : (Lit.int .i64 a1).wf = true) (hc2 : z2.length ≤ c2) (hm2 : c2 ≤ maxLen) (_hw2 : ∀ n, n ∈ z2 → (Lit.int .i64 n).wf = true) (s2 : Seg w w.heap.size A2 (z2.map (.int .i64))) (R2 : c2 * 8 ≤ 140737488351232) :
    Calls Try.prog 6 #[.slice A0 z0.length c0, .int .i64 a1, .slice A2 z2.length c2] w fun e w' => e = .returned (.bool true) ∧ Below w.heap.size w w' := by
  have ht : (z0.length : Int) ≤ 9223372036854775000 := by omega
  have hl : z2.length < 17592186044416 := by omega
  refine tape_law z0 a1 z2 A0 A2 c0 c2 w s0 s2 (pbelow z0 a1) (pmany z0 z2 0 []) (pfair z0 (z0.length + 1) 0) ?_ (fun u h => below_any z0 A0 c0 _ a1 u h hc0 ht) (fun u h => bbelow_any z0 A0 c0 _ a1 u h ht)
    (fun u h1 h2 => many_any z0 z2 A0 A2 c0 c2 u h1 h2 hc0 ht hl _ rfl) (fun u h1 h2 => bmany_any z0 z2 A0 A2 c0 c2 u h1 h2 hc0 ht hl _ rfl) (fun u h => fair_any z0 A0 c0 _ u h ht _ rfl) (fun u h => bfair_any z0 A0 c0 _ u h ht _ rfl)
  have h := pmany_len z0 z2 0 []
  simp at h
  omega
end Go.Proofs.Ytmcbkjepjijfjaa
