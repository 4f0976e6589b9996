/- Package gray: the law GrayRows, walked. No condition but the slice's own size, and that the table of bits lies in its variable. -/
import Derived.Test.YtmibifmabkaakaaDoorGraY
namespace Go.Proofs.YtmibifmabkaakaaDoor
open Go.ChangeShapes Go.WideShapes Go.ChangeAt Go.RowKit
set_option linter.unusedVariables false

theorem bruijn_any (m : Int) (w : World) : Calls Tryd.prog 43 #[.int .i64 m] w fun e w' => BOut w w' e (bruijnL m).1 (bruijnL m).2 := by
  by_cases h : m < 0 ∨ 10 < m
  · have e : bruijnL m = ([], 2) := if_pos h
    rw [e]; exact bruijn_bad m w h
  · by_cases h0 : m = 0
    · subst h0
      exact bruijn_zero w
    · have e : bruijnL m = (xrow m.toNat (2 ^ m.toNat), 0) := by unfold bruijnL; rw [if_neg h, if_neg h0]
      rw [e]
      obtain ⟨n, rfl⟩ : ∃ n : Nat, m = n := ⟨m.toNat, by omega⟩
      exact bruijn_ok n w (by omega) (by omega)
theorem xbru_any (m : Int) (w : World) (h : 0 ≤ m ∧ m ≤ 10) : Calls Tryd.prog 49 #[.int .i64 m] w fun e w' => ∃ A c, e = .returned (.slice A (bruijnL m).1.length c) ∧ (bruijnL m).1.length ≤ c ∧ Seg w' w'.heap.size A ((bruijnL m).1.map .bool) ∧ Below w.heap.size w w' := by
  by_cases h0 : m = 0
  · subst h0
    exact xbru_zero w
  · have e : bruijnL m = (xrow m.toNat (2 ^ m.toNat), 0) := by unfold bruijnL; rw [if_neg (by omega), if_neg h0]
    rw [e]
    obtain ⟨n, rfl⟩ : ∃ n : Nat, m = n := ⟨m.toNat, by omega⟩
    exact xbru_ok n w (by omega) (by omega)
theorem least_any (A : Option Addr) (l : List Bool) (c B : Nat) (w : World) (hs : Seg w B A (l.map .bool)) :
    Calls Tryd.prog 44 #[.slice A l.length c] w fun e w' => e = .returned (.tuple #[.int .i64 (leastL l).1, .int .i64 (leastL l).2]) ∧ ∃ m, w' = w.drewN m := by
  by_cases h : l.length < 1 ∨ 400 < l.length
  · have e : leastL l = (0, 2) := if_pos h
    rw [e]
    exact (least_bad A l c w h).mono fun e w' h => ⟨h.1, 0, h.2⟩
  · have e : leastL l = (((lbest l l.length : Nat) : Int), 0) := if_neg h
    rw [e]
    exact least_ok A l c B w hs (by omega) (by omega)
theorem bru_len (m : Int) (h : 0 ≤ m ∧ m ≤ 10) : (bruijnL m).1.length ≤ 10240 ∧ (bruijnL m).2 = 0 := by
  by_cases h0 : m = 0
  · subst h0; exact ⟨by decide, rfl⟩
  · have e : bruijnL m = (xrow m.toNat (2 ^ m.toNat), 0) := by unfold bruijnL; rw [if_neg (by omega), if_neg h0]
    rw [e]
    refine ⟨?_, rfl⟩
    have h1 := xrow_len m.toNat (2 ^ m.toNat)
    have h2 : 2 ^ m.toNat ≤ 2 ^ 10 := Nat.pow_le_pow_right (by decide) (by omega)
    have h3 : 2 ^ m.toNat * m.toNat ≤ 2 ^ 10 * 10 := Nat.mul_le_mul h2 (by omega)
    exact Nat.le_trans h1 h3
set_option maxRecDepth 20000 in
set_option maxHeartbeats 16000000 in
theorem GrayRows_walk (n : BitVec 64) (m : Int) (A : Option Addr) (l : List Bool) (c : Nat) (w : World) (hT : BitTab w) (hc : l.length ≤ c) (hm : c ≤ maxLen) (hs : Seg w w.heap.size A (l.map .bool)) :
    Calls Tryd.prog 10 #[W64 n, .int .i64 m, .slice A l.length c] w fun e w' => e = .returned (.bool true) ∧ Below w.heap.size w w' := by
  have HFL := Lib.hid (flip_any n w hT)
  have HBR := Lib.hid (fun u => bruijn_any m u)
  have HLE := Lib.hid (fun (u : World) (h : Below w.heap.size w u) => least_any A l c w.heap.size u (hs.below h))
  have HCO := Lib.hid (fun u => code_any n u)
  have HXC := Lib.hid (fun u => xcode_any n u)
  have HPL := Lib.hid (fun u => place_any n u)
  have HXP := Lib.hid (fun u => xcode_any (gpl n 6) u)
  rw [code_place] at HXP
  have HX1 := Lib.hid (fun u => xcode_any (n + 1#64) u)
  have HFC := Lib.hid (flip_code n)
  have HS := Lib.hid hs
  have hmx : maxLen = 9223372036854775807 := rfl
  rw [hmx] at hm
  have HLC := Lib.hid (And.intro hc hm)
  obtain ⟨R, hR⟩ : ∃ R, R = (bruijnL m).1 := ⟨_, rfl⟩
  obtain ⟨g, hg⟩ : ∃ g, g = (bruijnL m).2 := ⟨_, rfl⟩
  have HBM : Hid ((m < 0 ∨ 10 < m) → R = [] ∧ g = 2) := fun h => by
    have e : bruijnL m = ([], 2) := if_pos h
    rw [hR, hg, e]; exact ⟨rfl, rfl⟩
  have HBN : Hid (¬ (m < 0 ∨ 10 < m) → g = 0 ∧ R.length ≤ 10240 ∧ ∀ u, Calls Tryd.prog 49 #[.int .i64 m] u fun e w' => ∃ A c, e = .returned (.slice A R.length c) ∧ R.length ≤ c ∧ Seg w' w'.heap.size A (R.map .bool) ∧ Below u.heap.size u w') := fun h => by
    have h2 : 0 ≤ m ∧ m ≤ 10 := by omega
    have h3 := bru_len m h2
    rw [hR, hg]
    exact ⟨h3.2, h3.1, fun u => xbru_any m u h2⟩
  rw [← hR, ← hg] at HBR
  obtain ⟨le, hle⟩ : ∃ le, le = (leastL l).1 := ⟨_, rfl⟩
  obtain ⟨lh, hlh⟩ : ∃ lh, lh = (leastL l).2 := ⟨_, rfl⟩
  have HLB : Hid ((l.length < 1 ∨ 400 < l.length) → le = 0 ∧ lh = 2) := fun h => by
    have e : leastL l = (0, 2) := if_pos h
    rw [hle, hlh, e]; exact ⟨rfl, rfl⟩
  have HLO : Hid (¬ (l.length < 1 ∨ 400 < l.length) → le = ((lbest l l.length : Nat) : Int) ∧ lh = 0) := fun h => by
    have e : leastL l = (((lbest l l.length : Nat) : Int), 0) := if_neg h
    rw [hle, hlh, e]; exact ⟨rfl, rfl⟩
  rw [← hle, ← hlh] at HLE
  obtain ⟨f, hf⟩ : ∃ f : Nat, f = if n = 18446744073709551615#64 then 0 else Lib.ctz 64 (n + 1#64).toNat := ⟨_, rfl⟩
  have HFF := Lib.hid hf
  have hfe : (if n = 18446744073709551615#64 then (0 : Int) else ((Lib.ctz 64 (n + 1#64).toNat : Nat) : Int)) = (f : Int) := by rw [hf]; split <;> rfl
  obtain ⟨fe, hfe2⟩ : ∃ fe : Int, fe = if n = 18446744073709551615#64 then 3 else 0 := ⟨_, rfl⟩
  have HFE := Lib.hid hfe2
  rw [hfe, ← hfe2] at HFL
  clear hT hs hc hm hmx hR hg hle hlh hf hfe hfe2
  go_enter Tryd.func10, Tryd.ntmps10
  go_wp2_with fail
  refine HFL.out.mono ?_
  rintro e w1 ⟨rfl, rfl⟩
  go_wp2_with fail
  refine (HBR.out _).mono ?_
  rintro e w2 ⟨A2, c2, rfl, hc2, hs2, hb2⟩
  have HB2 := Lib.hid hb2
  have HS2 := Lib.hid hs2
  clear hc2 hs2 hb2
  go_wp2_with fail
  refine (HLE.out w2 HB2.out).mono ?_
  rintro e w3 ⟨rfl, m3, hw3⟩
  have hD3 : Below w2.heap.size w2 w3 := by rw [hw3]; exact below_drewN (Below.refl _ _) m3
  have HB3 : Hid (Below w1.heap.size w1 w3) := HB2.out.trans (hD3.mono HB2.out.size)
  have HS3 := Lib.hid (gseg_on HS2.out hD3)
  clear hw3 hD3 HB2 HS2
  go_wp2_with fail
  refine (HCO.out w3).mono ?_
  rintro e w4 ⟨rfl, rfl⟩
  go_wp2_with fail
  refine (HXC.out w4).mono ?_
  rintro e w5 ⟨rfl, rfl⟩
  have bxx : (wv (gcode n) != wv (gcode n)) = false := by simp
  go_wp2_with fail
  refine (HPL.out w5).mono ?_
  rintro e w6 ⟨rfl, rfl⟩
  go_wp2_with fail
  refine (HXP.out w6).mono ?_
  rintro e w7 ⟨rfl, rfl⟩
  have bnn : (wv n != wv n) = false := by simp
  obtain ⟨t1, ht1⟩ : ∃ t1 : Bool, t1 = (wv n == 18446744073709551615) := ⟨_, rfl⟩
  have ht1' := ht1.symm
  have HT1 := Lib.hid ht1
  clear ht1
  go_upto_if 43 with (fail)
  go_cut [7] (fun s7 wx => s7 = .int .i64 (f : Nat) ∧ Hid (Below w7.heap.size w7 wx))
  case first =>
    by_cases hn : n = 18446744073709551615#64
    · have e1 : Hid (t1 = true) := by unfold Hid; rw [HT1.out, hn]; rfl
      have e2 : Hid (f = 0) := by unfold Hid; rw [HFF.out, if_pos hn]
      have e3 : Hid (fe = 3) := by unfold Hid; rw [HFE.out, if_pos hn]
      have k1 := e1.out
      have k2 := e2.out
      have k3 := e3.out
      subst k1
      subst k2
      subst k3
      clear hn ht1'
      go_wp2_with fail
      --LOOK2
      go_meet
      case rel => exact ⟨rfl, Below.refl _ _⟩
    · have e1 : Hid (t1 = false) := by unfold Hid; rw [HT1.out, beq_eq_false_iff_ne]; exact fun h2 => hn (wv_inj (y := 18446744073709551615#64) h2)
      have e3 : Hid (fe = 0) := by unfold Hid; rw [HFE.out, if_neg hn]
      obtain ⟨h1, h2⟩ := HFC.out hn
      have hff : f = Lib.ctz 64 (n + 1#64).toNat := by rw [HFF.out, if_neg hn]
      rw [← hff] at h1 h2
      have k1 := e1.out
      have k3 := e3.out
      subst k1
      subst k3
      have j1 : ¬ (f : Int) < 0 := by omega
      have j1b : decide ((f : Int) < 0) = false := decide_eq_false j1
      have j2 : ¬ (63 : Int) < (f : Int) := by omega
      have j2b : decide ((63 : Int) < (f : Int)) = false := decide_eq_false j2
      have j3 : (f : Int) < 64 := by omega
      have j4 : f < 64 := h1
      have ha : IntKind.u64.wrap (wv n + 1) = wv (n + 1#64) := wv_add_lit n 1#64 rfl
      have l1 : IntKind.u64.wrap (2 ^ f) = wv (1#64 <<< f) := by
        have := wv_wrap (2 ^ f)
        rw [this, gpow_cast]
        unfold wv
        rw [BitVec.toNat_shiftLeft, Nat.shiftLeft_eq, show (1#64).toNat = 1 from rfl, Nat.one_mul]
        omega
      obtain ⟨a, haa⟩ : ∃ a, a = gcode n := ⟨_, rfl⟩
      obtain ⟨b, hbb⟩ : ∃ b, b = gcode (n + 1#64) := ⟨_, rfl⟩
      obtain ⟨n1, hn1⟩ : ∃ n1, n1 = n + 1#64 := ⟨_, rfl⟩
      obtain ⟨y, hy⟩ : ∃ y : BitVec 64, y = 1#64 <<< f := ⟨_, rfl⟩
      rw [← haa, ← hbb, ← hy] at h2
      have hx : bits .xor .u64 (wv a) (wv b) = wv y := by rw [wv_xor, h2]
      have byy : (wv y != wv y) = false := by simp
      rw [← hn1] at ha
      rw [← hy] at l1
      have HXA : Hid (∀ u, Calls Tryd.prog 46 #[W64 n] u fun e w' => e = .returned (W64 a) ∧ w' = u) := fun u => by rw [haa]; exact HXC.out u
      have HXB : Hid (∀ u, Calls Tryd.prog 46 #[W64 n1] u fun e w' => e = .returned (W64 b) ∧ w' = u) := fun u => by rw [hbb, hn1]; exact HX1.out u
      clear hn ht1' haa hbb hn1 hy h1 h2 hff bxx bnn
      go_wp2_with fail
      --LOOK3
      refine wp_region_plan [(0, 0), (1, 0), (2, 0), (3, 0), (4, 0), (5, 0), (6, 0), (7, 0), (8, 0), (9, 0), (10, 0), (11, 0), (13, 0), (14, 0), (17, 0), (18, 0), (12, 2), (15, 2), (16, 0), (19, 0), (20, 0)] (fun _ => True) (by kernel_rfl) (by kernel_rfl) (fun _ d _ _ _ h => by cases d <;> exact h) trivial ?_
      iterate 16 ((refine plan0 (v := ?_) rfl rfl (by rfl) ?_ ?_); rotate_left; (intro w'; go_simp; with_reducible rfl); simp only [List.setIfInBounds_toArray, List.set_cons_zero, List.set_cons_succ])
      refine plan2w rfl (by rfl) fun K' hK' => ?_
      go_simp
      refine (HXA.out _).mono ?_
      rintro e w8 ⟨rfl, rfl⟩
      refine hK' _ _ trivial ?_
      clear hK' K'
      refine plan2w rfl (by rfl) fun K' hK' => ?_
      go_simp
      refine (HXB.out _).mono ?_
      rintro e w9 ⟨rfl, rfl⟩
      refine hK' _ _ trivial ?_
      clear hK' K'
      iterate 3 ((refine plan0 (v := ?_) rfl rfl (by rfl) ?_ ?_); rotate_left; (intro w'; go_simp; with_reducible rfl); simp only [List.setIfInBounds_toArray, List.set_cons_zero, List.set_cons_succ])
      refine planEnd ?_
      go_wp2_with fail
      go_meet
      case rel => exact ⟨rfl, below_drewN (Below.refl _ _) 1⟩
  case rest =>
    obtain ⟨rfl, hbc⟩ := hcut
    have HB8 : Hid (Below w1.heap.size w1 wc) := HB3.out.trans (hbc.out.mono HB3.out.size)
    have HS8 := Lib.hid (gseg_on HS3.out hbc.out)
    obtain ⟨wz, hwz⟩ : ∃ wz : World, wz = wc := ⟨_, rfl⟩
    rw [← hwz] at HB8 HS8 ⊢
    clear hbc hwz bxx bnn ht1'
    obtain ⟨bb, hbb⟩ : ∃ bb : Bool, bb = decide (m < 0 ∨ 10 < m) := ⟨_, rfl⟩
    have HBB := Lib.hid hbb
    clear hbb
    go_upto_region 11 with (fail)
    go_cut [76] (fun s76 wx => s76 = .bool bb ∧ wx = wz)
    case first =>
      rcases (by omega : m < 0 ∨ (¬ m < 0 ∧ 10 < m) ∨ (¬ m < 0 ∧ ¬ 10 < m)) with h1 | ⟨h1, h2⟩ | ⟨h1, h2⟩
      · have e : Hid (bb = true) := by unfold Hid; rw [HBB.out, decide_eq_true]; exact .inl h1
        go_wp2_with fail
        go_meet
        case rel => exact ⟨by rw [e.out], rfl⟩
      · have e : Hid (bb = true) := by unfold Hid; rw [HBB.out, decide_eq_true]; exact .inr h2
        go_wp2_with fail
        go_meet
        case rel => exact ⟨by rw [e.out], rfl⟩
      · have e : Hid (bb = false) := by unfold Hid; rw [HBB.out, decide_eq_false]; omega
        go_wp2_with fail
        go_meet
        case rel => exact ⟨by rw [e.out], rfl⟩
    case rest =>
      obtain ⟨rfl, rfl⟩ := hcut
      obtain ⟨wy, hwy⟩ : ∃ wy : World, wy = wc := ⟨_, rfl⟩
      rw [← hwy] at HB8 HS8 ⊢
      clear hwy
      go_upto_if 76 with (fail)
      go_cut [84] (fun s84 wx => Hid (Below wy.heap.size wy wx))
      case first =>
        cases hb2 : bb
        · have h1 : ¬ (m < 0 ∨ 10 < m) := of_decide_eq_false (HBB.out.symm.trans hb2)
          obtain ⟨h2, h3, h4⟩ := HBN.out h1
          have HXU := Lib.hid h4
          have HRL := Lib.hid h3
          subst hb2
          subst h2
          clear h1 h3 h4
          go_wp2_with fail
          refine (HXU.out _).mono ?_
          rintro e w9 ⟨A9, c9, rfl, hc9, hs9, hb9⟩
          have HS9 := Lib.hid hs9
          have HB9 := Lib.hid hb9
          have HS29 := Lib.hid (gseg_on HS8.out hb9)
          clear hc9 hs9 hb9
          go_wp2_with fail
          have HEQ := Lib.hid (eq_bools R R A2 A9 c2 c9 w9.heap.size w9 HS29.out HS9.out (by have := HRL.out; omega))
          rw [decide_eq_true rfl] at HEQ
          refine HEQ.out.mono ?_
          rintro e w10 ⟨rfl, m10, rfl⟩
          go_wp2_with fail
          go_meet
          case rel => exact below_drewN HB9.out m10
        · have h1 : m < 0 ∨ 10 < m := of_decide_eq_true (HBB.out.symm.trans hb2)
          obtain ⟨h2, h3⟩ := HBM.out h1
          subst hb2
          subst h2
          subst h3
          clear h1
          go_wp2_with fail
          go_meet
          case rel => exact Below.refl _ _
      case rest =>
        have HB9 : Hid (Below w1.heap.size w1 wc) := HB8.out.trans (Below.mono hcut.out HB8.out.size)
        obtain ⟨wx, hwx⟩ : ∃ wx : World, wx = wc := ⟨_, rfl⟩
        rw [← hwx] at HB9 ⊢
        clear hwx
        obtain ⟨L, hL⟩ : ∃ L, L = l.length := ⟨_, rfl⟩
        have HLL := Lib.hid hL
        rw [← hL] at HLB HLO ⊢
        clear hL
        rcases (by omega : L = 0 ∨ (¬ L = 0 ∧ 400 < L) ∨ (1 ≤ L ∧ L ≤ 400)) with h1 | ⟨h1, h2⟩ | ⟨h1, h2⟩
        · obtain ⟨rfl, rfl⟩ := HLB.out (by omega)
          subst h1
          go_wp2_with fail
          go_ret
          exact ⟨rfl, HB9.out⟩
        · obtain ⟨rfl, rfl⟩ := HLB.out (by omega)
          have i1 : (400 : Int) < (L : Int) := by omega
          have i2 : ((L : Int) == 0) = false := by rw [beq_eq_false_iff_ne]; omega
          have i3 : ¬ (L : Int) = 0 := by omega
          go_wp2_with fail
          go_ret
          exact ⟨rfl, HB9.out⟩
        · obtain ⟨rfl, rfl⟩ := HLO.out (by omega)
          have i1 : ¬ (400 : Int) < (L : Int) := by omega
          have i2 : ((L : Int) == 0) = false := by rw [beq_eq_false_iff_ne]; omega
          have i3 : ¬ (L : Int) = 0 := by omega
          have i4 : ¬ L = 0 := by omega
          have HLN := Lib.hid (And.intro h1 h2)
          clear h1 h2
          go_wp2_with fail
          clear i1 i2 i3 i4
          go_loopw [13, 109] (fun s13 s109 wx => ∃ k : Nat, k ≤ L ∧ s109 = .int .i64 k ∧ s13 = .int .i64 (lbest l k : Nat) ∧ Hid (Below w1.heap.size w1 wx)) (fun _ s109 _ => L - (intOf s109).toNat)
          case atStart => exact ⟨0, Nat.zero_le _, rfl, rfl, HB9.out⟩
          case round =>
            clear HB9
            obtain ⟨k, hk, rfl, rfl, hb⟩ := hrel
            by_cases hkl : k < L
            · have i1 : (k : Int) < (L : Int) := by omega
              have uk : Hid (wrap64 ((k : Int) + 1) = ((k + 1 : Nat) : Int)) := gw64 (by have := HLN.out; omega)
              have HST : Hid (lbest l (k + 1) = if lless l (lbest l k) k then k else lbest l k) := rfl
              have hbl := lbest_in (w := l) (k := k) (by have := HLL.out; omega)
              have HK := Lib.hid (And.intro hk hkl)
              obtain ⟨b, hbb⟩ : ∃ b, b = lbest l k := ⟨_, rfl⟩
              rw [← hbb] at hbl HST ⊢
              have hbL : b < L := by have := HLL.out; omega
              have hcl := HLC.out.1
              have hc63 := HLC.out.2
              have hkl2 : k ≤ l.length := by have := HLL.out; omega
              have hbl2 : b ≤ l.length := by have := HLL.out; omega
              obtain ⟨X1, hx1, sx1⟩ := bslice_from A (ys := l) (x := k) (c := c) (k : Int) rfl hkl2 hcl
              obtain ⟨Y1, hy1, sy1⟩ := bslice_from A (ys := l) (x := b) (c := c) (b : Int) rfl hbl2 hcl
              rw [← HLL.out] at hx1 hy1
              have hx2 := fun u => bslice_to (A := A) (n := L) (x := k) (c := c) (k : Int) rfl (by omega) u
              have hy2 := fun u => bslice_to (A := A) (n := L) (x := b) (c := c) (b : Int) rfl (by omega) u
              have HC1 := Lib.hid (fun u b0 => conc_rot (c := c) HLL.out.symm hkl HLN.out.2 sx1 HS.out u b0)
              have HC2 := Lib.hid (fun u b0 => conc_rot (c := c) HLL.out.symm hbL HLN.out.2 sy1 HS.out u b0)
              have HXL : Hid (∀ (u : World) (A5 A6 : Option Addr) (c5 c6 : Nat), Seg u u.heap.size A5 ((rotL l k).map .bool) → Seg u u.heap.size A6 ((rotL l b).map .bool) → Calls Tryd.prog 50 #[.slice A5 L c5, .slice A6 L c6] u fun e w' => e = .returned (.bool (lless l b k)) ∧ ∃ m, w' = u.drewN m) := fun u A5 A6 c5 c6 s5 s6 => by
                have e1 := rotL_len hkl2
                have e2 := rotL_len hbl2
                have h := xless_any A5 A6 (rotL l k) (rotL l b) c5 c6 _ _ u s5 s6 (by rw [e1, e2]) (by rw [e1]; have := HLL.out; have := HLN.out; omega)
                rw [e1, e2, lless_rot (by have := HLL.out; omega) (by have := HLL.out; omega), ← HLL.out] at h
                exact h
              obtain ⟨t, ht⟩ : ∃ t, t = lless l b k := ⟨_, rfl⟩
              rw [← ht] at HXL HST
              have HD : Hid (Below w1.heap.size w1 wr.drew) := below_drewN hb.out 1
              clear ht hbb hbl hbL hcl hc63 hkl2 hbl2 sx1 sy1 hk hkl
              cases t
              all_goals
                go_upto_region 22 with (fail)
                go_region_held3 (fun _ => True)
                  (trivial)
                  (first
                    | (have HX0 := HX; go_at_call 51; go_split_ands; refine (HC2.out _ _ (by first | exact ((blk_second _ _ _ _).drew).on HU5.out | exact (((Blk.new _ _ _).alloc _).drew).on HU5.out | exact (blk_second _ _ _ _).on HU5.out | exact ((Blk.new _ _ _).alloc _).on HU5.out | exact (Blk.new _ _ _) | exact (Blk.new _ _ _).drew) (by first | exact HX.out | exact gb_alloc HX.out _)).mono ?_; rintro e u2 ⟨A6, c6, rfl, hs6, hb6⟩; have HS6 := Lib.hid hs6; have HX2 := Lib.hid (gb_go (by first | exact HX.out | exact gb_alloc HX.out _) hb6); have HS56 := Lib.hid (gseg_on (by first | exact HS5.out | exact (HS5.out.alloc (Nat.le_refl _) _).more (by simp)) hb6); clear hs6 hb6)
                    | (go_at_call 51; go_split_ands; refine (HC1.out _ _ (by first | exact ((Blk.new _ _ _).alloc _).drew | exact (blk_second _ _ _ _).drew | exact (Blk.new _ _ _).drew | exact (Blk.new _ _ _).alloc _ | exact blk_second _ _ _ _ | exact (Blk.new _ _ _)) (by first | exact gb_alloc HD.out _ | exact gb_alloc (gb_alloc HD.out _) _)).mono ?_; rintro e u1 ⟨A5, c5, rfl, hs5, hb5⟩; have HS5 := Lib.hid hs5; have HX := Lib.hid (gb_go (by first | exact gb_alloc HD.out _ | exact gb_alloc (gb_alloc HD.out _) _) hb5); have HU5 := Lib.hid hb5; clear hs5 hb5)
                    | (go_at_call 50; go_split_ands; refine (HXL.out _ A5 A6 c5 c6 HS56.out HS6.out).mono ?_; rintro e u3 ⟨rfl, m3, rfl⟩; have HX3 := Lib.hid (below_drewN HX2.out m3)))
              --LOOK6
              all_goals
                clear hx1 hy1 hx2 hy2 i1
                go_wp2_with fail
                go_roundw
                case rel => exact ⟨k + 1, by have := HK.out; omega, by first | rfl | rw [uk.out], by rw [HST.out]; rfl, HX3.out⟩
                case measure => (try rw [uk.out]); have := HK.out; simp [intOf]; omega
            · obtain rfl : k = L := by omega
              have bll : (((lbest l k : Nat) : Int) == ((lbest l k : Nat) : Int)) = true := by simp
              clear hk hkl
              go_wp2_with fail
              go_ret
              exact ⟨rfl, hb.out⟩
end Go.Proofs.YtmibifmabkaakaaDoor
