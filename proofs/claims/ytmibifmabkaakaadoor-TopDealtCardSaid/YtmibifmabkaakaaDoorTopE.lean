/- The statement TopDealt, walked. No condition but the library's tables. -/
import Derived.Test.YtmibifmabkaakaaDoorBenD
import Derived.Test.YtmibifmabkaakaaDoorTopD
import Derived.Test.YtmibifmabkaakaaDoorMixD
import Derived.Test.YtmibifmabkaakaaDoorMixB
import Derived.Test.YtmibifmabkaakaaDoorTapD
import Derived.Test.YtmibifmabkaakaaDoorPerL
import Derived.Test.YtmibifmabkaakaaDoorCycB
import Derived.Test.YtmibifmabkaakaaDoorEqints
import Derived.Deep.DeepCutAuto
namespace Go.Proofs.YtmibifmabkaakaaDoor
open Go.ChangeShapes Go.WideShapes Go.ChangeAt Go.RowKit
set_option linter.unusedVariables false

set_option maxRecDepth 20000 in
set_option maxHeartbeats 4000000 in
theorem dealt_out (x : BitVec 64) (n : Int) (w : World) (hx : n < 0 ∨ 20 < n)
    (hA : Calls Tryd.prog 11 #[] w fun e w' => e = .returned (.bool true) ∧ Below w.heap.size w w') :
    Calls Tryd.prog 7 #[W64 x, .int .i64 n] w fun e w' => e = .returned (.bool true) ∧ Below w.heap.size w w' := by
  have HA := Lib.hid hA
  clear hA
  rcases (by omega : n < 0 ∨ (¬ n < 0 ∧ 20 < n)) with h1 | ⟨h1, h2⟩
  all_goals
    clear hx
    go_enter Tryd.func7, Tryd.ntmps7
    go_wp2_with fail
    refine HA.out.mono ?_
    rintro e w2 ⟨rfl, hb2⟩
    have HB2 := Lib.hid hb2
    clear hb2
    go_wp2_with fail
    go_ret
    exact ⟨rfl, HB2.out⟩
set_option maxRecDepth 20000 in
set_option maxHeartbeats 4000000 in
theorem dealt_core (x : BitVec 64) (N : Nat) (w : World) (hN : N ≤ 20) (hL : LibW w) :
    Calls Tryd.prog 7 #[W64 x, .int .i64 N] w fun e w' => e = .returned (.bool true) ∧ Below w.heap.size w w' := by
  have HA := Lib.hid (alive_any w hL)
  obtain ⟨m, hm⟩ : ∃ m : Mx, m = seedM fun k => bmix (sword x (k + 1)) := ⟨_, rfl⟩
  have HSD : Hid (∀ u, Calls Tryd.prog 28 #[W64 x] u fun e w' => e = .returned (MV m) ∧ Below u.heap.size u w') := fun u => by rw [hm]; exact seed_any x _ (fun _ => rfl) u
  obtain ⟨T, hT⟩ : ∃ T, T = mbits m 1000 := ⟨_, rfl⟩
  have HTL : Hid (T.length = 1000) := by unfold Hid; rw [hT, mbits_len]
  obtain ⟨m2, hm2⟩ : ∃ m2 : Mx, m2 = mat m ((1000 + 63) / 64) := ⟨_, rfl⟩
  have HBI : Hid (∀ u, Calls Tryd.prog 27 #[MV m, .int .i64 1000] u fun e w' => ∃ A c, e = .returned (.tuple #[.slice A 1000 c, MV m2, .int .i64 0]) ∧ 1000 ≤ c ∧ Seg w' w'.heap.size A (T.map .bool) ∧ Below u.heap.size u w') := fun u => by
    refine (bits_ok m 1000 u (by decide)).mono ?_
    rintro e w' ⟨⟨v, rfl, A, c, rfl, h2, h3⟩, h4⟩
    rw [← hT] at h2 h3
    rw [List.length_map, mbits_len] at *
    rw [hm2]
    exact ⟨A, c, rfl, by rw [hT, mbits_len] at h2; exact h2, h3, h4⟩
  obtain ⟨R, hR⟩ : ∃ R, R = pmany T (tab (fun k => (k : Int) + 1) N) 0 [] := ⟨_, rfl⟩
  have hdl := dealt_is T hN
  rw [← hR] at hdl
  have HN := Lib.hid hN
  have i1 : ¬ (N : Int) < 0 := by omega
  have i2 : ¬ (20 : Int) < (N : Int) := by omega
  clear hm hT hm2 hN hL
  go_enter Tryd.func7, Tryd.ntmps7
  go_wp2_with fail
  refine HA.out.mono ?_
  rintro e w2 ⟨rfl, hb2⟩
  have HB2 := Lib.hid hb2
  clear hb2
  go_wp2_with fail
  refine (HSD.out _).mono ?_
  rintro e w3 ⟨rfl, hb3⟩
  have HB3 := Lib.hid (HB2.out.trans (hb3.mono HB2.out.size))
  clear hb3 HB2 HSD
  go_wp2_with fail
  refine (HBI.out _).mono ?_
  rintro e w4 ⟨A4, c4, rfl, hc4, hs4, hb4⟩
  obtain ⟨ad4, rfl, _⟩ := hs4 (by rw [List.length_map, HTL.out]; decide)
  have HS4 := Lib.hid hs4
  have HC4 := Lib.hid hc4
  have HB4 := Lib.hid (HB3.out.trans (hb4.mono HB3.out.size))
  clear hb4 HB3 HBI hs4 hc4
  have HKN : Hid (Blk (w4.alloc (.cells #[.int .u64 0, .int .u64 0, .int .u64 0, .int .u64 0] 57)) w4.heap.size 57 #[.int .u64 0, .int .u64 0, .int .u64 0, .int .u64 0]) := Blk.new _ _ _
  clear i1 i2
  go_wp2_with (first | (refine wpList_store_blk rfl _ _ _ rfl w4.heap.size (mcells m2) rfl rfl _ _ HKN.out (by kernel_rfl) rfl (mcells_one _) ?_; intro w5 hb5 hg5 hs5; have HG5 := Lib.hid hg5; have HS5 := Lib.hid hs5; clear hs5 hb5 hg5) | fail)
  have HB5 : Hid (Below w4.heap.size w4 w5) := Below.grown ((Below.refl _ _).alloc (Nat.le_refl _) _) HG5.out (by simp) (fun q hq => by injection hq with hq; omega)
  clear HKN HG5 HS5
  go_loopw [8, 36] (fun s8 s36 wx => ∃ k : Nat, k ≤ N ∧ s36 = .int .i64 k ∧ Hid (Own wx w4.heap.size 3 s8 ((tab (fun k => (k : Int) + 1) k).map (.int .i64))) ∧ Hid (Below w4.heap.size w4 wx)) (fun _ s36 _ => N - (intOf s36).toNat)
  case atStart => exact ⟨0, Nat.zero_le _, rfl, Own.none_, HB5.out⟩
  case round =>
    clear HB5
    obtain ⟨k, hkN, rfl, HOW, HBE⟩ := hrel
    by_cases hlt : k < N
    · have i1 : (k : Int) < (N : Int) := by omega
      have HK := Lib.hid hlt
      have HST : Hid ((tab (fun k => (k : Int) + 1) (k + 1)).map (Value.int .i64) = (tab (fun k => (k : Int) + 1) k).map (.int .i64) ++ [.int .i64 ((k : Int) + 1)]) := by
        unfold Hid tab; rw [List.range_succ, List.map_append, List.map_append]; rfl
      have HNL : Hid ((((tab (fun k => (k : Int) + 1) k).map (Value.int .i64)).length + 1) * 8 ≤ 140737488355328 ∧ ((tab (fun k => (k : Int) + 1) k).map (Value.int .i64)).length + 1 ≤ maxLen) := by
        have h2 := HN.out
        unfold Hid maxLen
        rw [List.length_map, tab_len]
        omega
      have ui : wrap64 ((k : Int) + 1) = (k : Int) + 1 := by unfold wrap64; have := HN.out; omega
      have HUI := Lib.hid ui
      have HSZ : Hid (w4.heap.size ≤ (wr.alloc (.cells #[.int .i64 ((k : Int) + 1)] 3)).heap.size) := by have := HBE.out.size; unfold Hid; simp; omega
      clear hlt hkN
      go_wp2_with (first
        | (at_builtin; go_must (refine wpList_pushY _ rfl _ _ 23 3 8 elem_ints rfl w4.heap.size _ _ rfl (Own.alloc' HOW.out _) (.int .i64 ((k : Int) + 1)) _ _ rfl (cell_new1 _ _ _) rfl HNL.out.1 HNL.out.2 HSZ.out ?_); intro v9 w9 hown9 hgr9
           have HB9 : Hid (Below w4.heap.size w4 w9) := (HBE.out.alloc HBE.out.size _).trans ((Below.refl _ _).grown hgr9 HSZ.out (Own.alloc' HOW.out (.cells #[.int .i64 ((k : Int) + 1)] 3)).block)
           rw [← HST.out] at hown9
           have HO9 := Lib.hid hown9
           clear hown9 hgr9)
        | fail)
      go_roundw
      case rel => exact ⟨k + 1, HK.out, by first | rfl | rw [HUI.out]; rfl, HO9.out, HB9.out⟩
      case measure => (try rw [HUI.out]); have := HK.out; simp [intOf]; omega
    · have hke : k = N := by omega
      have i1 : ¬ (k : Int) < (N : Int) := by omega
      obtain ⟨A8, c8, e8, hc8, hs8⟩ := HOW.out.res
      rw [List.length_map, tab_len, hke] at e8
      rw [hke] at hs8
      have HS8 := Lib.hid hs8
      obtain ⟨L, hL8⟩ : ∃ L, L = tab (fun k => (k : Int) + 1) N := ⟨_, rfl⟩
      rw [← hL8] at HS8 hR hdl
      have HLL : Hid (L.length = N) := by unfold Hid; rw [hL8, tab_len]
      have HMY : Hid (∀ (t : List Bool) (c : Nat) (r : List Int × Int × Int) (u : World), t.length ≤ c → t.length ≤ 1000 → Seg u u.heap.size (some ad4) (t.map .bool) → Seg u u.heap.size A8 (L.map (.int .i64)) → pmany t L 0 [] = r →
          Calls Tryd.prog 29 #[.slice (some ad4) t.length c, .slice A8 N c8] u fun e w' => ManyOut u w' e r) := fun t c r u h1 h2 h3 h4 h5 => by
        have h := many_any t L (some ad4) A8 c c8 u h3 h4 h1 (by omega) (by rw [HLL.out]; have := HN.out; omega) r h5
        rw [HLL.out] at h
        exact h
      have HST := Lib.hid (HS4.out.on HBE.out)
      subst e8
      have HM1 : Hid (Calls Tryd.prog 29 #[.slice (some ad4) 1000 c4, .slice A8 N c8] wr fun e w' => ManyOut wr w' e R) := by
        have h := HMY.out T c4 R wr (by rw [HTL.out]; exact HC4.out) (by rw [HTL.out]; exact Nat.le_refl _) HST.out HS8.out hR.symm
        rw [HTL.out] at h
        exact h
      have HBW : Hid (Below w.heap.size w wr) := HB4.out.trans (HBE.out.mono HB4.out.size)
      clear hs8 hL8 hkN hlt hke hc8 hR HOW
      rcases hdl.1 with h7 | h7
      · obtain ⟨d, U, hr, hU, hm2, hdn, hde, hpr, hpl⟩ := hdl.2 h7
        subst hr
        clear hdl h7
        have hU1 : U ≤ 1000 := by rw [HTL.out] at hU; exact hU
        have HM1b : Hid (Calls Tryd.prog 29 #[.slice (some ad4) 1000 c4, .slice A8 N c8] wr fun e w' => ∃ A c, e = .returned (.tuple #[.slice A N c, .int .i64 (U : Nat), .int .i64 0]) ∧ Seg w' w'.heap.size A (d.map (.int .i64)) ∧ Below wr.heap.size wr w') := by
          refine HM1.out.mono ?_
          rintro e w' ⟨A, c, h1, h2, h3⟩
          simp only [hdn] at h1
          exact ⟨A, c, h1, h2, h3⟩
        have HM2 : Hid (∀ u, Seg u u.heap.size (some ad4) ((T.take U).map .bool) → Seg u u.heap.size A8 (L.map (.int .i64)) → Calls Tryd.prog 29 #[.slice (some ad4) U c4, .slice A8 N c8] u fun e w' => ∃ A c, e = .returned (.tuple #[.slice A N c, .int .i64 (U : Nat), .int .i64 0]) ∧ Seg w' w'.heap.size A (d.map (.int .i64)) ∧ Below u.heap.size u w') := fun u h3 h4 => by
          have hlen : (T.take U).length = U := by rw [List.length_take]; exact Nat.min_eq_left hU
          have h := HMY.out (T.take U) c4 _ u (by rw [hlen]; have := HC4.out; omega) (by rw [hlen]; exact hU1) h3 h4 hm2
          rw [hlen] at h
          refine h.mono ?_
          rintro e w' ⟨A, c, h1, h2, h3⟩
          simp only [hdn] at h1
          exact ⟨A, c, h1, h2, h3⟩
        obtain ⟨P, hP⟩ : ∃ P, P = dealL d := ⟨_, rfl⟩
        rw [← hP] at hpr hpl
        have HDE : Hid (∀ (A : Option Addr) (c : Nat) u, Seg u u.heap.size A (d.map (.int .i64)) → Calls Tryd.prog 30 #[.slice A N c] u fun e w' => ∃ A c, e = .returned (.tuple #[.slice A N c, .int .i64 0]) ∧ Seg w' w'.heap.size A (P.map (.int .i64)) ∧ Below u.heap.size u w') := fun A c u h1 => by
          have h := deal_any d A c u h1 (by rw [hdn]; have := HN.out; omega)
          rw [hdn, hde, ← hP] at h
          refine h.mono ?_
          rintro e w' ⟨A, c, h1, _, h2, h3⟩
          rw [hpl] at h1
          exact ⟨A, c, h1, h2, h3⟩
        have HOF : Hid (∀ (A : Option Addr) (c : Nat) u, Seg u u.heap.size A (P.map (.int .i64)) → Calls Tryd.prog 31 #[.slice A N c] u fun e w' => ∃ A' c', e = .returned (.tuple #[.slice A' (ofR P).length c', .int .i64 0]) ∧ Below u.heap.size u w') := fun A c u h1 => by
          have h := of_any P A c u h1 hpr
          rw [hpl] at h
          refine h.mono ?_
          rintro e w' ⟨A', c', h1, _, h3⟩
          exact ⟨A', c', h1, h3⟩
        have HRI : Hid (∀ (A : Option Addr) (c : Nat) u, Seg u u.heap.size A (P.map (.int .i64)) → Calls Tryd.prog 32 #[.slice A N c] u fun e w' => e = .returned (.bool true) ∧ Below u.heap.size u w') := fun A c u h1 => by
          have h := pright_any P A c u h1 (by rw [hpl]; have := HN.out; omega)
          rw [hpl, hpr] at h
          exact h
        have HEQ : Hid (∀ (A C : Option Addr) (c c' : Nat) u, Seg u u.heap.size A (d.map (.int .i64)) → Seg u u.heap.size C (d.map (.int .i64)) → Calls Tryd.prog 33 #[.slice A N c, .slice C N c'] u fun e w' => e = .returned (.bool true) ∧ ∃ n, w' = u.drewN n) := fun A C c c' u h1 h2 => by
          have h := eq_ints d d A C c c' u.heap.size u h1 h2 (by rw [hdn]; have := HN.out; omega)
          rw [decide_eq_true rfl, hdn] at h
          exact h
        obtain ⟨M, hM⟩ : ∃ M, M = (ofR P).length := ⟨_, rfl⟩
        rw [← hM] at HOF
        have hMN : (M : Int) ≤ (N : Int) := by
          have h1 := ofs_len (qf P) P.length P.length
          rw [hM]
          unfold ofR
          rw [List.length_map]
          omega
        have HCU : Hid (U ≤ c4) := Nat.le_trans hU1 HC4.out
        have i3 : ¬ (U : Int) < 0 := by omega
        have i4 : ¬ (1000 : Int) < (U : Int) := by omega
        have i5 : (U : Int) ≤ (c4 : Int) := by have := HCU.out; omega
        have b1 : ((N : Int) == (N : Int)) = true := by simp
        have b2 : ((U : Int) == (U : Int)) = true := by simp
        clear HM1 HMY hU hm2 hde hpr hpl hP hM hdn hU1
        go_wp2_with fail
        refine HM1b.out.mono ?_
        rintro e w6 ⟨A6, c6, rfl, hs6, hb6⟩
        have HD6 := Lib.hid hs6
        have HT6 := Lib.hid (HST.out.on hb6)
        have HL6 := Lib.hid (HS8.out.on hb6)
        have HB6 := Lib.hid (HBW.out.trans (hb6.mono HBW.out.size))
        clear hs6 hb6 HM1b HBW HST HS8
        go_wp2_with fail
        refine (HDE.out _ _ _ HD6.out).mono ?_
        rintro e w7 ⟨A7, c7, rfl, hs7, hb7⟩
        have HP7 := Lib.hid hs7
        have HD7 := Lib.hid (HD6.out.on hb7)
        have HT7 := Lib.hid (HT6.out.on hb7)
        have HL7 := Lib.hid (HL6.out.on hb7)
        have HB7 := Lib.hid (HB6.out.trans (hb7.mono HB6.out.size))
        clear hs7 hb7 HDE HD6 HT6 HL6 HB6
        have HTK7 : Hid (Seg w7 w7.heap.size (some ad4) ((T.take U).map .bool)) := by
          intro hl
          obtain ⟨ad, e1, h2, h3⟩ := HT7.out (by rw [List.length_map, HTL.out]; decide)
          refine ⟨ad, e1, h2, fun k u hk => h3 k u ?_⟩
          rw [List.map_take, List.getElem?_take] at hk
          split at hk
          · exact hk
          · cases hk
        go_wp2_with fail
        refine (HM2.out _ HTK7.out HL7.out).mono ?_
        rintro e w8 ⟨A9, c9, rfl, hs8, hb8⟩
        have HA8 := Lib.hid hs8
        have HP8 := Lib.hid (HP7.out.on hb8)
        have HD8 := Lib.hid (HD7.out.on hb8)
        have HB8 := Lib.hid (HB7.out.trans (hb8.mono HB7.out.size))
        clear hs8 hb8 HM2 HTK7 HL7 HP7 HD7 HB7 HT7
        go_wp2_with fail
        refine (HOF.out _ _ _ HP8.out).mono ?_
        rintro e w9 ⟨A10, c10, rfl, hb9⟩
        have HA9 := Lib.hid (HA8.out.on hb9)
        have HP9 := Lib.hid (HP8.out.on hb9)
        have HD9 := Lib.hid (HD8.out.on hb9)
        have HB9 := Lib.hid (HB8.out.trans (hb9.mono HB8.out.size))
        clear hb9 HOF HA8 HP8 HD8 HB8
        go_wp2_with fail
        refine (HRI.out _ _ _ HP9.out).mono ?_
        rintro e w10 ⟨rfl, hb10⟩
        have HA10 := Lib.hid (HA9.out.on hb10)
        have HD10 := Lib.hid (HD9.out.on hb10)
        have HB10 := Lib.hid (HB9.out.trans (hb10.mono HB9.out.size))
        clear hb10 HRI HA9 HP9 HD9 HB9
        go_wp2_with fail
        refine (HEQ.out _ _ _ _ _ HA10.out HD10.out).mono ?_
        rintro e w11 ⟨rfl, m3, rfl⟩
        go_wp2_with fail
        go_ret
        exact ⟨rfl, below_drewN HB10.out _⟩
      · obtain ⟨d, U, f⟩ := R
        simp only at h7
        subst h7
        clear hdl
        go_wp2_with fail
        refine HM1.out.mono ?_
        rintro e w6 ⟨A6, c6, rfl, hs6, hb6⟩
        have HB6 := Lib.hid (HBW.out.trans (hb6.mono HBW.out.size))
        clear hs6 hb6
        go_wp2_with fail
        go_ret
        exact ⟨rfl, HB6.out⟩
theorem TopDealt_walk (a0 a1 : Int) (w : World) (w0 : (Lit.int .u64 a0).wf = true) (_w1 : (Lit.int .i64 a1).wf = true) (hL : LibW w) :
    Calls Tryd.prog 7 #[.int .u64 a0, .int .i64 a1] w fun e w' => e = .returned (.bool true) ∧ Below w.heap.size w w' := by
  have w2 : 0 ≤ a0 ∧ a0 ≤ 18446744073709551615 := by
    simp [Lit.wf] at w0
    exact w0
  obtain ⟨x, rfl⟩ := wv_of a0 w2.1 (by omega)
  by_cases h : a1 < 0 ∨ 20 < a1
  · exact dealt_out x a1 w h (alive_any w hL)
  · obtain ⟨N, rfl⟩ := Int.eq_ofNat_of_zero_le (show 0 ≤ a1 by omega)
    exact dealt_core x N w (by omega) hL
end Go.Proofs.YtmibifmabkaakaaDoor
