/- The reference's WFlat, walked. No condition but that it is an order. -/
import Derived.Test.YtkffakekakhgdaaCycE
import Derived.Test.YtkffakekakhgdaaApp2
namespace Go.Proofs.Ytkffakekakhgdaa
open Go.ChangeShapes Go.WideShapes Go.ChangeAt Go.RowKit
set_option linter.unusedVariables false

/-- What was had in the midst of a round. -/
def midG (f : Nat → Bool) (q : Nat → Nat) (k j x : Nat) : Bool := f x || ((List.range j).map fun i => it q i k).contains x
theorem midG_zero (f : Nat → Bool) (q : Nat → Nat) (k x : Nat) : midG f q k 0 x = f x := by simp [midG]
theorem midG_succ (f : Nat → Bool) (q : Nat → Nat) (k j x : Nat) : midG f q k (j + 1) x = (midG f q k j x || x == it q j k) := by
  unfold midG
  rw [List.range_succ, List.map_append, Bool.or_assoc]
  congr 1
  refine bool_iff ?_
  rw [List.contains_iff_mem, List.mem_append, Bool.or_eq_true, List.contains_iff_mem]
  simp
theorem flatT_len {q : Nat → Nat} {n : Nat} (h : PermF q n) (hn : n ≤ 20) : ∀ d, d ≤ n → (flatT q n d).length ≤ 20 * d
  | 0, _ => Nat.zero_le _
  | d + 1, hd => by
    have ih := flatT_len h hn d (by omega)
    cases e : inU q n d (n - 1 - d) with
    | true => rw [flatT_old e]; omega
    | false =>
      have := per_is h (show n - 1 - d < n by omega)
      rw [flatT_new e, List.length_append, cyc_len]
      omega
theorem cy_push0 {mb c B0 : Nat} {F : Int → Bool} {w wo wr w8 : World} {e : TypeId} {v : Value} {xs : List Value} (HOW : Own wr wo.heap.size e v xs) (HM : MapB wr mb c F) (HKP : Kept mb wo wr) (HBJ : Below B0 w wr) (hB0 : B0 ≤ mb) (hmb : mb < wo.heap.size)
    (hgr : wr.grownBy w8 v.ownBlock) : MapB w8 mb c F ∧ Below B0 w w8 := by
  have hbel := (Below.refl wo.heap.size wr).grown hgr HKP.1 HOW.block
  exact ⟨HM.below hbel hmb, HBJ.trans (hbel.mono (by omega))⟩
theorem ints_cell (l : List Int) : ∀ u ∈ l.map (Value.int .i64), u.oneCell' = true := by
  intro u hu
  obtain ⟨x, _, rfl⟩ := List.mem_map.1 hu
  rfl
def flatR (p : List Int) : List Int := NI (flatT (qf p) p.length p.length)
set_option maxRecDepth 20000 in
set_option maxHeartbeats 4000000 in
theorem wflat_any (p : List Int) (A : Option Addr) (c : Nat) (w : World) (hs : Seg w w.heap.size A (p.map (.int .i64))) (hp : permB p = true) :
    Calls Try.prog 34 #[.slice A p.length c] w fun e w' => ∃ v, e = .returned v ∧ Own w' w.heap.size 3 v ((flatR p).map (.int .i64)) ∧ Below w.heap.size w w' := by
  have hl20 := permB_len hp
  have HS := Lib.hid hs
  have HP := Lib.hid (permF_of hp)
  have HQ : Hid (∀ k, k < p.length → pat p k = ((qf p k : Nat) : Int)) := fun k hk => (qf_cast hp hk).symm
  obtain ⟨R, hR⟩ : ∃ R, R = flatR p := ⟨_, rfl⟩
  rw [← hR]
  unfold flatR at hR
  have HRR := Lib.hid hR
  obtain ⟨q, hq⟩ : ∃ q, q = qf p := ⟨_, rfl⟩
  rw [← hq] at HP HQ HRR
  obtain ⟨n, hn⟩ : ∃ n, n = p.length := ⟨_, rfl⟩
  rw [← hn] at HP HQ HRR hl20 ⊢
  have HN := Lib.hid hn
  have HL := Lib.hid hl20
  have HPA : Hid (∀ X, X < n → ∃ ad, A = some ad ∧ ∀ u, Below w.heap.size w u → u.cell? (ad.add X) = some (.int .i64 (q X : Nat))) := fun X hX => by
    obtain ⟨ad, hA, had, hc⟩ := HS.out.pat (k := X) (by rw [← HN.out]; exact hX)
    refine ⟨ad, hA, fun u hu => ?_⟩
    rw [hu.cell (p := ad.add X) (by rw [add_block]; exact had), hc, HQ.out X hX]
  have u0 : wrap64 ((n : Int) - 1) = (n : Int) - 1 := by unfold wrap64; omega
  have HU0 := Lib.hid u0
  have hmm := @run_makeMap Try.prog
  clear hs hp hR hq hn hl20
  go_enter Try.func34, Try.ntmps34
  go_wp2_with fail
  have HM0 : Hid (MapB (w.alloc (.map #[] 0)) w.heap.size 0 (mF (inU q n 0))) := (MapB.made w).congr (fun y => by unfold mF; rw [inU_zero, Bool.and_false])
  have HB0 : Hid (Below w.heap.size w (w.alloc (.map #[] 0))) := (Below.refl _ _).alloc (Nat.le_refl _) _
  obtain ⟨mb, hmb⟩ : ∃ mb, mb = w.heap.size := ⟨_, rfl⟩
  have HMB : Hid (w.heap.size ≤ mb) := by unfold Hid; omega
  rw [← hmb] at HM0 ⊢
  generalize hw2 : w.alloc (.map #[] 0) = w2 at *
  clear hw2 hmm hmb u0
  go_loopw [3, 5] (fun s3 s12 wx => ∃ (d : Nat) (z : Int), d ≤ n ∧ s12 = .int .i64 z ∧ Hid (z = (n : Int) - 1 - (d : Int)) ∧ Hid (MapB wx mb (d * 21) (mF (inU q n d))) ∧ Hid (Own wx (mb + 1) 3 s3 ((NI (flatT q n d)).map (.int .i64))) ∧ Hid (Below w.heap.size w wx)) (fun _ s12 _ => (intOf s12 + 1).toNat)
  case atStart => exact ⟨0, (n : Int) - 1, Nat.zero_le _, by first | rfl | rw [HU0.out], by unfold Hid; omega, HM0.out, Own.none_, HB0.out⟩
  case round =>
    clear HM0 HB0
    obtain ⟨d, z, hdn, rfl, HZ, HRW, HRO, HBB⟩ := hrel
    by_cases hlt : d < n
    · obtain ⟨k, hk⟩ : ∃ k, k = n - 1 - d := ⟨_, rfl⟩
      have hkn : k < n := by omega
      have hz : z = (k : Int) := by have := HZ.out; omega
      subst hz
      have HKD : Hid (k = n - 1 - d ∧ d < n ∧ k < n) := ⟨hk, hlt, hkn⟩
      have i1 : (0 : Int) ≤ (k : Int) := by omega
      have hwk : (Lit.int .i64 (k : Int)).wf = true := WalkArith.wf_i64 (by have := HL.out; omega)
      have hlk := HRW.out.look Try.underlying91 hwk
      rw [mF_nat] at hlk
      have HWK := Lib.hid hwk
      have ui : Hid (wrap64 ((k : Int) - 1) = (k : Int) - 1) := by have := HL.out; unfold Hid wrap64; omega
      have HHL : Hid (mb < wr.heap.size) := HRW.out.lt
      cases hh : inU q n d k with
      | true =>
        rw [hh] at hlk
        rw [hk] at hh
        have HM2 : Hid (MapB wr mb ((d + 1) * 21) (mF (inU q n (d + 1)))) := (HRW.out.mono (by omega)).congr (fun y => by unfold mF; rw [inU_skip HP.out hlt hh])
        have HO2 : Hid (flatT q n (d + 1) = flatT q n d) := flatT_old hh
        clear hk hkn hlt hwk hh hdn
        go_wp2_with fail
        go_roundw
        case rel => exact ⟨d + 1, (k : Int) - 1, HKD.out.2.1, by first | rfl | rw [ui.out], by have := HKD.out; unfold Hid; omega, HM2.out, by unfold Hid; rw [HO2.out]; exact HRO.out, HBB.out⟩
        case measure => (try rw [ui.out]); simp [intOf]; try omega
      | false =>
        rw [hh] at hlk
        obtain ⟨ad, hA, hpa⟩ := HPA.out k hkn
        have HCA : Hid (∀ X, X < n → ∀ u, Below w.heap.size w u → u.cell? (ad.add X) = some (.int .i64 (q X : Nat))) := fun X hX u hu => by
          obtain ⟨ad', e, h⟩ := HPA.out X hX
          rw [hA] at e
          injection e with e
          subst e
          exact h u hu
        subst hA
        obtain ⟨p1, p2, p3, p4⟩ := per_is HP.out hkn
        have HPE : Hid (flatT q n (d + 1) = cyc q n k ++ flatT q n d) := by rw [hk] at hh ⊢; exact flatT_new hh
        obtain ⟨L, hL⟩ : ∃ L, L = per q n k := ⟨_, rfl⟩
        have HLL : Hid (1 ≤ L ∧ L ≤ n ∧ L = per q n k) := ⟨by omega, by omega, hL⟩
        have HNE : Hid (∀ j, 1 ≤ j → j < L → it q j k ≠ k) := fun j h1 h2 => p4 j h1 (by omega)
        have HEQ : Hid (it q L k = k) := by unfold Hid; rw [hL]; exact p3
        have HEN : Hid (∀ x, midG (inU q n d) q k L x = inU q n (d + 1) x) := fun x => by rw [hL, inU_succ, ← hk]; rfl
        have HSTR : Hid (MapB (wr.alloc (.cells #[.int .i64 (k : Nat)] 3)) mb (d * 21) (mF (midG (inU q n d) q k 0))) := (HRW.out.below ((Below.refl _ _).alloc (Nat.le_refl _) _) HHL.out).congr (fun y => by unfold mF; rw [midG_zero])
        have HM1 : Hid (∀ x, midG (inU q n d) q k 1 x = (midG (inU q n d) q k 0 x || x == k)) := fun x => midG_succ (inU q n d) q k 0 x
        have HPK := Lib.hid (HCA.out k hkn)
        have HBA : Hid (Below w.heap.size w (wr.alloc (.cells #[.int .i64 (k : Nat)] 3))) := HBB.out.alloc HBB.out.size _
        have HKA : Hid (Kept mb wr (wr.alloc (.cells #[.int .i64 (k : Nat)] 3))) := (Kept.refl mb wr).below ((Below.refl _ _).alloc (Nat.le_refl _) _)
        have HMX : Hid (d * 21 < maxLen) := by have := HL.out; unfold Hid maxLen; omega
        have hkn2 : (k : Int) < (n : Int) := by omega
        clear hk hkn hlt hwk hpa p1 p2 p3 p4 hL hh hdn
        obtain ⟨wo, rfl⟩ : ∃ wo : World, wo = wr := ⟨_, rfl⟩
        go_wp2_with (first
          | (at_mapUpdate; go_must (refine wpList_mapb_store _ rfl _ _ _ _ rfl Try.underlying91 mb (d * 21) _ rfl HSTR.out HMX.out (k : Nat) true rfl rfl HWK.out ?_); intro w5 hm5 hg5
             have HC5 := Lib.hid (cy_map (own_new wo (.int .i64 (k : Nat)) 3) HKA.out HBA.out HMB.out HHL.out hg5)
             have HM5 : Hid (MapB w5 mb (d * 21 + 1) (mF (midG (inU q n d) q k 1))) := hm5.congr (fun y => mF_upd HM1.out y)
             have hc5 := HPK.out w5 HC5.out.2.2
             clear hm5 hg5)
          | fail)
        clear hc5 hlk hkn2 i1
        go_loopw [6, 7] (fun s6 s7 wx => ∃ (j X : Nat), s7 = .int .i64 X ∧ Hid (1 ≤ j ∧ j ≤ L) ∧ Hid (rlen s6 = j) ∧ Hid (X = it q j k) ∧ Hid (Own wx wo.heap.size 3 s6 ((NI ((List.range j).map fun i => it q i k)).map (.int .i64))) ∧ Hid (MapB wx mb (d * 21 + j) (mF (midG (inU q n d) q k j))) ∧ Hid (Kept mb wo wx) ∧ Hid (Below w.heap.size w wx)) (fun s6 _ _ => n - rlen s6)
        case atStart => exact ⟨1, q k, rfl, ⟨Nat.le_refl _, HLL.out.1⟩, rfl, rfl, HC5.out.1, HM5.out, HC5.out.2.1, HC5.out.2.2⟩
        case round =>
          clear HC5 HM5 HSTR HBA HKA
          obtain ⟨j, X, rfl, HJL, HRL, HX, HOW, HMJ, HKP, HBJ⟩ := hrel
          have hXn : X < n := by rw [HX.out]; exact it_lt HP.out HKD.out.2.2 j
          by_cases hlj : j < L
          · have b1 : ((X : Int) != (k : Int)) = true := by
              have := HNE.out j HJL.out.1 hlj
              rw [← HX.out] at this
              simp
              omega
            have HJ := Lib.hid hlj
            have i2 : (X : Int) < (n : Int) := by omega
            have hwx : (Lit.int .i64 (X : Int)).wf = true := WalkArith.wf_i64 (by have := HL.out; omega)
            have HWX := Lib.hid hwx
            have HPX := Lib.hid (HCA.out X hXn)
            have HNL : Hid ((((NI ((List.range j).map fun i => it q i k)).map (Value.int .i64)).length + 1) * 8 ≤ 140737488355328 ∧ ((NI ((List.range j).map fun i => it q i k)).map (Value.int .i64)).length + 1 ≤ maxLen) := by
              have h1 := HLL.out
              have h2 := HL.out
              unfold Hid maxLen
              simp [NI]
              omega
            have HSZ : Hid (wo.heap.size ≤ (wr.alloc (.cells #[.int .i64 (X : Nat)] 3)).heap.size) := by
              have := HKP.out.1
              unfold Hid
              simp
              omega
            have HST : Hid ((NI ((List.range (j + 1)).map fun i => it q i k)).map (Value.int .i64) = (NI ((List.range j).map fun i => it q i k)).map (.int .i64) ++ [.int .i64 (X : Nat)]) := by
              unfold Hid; rw [range_snoc, NI_snoc, HX.out]
            have HML : Hid (((List.range (j + 1)).map fun i => it q i k).length = j + 1) := by unfold Hid; simp
            have HMS : Hid (∀ x, midG (inU q n d) q k (j + 1) x = (midG (inU q n d) q k j x || x == X)) := fun x => by rw [midG_succ, HX.out]
            have HMY : Hid (d * 21 + j < maxLen) := by have := HL.out; have := HLL.out; have := HKD.out; unfold Hid maxLen; omega
            clear hXn hlj hwx
            go_wp2_with (first
              | (at_mapUpdate; go_must (refine wpList_mapb_store _ rfl _ _ _ _ rfl Try.underlying91 mb (d * 21 + j) _ rfl HS8.out.1 HMY.out (X : Nat) true rfl rfl HWX.out ?_); intro w9 hm9 hg9
                 have HC9 := Lib.hid (cy_map HO8.out HS8.out.2.1 HS8.out.2.2 HMB.out HHL.out hg9)
                 have HM9 : Hid (MapB w9 mb (d * 21 + j + 1) (mF (midG (inU q n d) q k (j + 1)))) := hm9.congr (fun y => mF_upd HMS.out y)
                 have hc9 := HPX.out w9 HC9.out.2.2
                 clear hm9 hg9)
              | (at_builtin; go_must (refine wpList_pushY _ rfl _ _ 36 3 8 elem_ints rfl wo.heap.size _ _ rfl (Own.alloc' HOW.out _) (.int .i64 (X : Nat)) _ _ rfl (cell_new1 _ _ _) rfl HNL.out.1 HNL.out.2 HSZ.out ?_); intro v8 w8 hown8 hgr8
                 have HS8 := Lib.hid (cy_push HOW.out HMJ.out HKP.out HBJ.out HMB.out HHL.out hgr8)
                 rw [← HST.out] at hown8
                 have HO8 := Lib.hid hown8
                 have HR8 : Hid (rlen v8 = j + 1) := by obtain ⟨A9, c9, e9⟩ := own_ints_slice hown8 HML.out; unfold Hid; rw [e9]; rfl
                 clear hown8 hgr8)
              | fail)
            go_roundw
            case rel => exact ⟨j + 1, q X, rfl, ⟨by omega, HJ.out⟩, HR8.out, by unfold Hid; rw [HX.out]; rfl, HC9.out.1, HM9.out, HC9.out.2.1, HC9.out.2.2⟩
            case measure =>
              have h1 := HR8.out
              have h2 := HRL.out
              have h3 := HJ.out
              have h4 := HLL.out
              rw [h1, h2]
              omega
          · have hje : j = L := by have := HJL.out; omega
            have b1 : ((X : Int) != (k : Int)) = false := by
              have : X = k := by rw [HX.out, hje]; exact HEQ.out
              rw [this]; simp
            have HM2 : Hid (MapB wr mb ((d + 1) * 21) (mF (inU q n (d + 1)))) := (HMJ.out.mono (by have := HJL.out; have := HLL.out; have := HL.out; omega)).congr (fun y => by unfold mF; rw [hje, HEN.out])
            have HRO1 : Hid (Own wr (mb + 1) 3 u3 ((NI (flatT q n d)).map (.int .i64))) := HRO.out.kept HKP.out (Nat.lt_succ_self _)
            obtain ⟨A7, c7, hA7⟩ := own_ints_slice HRO1.out rfl
            have HFL : Hid ((flatT q n d).length ≤ 400) := by have := flatT_len HP.out HL.out d (by have := HKD.out; omega); have := HL.out; have := HKD.out; unfold Hid; omega
            obtain ⟨M, hM⟩ : ∃ M, M = (flatT q n d).length := ⟨_, rfl⟩
            rw [← hM] at hA7 HFL
            subst hA7
            have HSG : Hid (Seg wr wr.heap.size A7 ((NI (flatT q n d)).map (.int .i64))) := by
              obtain ⟨A2, c2, e2, _, h2⟩ := HRO1.out.res
              injection e2 with e2 _ _
              rw [e2]; exact h2
            have HMM : Hid (((NI (flatT q n d)).map (Value.int .i64)).length = M) := by unfold Hid; rw [hM]; simp [NI]
            have HO6 : Hid ((NI (flatT q n (d + 1))).map (Value.int .i64) = (NI ((List.range j).map fun i => it q i k)).map (.int .i64) ++ (NI (flatT q n d)).map (.int .i64)) := by
              unfold Hid; rw [HPE.out, hje, HLL.out.2.2]; unfold NI; rw [List.map_append, List.map_append]; rfl
            have HVL : Hid (((NI ((List.range j).map fun i => it q i k)).map (Value.int .i64)).length + M ≤ maxLen ∧ (((NI ((List.range j).map fun i => it q i k)).map (Value.int .i64)).length + M) * 8 ≤ 140737488355328) := by
              have h1 := HFL.out
              have h2 := HLL.out
              have h3 := HL.out
              unfold Hid maxLen
              simp [NI]
              omega
            clear hje hXn hlj hM
            go_wp2_with (first
              | (at_builtin; go_must (refine wpList_append_seg _ rfl _ _ elem_ints rfl wo.heap.size _ _ rfl HOW.out c7 rfl HMM.out HSG.out (ints_cell _) HVL.out.1 HVL.out.2 HKP.out.1 ?_); intro v9 w9 hown9 hgr9 hbk9
                 have HS9 := Lib.hid (cy_push0 HOW.out HM2.out HKP.out HBJ.out HMB.out HHL.out hgr9)
                 rw [← HO6.out] at hown9
                 have HO9 := Lib.hid (hown9.base (Nat.succ_le_of_lt HHL.out))
                 clear hown9 hgr9 hbk9)
              | fail)
            go_roundw
            case rel => exact ⟨d + 1, (k : Int) - 1, HKD.out.2.1, by first | rfl | rw [ui.out], by have := HKD.out; unfold Hid; omega, HS9.out.1, HO9.out, HS9.out.2⟩
            case measure => (try rw [ui.out]); simp [intOf]; try omega
    · have hde : d = n := by omega
      have hz : z = -1 := by have := HZ.out; omega
      subst hz
      have HFIN : Hid (Own wr w.heap.size 3 u3 (R.map (.int .i64))) := by
        unfold Hid
        rw [HRR.out]
        have h := HRO.out
        rw [hde] at h
        exact h.base (Nat.le_succ_of_le HMB.out)
      clear hdn hlt hde
      go_wp2_with fail
      go_ret
      exact ⟨u3, rfl, HFIN.out, HBB.out⟩
end Go.Proofs.Ytkffakekakhgdaa
