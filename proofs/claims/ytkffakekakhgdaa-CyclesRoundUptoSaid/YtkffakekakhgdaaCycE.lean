/- The reference's WOf, walked. No condition but that it is an order. -/
import Derived.Test.YtkffakekakhgdaaCycB
import Derived.Test.YtkffakekakhgdaaMapB
import Derived.WalkArith
namespace Go.Proofs.Ytkffakekakhgdaa
open Go.ChangeShapes Go.WideShapes Go.ChangeAt Go.RowKit
set_option linter.unusedVariables false

/-- A truth of small numbers as one of all numbers. -/
def mF (g : Nat → Bool) (y : Int) : Bool := decide (0 ≤ y) && g y.toNat
theorem mF_nat (g : Nat → Bool) (x : Nat) : mF g (x : Int) = g x := by unfold mF; rw [decide_eq_true (by omega), Int.toNat_natCast, Bool.true_and]
theorem mF_upd {f g : Nat → Bool} {X : Nat} (h : ∀ x, g x = (f x || x == X)) (y : Int) : mF g y = if y = (X : Int) then true else mF f y := by
  by_cases e : y = (X : Int)
  · subst e; rw [if_pos rfl, mF_nat, h]; simp
  · rw [if_neg e]
    unfold mF
    by_cases h0 : 0 ≤ y
    · rw [h, show (y.toNat == X) = false by rw [beq_eq_false_iff_ne]; omega, Bool.or_false]
    · rw [decide_eq_false h0]; rfl
theorem own_new (w : World) (u : Value) (e : TypeId) : Own (w.alloc (.cells #[u] e)) w.heap.size e (.slice (some ⟨w.heap.size, 0, none⟩) 1 1) [u] :=
  ⟨rfl, .inr ⟨w.heap.size, 1, #[u], rfl, Nat.le_refl _, Blk.new w e _, Nat.le_refl _, by unfold maxLen; decide, rfl, rfl⟩⟩
theorem cy_push {mb c B0 : Nat} {F : Int → Bool} {w wo wr w8 : World} {e : TypeId} {v : Value} {xs : List Value} {o : Obj} (HOW : Own wr wo.heap.size e v xs) (HM : MapB wr mb c F) (HKP : Kept mb wo wr) (HBJ : Below B0 w wr) (hB0 : B0 ≤ mb) (hmb : mb < wo.heap.size)
    (hgr : (wr.alloc o).grownBy w8 v.ownBlock) : MapB w8 mb c F ∧ Kept mb wo w8 ∧ Below B0 w w8 := by
  have ha := (Below.refl wr.heap.size wr).alloc (Nat.le_refl _) o
  have h1 : Own (wr.alloc o) wo.heap.size e v xs := Own.alloc' HOW _
  have hk := HKP.below ha
  have hbel := (Below.refl wo.heap.size (wr.alloc o)).grown hgr hk.1 h1.block
  refine ⟨(HM.below ha HM.lt).below hbel hmb, hk.grown h1 hgr, ?_⟩
  exact (HBJ.alloc (by have := HKP.1; omega) o).trans (hbel.mono (by omega))
theorem Kept.map {hb : Nat} {wo w w' : World} (h : Kept hb wo w) (hg : w.grownBy w' (some hb)) : Kept hb wo w' :=
  ⟨Nat.le_trans h.1 hg.size, fun b hlt hne => (hg.block b (Nat.lt_of_lt_of_le hlt h.1) (fun e => hne (Option.some.inj e))).trans (h.2 b hlt hne)⟩
theorem cy_map {mb B0 : Nat} {w wo w8 w9 : World} {e : TypeId} {v : Value} {xs : List Value} (HOW : Own w8 wo.heap.size e v xs) (HKP : Kept mb wo w8) (HBJ : Below B0 w w8) (hB0 : B0 ≤ mb) (hmb : mb < wo.heap.size)
    (hg : w8.grownBy w9 (some mb)) : Own w9 wo.heap.size e v xs ∧ Kept mb wo w9 ∧ Below B0 w w9 :=
  ⟨HOW.grown hg hmb, HKP.map hg, HBJ.grown hg (by have := HKP.1; omega) (fun k e => by injection e with e; omega)⟩
set_option maxRecDepth 20000 in
set_option maxHeartbeats 4000000 in
theorem wof_any (p : List Int) (A : Option Addr) (c : Nat) (w : World) (hs : Seg w w.heap.size A (p.map (.int .i64))) (hp : permB p = true) :
    Calls Try.prog 33 #[.slice A p.length c] w fun e w' => ∃ v, e = .returned v ∧ RowsO w' w.heap.size v (ofR p) ∧ Below w.heap.size w w' := by
  have hl20 := permB_len hp
  have HS := Lib.hid hs
  have HP := Lib.hid (permF_of hp)
  have HQ : Hid (∀ k, k < p.length → pat p k = ((qf p k : Nat) : Int)) := fun k hk => (qf_cast hp hk).symm
  obtain ⟨R, hR⟩ : ∃ R, R = ofR p := ⟨_, rfl⟩
  rw [← hR]
  unfold ofR at hR
  have HRR := Lib.hid hR
  obtain ⟨q, hq⟩ : ∃ q, q = qf p := ⟨_, rfl⟩
  rw [← hq] at HP HQ HRR
  obtain ⟨n, hn⟩ : ∃ n, n = p.length := ⟨_, rfl⟩
  rw [← hn] at HP HQ HRR hl20 ⊢
  have HN := Lib.hid hn
  have HL := Lib.hid hl20
  have HPA : Hid (∀ X, X < n → ∃ ad, A = some ad ∧ ∀ u, Below w.heap.size w u → u.cell? (ad.add X) = some (.int .i64 (q X : Nat))) := fun X hX => by
    obtain ⟨ad, hA, had, hc⟩ := HS.out.pat (k := X) (by rw [← HN.out]; exact hX)
    refine ⟨ad, hA, fun u hu => ?_⟩
    rw [hu.cell (p := ad.add X) (by rw [add_block]; exact had), hc, HQ.out X hX]
  have hmm := @run_makeMap Try.prog
  clear hs hp hR hq hn hl20
  go_enter Try.func33, Try.ntmps33
  go_wp2_with fail
  have HM0 : Hid (MapB (w.alloc (.map #[] 0)) w.heap.size 0 (mF (hadB q n 0))) := (MapB.made w).congr (fun y => by unfold mF; rw [hadB_zero, Bool.and_false])
  have HB0 : Hid (Below w.heap.size w (w.alloc (.map #[] 0))) := (Below.refl _ _).alloc (Nat.le_refl _) _
  obtain ⟨mb, hmb⟩ : ∃ mb, mb = w.heap.size := ⟨_, rfl⟩
  have HMB : Hid (w.heap.size ≤ mb) := by unfold Hid; omega
  rw [← hmb] at HM0 ⊢
  generalize hw2 : w.alloc (.map #[] 0) = w2 at *
  clear hw2 hmm hmb
  go_loopw [3, 11] (fun s3 s11 wx => ∃ k : Nat, k ≤ n ∧ s11 = .int .i64 k ∧ Hid (MapB wx mb (k * 21) (mF (hadB q n k))) ∧ Hid (RowsO wx (mb + 1) s3 ((ofs q n k).map NI)) ∧ Hid (Below w.heap.size w wx)) (fun _ s11 _ => n - (intOf s11).toNat)
  case atStart => exact ⟨0, Nat.zero_le _, rfl, HM0.out, RowsO.none_, HB0.out⟩
  case round =>
    clear HM0 HB0
    obtain ⟨k, hkn, rfl, HRW, HRO, HBB⟩ := hrel
    by_cases hlt : k < n
    · have i1 : (k : Int) < (n : Int) := by omega
      have HK := Lib.hid hlt
      have hwk : (Lit.int .i64 (k : Int)).wf = true := WalkArith.wf_i64 (by have := HL.out; omega)
      have hlk := HRW.out.look Try.underlying91 hwk
      rw [mF_nat] at hlk
      have HWK := Lib.hid hwk
      have ui : Hid (wrap64 ((k : Int) + 1) = ((k + 1 : Nat) : Int)) := rw20 (by have := HL.out; omega)
      have HHL : Hid (mb < wr.heap.size) := HRW.out.lt
      cases hh : hadB q n k k with
      | true =>
        rw [hh] at hlk
        have HM2 : Hid (MapB wr mb ((k + 1) * 21) (mF (hadB q n (k + 1)))) := (HRW.out.mono (by omega)).congr (fun y => by unfold mF; rw [hadB_skip HP.out hlt hh])
        have HO2 : Hid (ofs q n (k + 1) = ofs q n k) := ofs_old hh
        clear hkn hlt hwk hh
        go_wp2_with fail
        go_roundw
        case rel => exact ⟨k + 1, HK.out, by first | rfl | rw [ui.out], HM2.out, by unfold Hid; rw [HO2.out]; exact HRO.out, HBB.out⟩
        case measure => (try rw [ui.out]); have := HK.out; simp [intOf]; omega
      | false =>
        rw [hh] at hlk
        obtain ⟨ad, hA, hpa⟩ := HPA.out k hlt
        have HCA : Hid (∀ X, X < n → ∀ u, Below w.heap.size w u → u.cell? (ad.add X) = some (.int .i64 (q X : Nat))) := fun X hX u hu => by
          obtain ⟨ad', e, h⟩ := HPA.out X hX
          rw [hA] at e
          injection e with e
          subst e
          exact h u hu
        subst hA
        obtain ⟨p1, p2, p3, p4⟩ := per_is HP.out hlt
        have HPE : Hid (ofs q n (k + 1) = ofs q n k ++ [cyc q n k]) := ofs_new hh
        obtain ⟨L, hL⟩ : ∃ L, L = per q n k := ⟨_, rfl⟩
        have HLL : Hid (1 ≤ L ∧ L ≤ n ∧ L = per q n k) := ⟨by omega, by omega, hL⟩
        have HGO : Hid (∀ j, j < L → midB q n k j (it q j k) = false) := fun j hj => midB_go HP.out hlt hh (by omega)
        have HNE : Hid (∀ j, 1 ≤ j → j < L → it q j k ≠ k) := fun j h1 h2 => p4 j h1 (by omega)
        have HEQ : Hid (it q L k = k) := by unfold Hid; rw [hL]; exact p3
        have HEN : Hid (∀ x, midB q n k L x = hadB q n (k + 1) x) := fun x => by rw [hL]; exact midB_end q n k x
        have HSTR : Hid (MapB (wr.alloc (.cells #[.int .i64 (k : Nat)] 3)) mb (k * 21) (mF (midB q n k 0))) := (HRW.out.below ((Below.refl _ _).alloc (Nat.le_refl _) _) HHL.out).congr (fun y => by unfold mF; rw [midB_zero])
        have HM1 : Hid (∀ x, midB q n k 1 x = (midB q n k 0 x || x == k)) := fun x => midB_succ q n k 0 x
        have hpk := HCA.out k hlt
        have HPK := Lib.hid hpk
        have HBA : Hid (Below w.heap.size w (wr.alloc (.cells #[.int .i64 (k : Nat)] 3))) := HBB.out.alloc HBB.out.size _
        have HKA : Hid (Kept mb wr (wr.alloc (.cells #[.int .i64 (k : Nat)] 3))) := (Kept.refl mb wr).below ((Below.refl _ _).alloc (Nat.le_refl _) _)
        have HMX : Hid (k * 21 < maxLen) := by have := HL.out; unfold Hid maxLen; omega
        have hkn2 : (k : Int) < (n : Int) := i1
        clear hkn hlt hwk hpa p1 p2 p3 p4 hL hh hpk
        obtain ⟨wo, rfl⟩ : ∃ wo : World, wo = wr := ⟨_, rfl⟩
        go_wp2_with (first
          | (at_mapUpdate; go_must (refine wpList_mapb_store _ rfl _ _ _ _ rfl Try.underlying91 mb (k * 21) _ rfl HSTR.out HMX.out (k : Nat) true rfl rfl HWK.out ?_); intro w5 hm5 hg5
             have HC5 := Lib.hid (cy_map (own_new wo (.int .i64 (k : Nat)) 3) HKA.out HBA.out HMB.out HHL.out hg5)
             have HM5 : Hid (MapB w5 mb (k * 21 + 1) (mF (midB q n k 1))) := hm5.congr (fun y => mF_upd HM1.out y)
             have hc5 := HPK.out w5 HC5.out.2.2
             clear hm5 hg5)
          | fail)
        clear hc5 hlk hkn2 i1
        go_loopw [6, 7] (fun s6 s7 wx => ∃ (j X : Nat), s7 = .int .i64 X ∧ Hid (1 ≤ j ∧ j ≤ L) ∧ Hid (rlen s6 = j) ∧ Hid (X = it q j k) ∧ Hid (Own wx wo.heap.size 3 s6 ((NI ((List.range j).map fun i => it q i k)).map (.int .i64))) ∧ Hid (MapB wx mb (k * 21 + j) (mF (midB q n k j))) ∧ Hid (Kept mb wo wx) ∧ Hid (Below w.heap.size w wx)) (fun s6 _ _ => n - rlen s6)
        case atStart => exact ⟨1, q k, rfl, ⟨Nat.le_refl _, HLL.out.1⟩, rfl, rfl, HC5.out.1, HM5.out, HC5.out.2.1, HC5.out.2.2⟩
        case round =>
          clear HC5 HM5 HSTR HBA HKA
          obtain ⟨j, X, rfl, HJL, HRL, HX, HOW, HMJ, HKP, HBJ⟩ := hrel
          have hXn : X < n := by rw [HX.out]; exact it_lt HP.out HK.out j
          by_cases hlj : j < L
          · have b1 : ((X : Int) != (k : Int)) = true := by
              have := HNE.out j HJL.out.1 hlj
              rw [← HX.out] at this
              simp
              omega
            have HJ := Lib.hid hlj
            have i2 : (X : Int) < (n : Int) := by omega
            have hwx : (Lit.int .i64 (X : Int)).wf = true := WalkArith.wf_i64 (by have := HL.out; omega)
            have HWX := Lib.hid hwx
            have HPX := Lib.hid (HCA.out X hXn)
            have HNL : Hid ((((NI ((List.range j).map fun i => it q i k)).map (Value.int .i64)).length + 1) * 8 ≤ 140737488355328 ∧ ((NI ((List.range j).map fun i => it q i k)).map (Value.int .i64)).length + 1 ≤ maxLen) := by
              have h1 := HLL.out
              have h2 := HL.out
              unfold Hid maxLen
              simp [NI]
              omega
            have HSZ : Hid (wo.heap.size ≤ (wr.alloc (.cells #[.int .i64 (X : Nat)] 3)).heap.size) := by
              have := HKP.out.1
              unfold Hid
              simp
              omega
            have HST : Hid ((NI ((List.range (j + 1)).map fun i => it q i k)).map (Value.int .i64) = (NI ((List.range j).map fun i => it q i k)).map (.int .i64) ++ [.int .i64 (X : Nat)]) := by
              unfold Hid; rw [range_snoc, NI_snoc, HX.out]
            have HML : Hid (((List.range (j + 1)).map fun i => it q i k).length = j + 1) := by unfold Hid; simp
            have HMS : Hid (∀ x, midB q n k (j + 1) x = (midB q n k j x || x == X)) := fun x => by rw [midB_succ, HX.out]
            have HMY : Hid (k * 21 + j < maxLen) := by have := HL.out; have := HLL.out; have := HK.out; unfold Hid maxLen; omega
            clear hXn hlj hwx
            go_wp2_with (first
              | (at_mapUpdate; go_must (refine wpList_mapb_store _ rfl _ _ _ _ rfl Try.underlying91 mb (k * 21 + j) _ rfl HS8.out.1 HMY.out (X : Nat) true rfl rfl HWX.out ?_); intro w9 hm9 hg9
                 have HC9 := Lib.hid (cy_map HO8.out HS8.out.2.1 HS8.out.2.2 HMB.out HHL.out hg9)
                 have HM9 : Hid (MapB w9 mb (k * 21 + j + 1) (mF (midB q n k (j + 1)))) := hm9.congr (fun y => mF_upd HMS.out y)
                 have hc9 := HPX.out w9 HC9.out.2.2
                 clear hm9 hg9)
              | (at_builtin; go_must (refine wpList_pushY _ rfl _ _ 36 3 8 elem_ints rfl wo.heap.size _ _ rfl (Own.alloc' HOW.out _) (.int .i64 (X : Nat)) _ _ rfl (cell_new1 _ _ _) rfl HNL.out.1 HNL.out.2 HSZ.out ?_); intro v8 w8 hown8 hgr8
                 have HS8 := Lib.hid (cy_push HOW.out HMJ.out HKP.out HBJ.out HMB.out HHL.out hgr8)
                 rw [← HST.out] at hown8
                 have HO8 := Lib.hid hown8
                 have HR8 : Hid (rlen v8 = j + 1) := by obtain ⟨A9, c9, e9⟩ := own_ints_slice hown8 HML.out; unfold Hid; rw [e9]; rfl
                 clear hown8 hgr8)
              | fail)
            go_roundw
            case rel => exact ⟨j + 1, q X, rfl, ⟨by omega, HJ.out⟩, HR8.out, by unfold Hid; rw [HX.out]; rfl, HC9.out.1, HM9.out, HC9.out.2.1, HC9.out.2.2⟩
            case measure =>
              have h1 := HR8.out
              have h2 := HRL.out
              have h3 := HJ.out
              have h4 := HLL.out
              rw [h1, h2]
              omega
          · have hje : j = L := by have := HJL.out; omega
            have b1 : ((X : Int) != (k : Int)) = false := by
              have : X = k := by rw [HX.out, hje]; exact HEQ.out
              rw [this]; simp
            have HM2 : Hid (MapB wr mb ((k + 1) * 21) (mF (hadB q n (k + 1)))) := (HMJ.out.mono (by have := HJL.out; have := HLL.out; have := HL.out; omega)).congr (fun y => by unfold mF; rw [hje, HEN.out])
            have HRO1 : Hid (RowsO wr (mb + 1) u3 ((ofs q n k).map NI)) := HRO.out.kept HKP.out (Nat.lt_succ_self _)
            obtain ⟨A7, c7, hA7⟩ := own_ints_slice HOW.out (show ((List.range j).map fun i => it q i k).length = j by simp)
            subst hA7
            have HO6 : Hid ((ofs q n (k + 1)).map NI = (ofs q n k).map NI ++ [NI ((List.range j).map fun i => it q i k)]) := by
              unfold Hid; rw [HPE.out, List.map_append, hje, HLL.out.2.2]; rfl
            obtain ⟨vals, hv1, hv2, hv3⟩ := HRO1.out
            have HV1 := Lib.hid hv1
            have HV2 := Lib.hid hv2
            have HV3 := Lib.hid hv3
            have HVL : Hid ((vals.length + 1) * 24 ≤ 140737488355328 ∧ vals.length + 1 ≤ maxLen) := by
              have h1 := ofs_len q n k
              have h2 := HK.out
              have h3 := HL.out
              rw [List.length_map] at hv2
              unfold Hid maxLen
              omega
            have HSZ : Hid (mb + 1 ≤ (wr.alloc (.cells #[.slice A7 j c7] 36)).heap.size) := by
              have h1 := HKP.out.1
              have h2 := HHL.out
              unfold Hid
              simp
              omega
            clear hv1 hv2 hv3 hje hXn hlj
            go_wp2_with (first
              | (at_builtin; go_must (refine wpList_pushY _ rfl _ _ 35 36 24 elem_rows rfl (mb + 1) _ _ rfl (Own.alloc' HV1.out _) (.slice A7 j c7) _ _ rfl (cell_new1 _ _ _) rfl HVL.out.1 HVL.out.2 HSZ.out ?_); intro v9 w9 hown9 hgr9
                 have HAL := Lib.hid ((Below.refl wr.heap.size wr).alloc (Nat.le_refl _) (.cells #[.slice A7 j c7] 36))
                 have HP9 : Hid (RowsO w9 (mb + 1) v9 ((ofs q n k).map NI ++ [NI ((List.range j).map fun i => it q i k)])) := RowsO.push (Own.alloc' HV1.out _) HV2.out (fun i u r h1 h2 => (HV3.out i u r h1 h2).below HAL.out (Nat.le_refl _)) ((HOW.out.base (Nat.succ_le_of_lt HHL.out)).below HAL.out (Nat.le_refl _)) hown9 hgr9
                 have HBG := Lib.hid ((Below.refl (mb + 1) _).grown hgr9 HSZ.out (Own.alloc' HV1.out (.cells #[.slice A7 j c7] 36)).block)
                 have HR9 : Hid (MapB w9 mb ((k + 1) * 21) (mF (hadB q n (k + 1)))) := (HM2.out.below HAL.out HM2.out.lt).below HBG.out (Nat.lt_succ_self _)
                 have HB9 : Hid (Below w.heap.size w w9) := (HBJ.out.alloc HBJ.out.size _).trans (HBG.out.mono (Nat.le_succ_of_le HMB.out))
                 clear hown9 hgr9)
              | fail)
            go_roundw
            case rel => exact ⟨k + 1, HK.out, by first | rfl | rw [ui.out], HR9.out, by unfold Hid; rw [HO6.out]; exact HP9.out, HB9.out⟩
            case measure => (try rw [ui.out]); have := HK.out; simp [intOf]; omega
    · have hke : k = n := by omega
      have i1 : ¬ (k : Int) < (n : Int) := by omega
      have HFIN : Hid (RowsO wr w.heap.size u3 R) := by
        unfold Hid
        rw [HRR.out]
        have h := HRO.out
        rw [hke] at h
        exact h.base (Nat.le_succ_of_le HMB.out)
      clear hkn hlt hke
      go_wp2_with fail
      go_ret
      exact ⟨u3, rfl, HFIN.out, HBB.out⟩
end Go.Proofs.Ytkffakekakhgdaa
