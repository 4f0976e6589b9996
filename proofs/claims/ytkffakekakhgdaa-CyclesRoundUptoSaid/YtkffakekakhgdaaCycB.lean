/- cycles.Of, walked at every list. No condition but the list's own size. -/
import Derived.Test.YtkffakekakhgdaaCycA
import Derived.Deep.DeepCutAuto
namespace Go.Proofs.Ytkffakekakhgdaa
open Go.ChangeShapes Go.WideShapes Go.ChangeAt Go.RowKit
set_option linter.unusedVariables false

/-- The rounds of an order, as lists of numbers. -/
def ofR (p : List Int) : List (List Int) := (ofs (qf p) p.length p.length).map NI
def OfOut (p : List Int) (w : World) (e : Ending) (w' : World) : Prop :=
  ∃ v, e = .returned (.tuple #[v, .int .i64 0]) ∧ RowsO w' w.heap.size v (ofR p) ∧ Below w.heap.size w w'
theorem rw20 {p : Nat} (h : p < 300) : wrap64 ((p : Int) + 1) = ((p + 1 : Nat) : Int) := by unfold wrap64; omega
theorem NI_snoc (l : List Nat) (x : Nat) : (NI (l ++ [x])).map (Value.int .i64) = (NI l).map (.int .i64) ++ [.int .i64 (x : Nat)] := by simp [NI]
theorem range_snoc (q : Nat → Nat) (k j : Nat) : (List.range (j + 1)).map (fun i => it q i k) = (List.range j).map (fun i => it q i k) ++ [it q j k] := by
  rw [List.range_succ, List.map_append]; rfl
set_option maxRecDepth 20000 in
set_option maxHeartbeats 4000000 in
theorem of_bad (p : List Int) (A : Option Addr) (c : Nat) (w : World) (hs : Seg w w.heap.size A (p.map (.int .i64))) (hm : p.length ≤ 9223372036854775807) (hp : permB p = false) :
    Calls Try.prog 24 #[.slice A p.length c] w fun e w' => e = .returned (.tuple #[.slice none 0 0, .int .i64 1]) ∧ Below w.heap.size w w' := by
  have hr := pright_any p A c w hs hm
  rw [hp] at hr
  have HR := Lib.hid hr
  clear hr hs hp
  go_enter Try.func24, Try.ntmps24
  go_wp2_with fail
  refine (HR.out).mono ?_
  rintro e w1 ⟨rfl, hb⟩
  have HB := Lib.hid hb
  clear hb
  go_wp2_with fail
  go_ret2
  exact ⟨rfl, HB.out⟩
theorem add_block (ad : Addr) (k : Nat) : (ad.add k).block = ad.block := by unfold Addr.add; split <;> rfl
theorem of_step {hb n X B0 : Nat} {w wo wr w9 : World} {v : Value} {xs : List Value} {f : Nat → Bool} {o : Obj} (HOW : Own wr wo.heap.size 3 v xs) (HRJ : wr.rowIs hb 4 n (fun x => .bool (f x))) (HKP : Kept hb wo wr) (HBJ : Below B0 w wr)
    (hB0 : B0 ≤ hb) (hhb : hb < wo.heap.size) (hgr : ((wr.setCell ⟨hb, X, none⟩ (.bool true)).alloc o).grownBy w9 v.ownBlock) {g : Nat → Bool} (hg : ∀ x, g x = (f x || x == X)) :
    w9.rowIs hb 4 n (fun x => .bool (g x)) ∧ Kept hb wo w9 ∧ Below B0 w w9 := by
  have h1 : Own ((wr.setCell ⟨hb, X, none⟩ (.bool true)).alloc o) wo.heap.size 3 v xs := Own.alloc' (HOW.far (show (⟨hb, X, none⟩ : Addr).block < wo.heap.size from hhb) _) _
  have hk1 := HKP.setHb X (.bool true)
  have hk2 : Kept hb wo ((wr.setCell ⟨hb, X, none⟩ (.bool true)).alloc o) := hk1.below ((Below.refl _ _).alloc (Nat.le_refl _) _)
  have hbel := (Below.refl wo.heap.size ((wr.setCell ⟨hb, X, none⟩ (.bool true)).alloc o)).grown hgr hk2.1 h1.block
  refine ⟨?_, hk2.grown h1 hgr, ?_⟩
  · have r1 := HRJ.set X (.bool true)
    have r2 := rowIs_below r1 ((Below.refl (wr.setCell ⟨hb, X, none⟩ (.bool true)).heap.size _).alloc (Nat.le_refl _) o) r1.lt
    refine (rowIs_below r2 hbel hhb).congr fun i hi => ?_
    rw [hg]
    by_cases e : i = X
    · subst e; simp
    · rw [if_neg e]; simp [e]
  · have b1 := HBJ.setCell (p := ⟨hb, X, none⟩) hB0 (.bool true)
    exact (b1.alloc (by have := hk1.1; omega) o).trans (hbel.mono (by omega))
theorem own_ints_slice {w : World} {base m : Nat} {v : Value} {l : List Nat} (h : Own w base 3 v ((NI l).map (.int .i64))) (hl : l.length = m) : ∃ A c, v = .slice A m c := by
  obtain ⟨A, c, h1⟩ := own_slice h
  simp [NI, hl] at h1
  exact ⟨A, c, h1⟩
set_option maxRecDepth 20000 in
set_option maxHeartbeats 4000000 in
theorem of_good (p : List Int) (A : Option Addr) (c : Nat) (w : World) (hs : Seg w w.heap.size A (p.map (.int .i64))) (hp : permB p = true) :
    Calls Try.prog 24 #[.slice A p.length c] w fun e w' => OfOut p w e w' := by
  have hl20 := permB_len hp
  have hr := pright_any p A c w hs (by omega)
  rw [hp] at hr
  have HR := Lib.hid hr
  have HS := Lib.hid hs
  have HP := Lib.hid (permF_of hp)
  have HQ : Hid (∀ k, k < p.length → pat p k = ((qf p k : Nat) : Int)) := fun k hk => (qf_cast hp hk).symm
  obtain ⟨R, hR⟩ : ∃ R, R = ofR p := ⟨_, rfl⟩
  unfold OfOut
  rw [← hR]
  unfold ofR at hR
  have HRR := Lib.hid hR
  obtain ⟨q, hq⟩ : ∃ q, q = qf p := ⟨_, rfl⟩
  rw [← hq] at HP HQ HRR
  obtain ⟨n, hn⟩ : ∃ n, n = p.length := ⟨_, rfl⟩
  rw [← hn] at HP HQ HRR HR hl20 ⊢
  have HN := Lib.hid hn
  have HL := Lib.hid hl20
  have hmk := run_make_row' (P := Try.prog) 66 4 (.bool false) 1 Try.underlying66 (by kernel_rfl) rfl .i64 .i64 n (by omega) (by omega)
  clear hr hs hp hR hq hn hl20
  go_enter Try.func24, Try.ntmps24
  go_wp2_with fail
  refine (HR.out).mono ?_
  rintro e w1 ⟨rfl, hb1⟩
  have HB1 := Lib.hid hb1
  clear hb1 HR
  go_wp2_with fail
  clear hmk
  have HHB : Hid (w.heap.size ≤ w1.heap.size) := HB1.out.size
  have HROW : Hid ((w1.alloc (.cells (madeCells #[.bool false] n) 4)).rowIs w1.heap.size 4 n (fun x => .bool (hadB q n 0 x))) := World.rowIs_made w1 (.bool false) n 4
  have HBA : Hid (Below w.heap.size w (w1.alloc (.cells (madeCells #[.bool false] n) 4))) := HB1.out.alloc HHB.out _
  generalize hw2 : w1.alloc (.cells (madeCells #[.bool false] n) 4) = w2 at *
  clear hw2
  generalize w1.heap.size = hb at *
  clear HB1
  go_loopw [5, 17] (fun s5 s17 wx => ∃ k : Nat, k ≤ n ∧ s17 = .int .i64 k ∧ Hid (wx.rowIs hb 4 n (fun x => .bool (hadB q n k x))) ∧ Hid (RowsO wx (hb + 1) s5 ((ofs q n k).map NI)) ∧ Hid (Below w.heap.size w wx)) (fun _ s17 _ => n - (intOf s17).toNat)
  case atStart => exact ⟨0, Nat.zero_le _, rfl, HROW.out, RowsO.none_, HBA.out⟩
  case round =>
    clear HROW HBA
    obtain ⟨k, hkn, rfl, HRW, HRO, HBB⟩ := hrel
    by_cases hlt : k < n
    · have i1 : (k : Int) < (n : Int) := by omega
      have HK := Lib.hid hlt
      obtain ⟨lim, l1, l2, l3, l4, l5⟩ := lim_ex HP.out hlt
      have HL2 := Lib.hid l2
      have HL3 := Lib.hid l3
      have HL4 := Lib.hid l4
      have HL5 := Lib.hid l5
      have HLN := Lib.hid l1
      have HHL : Hid (hb < wr.heap.size) := HRW.out.lt
      clear l1 l2 l3 l4 l5 hkn hlt
      obtain ⟨wo, rfl⟩ : ∃ wo : World, wo = wr := ⟨_, rfl⟩
      go_wp2_with fail
      clear i1
      go_loopw [7, 8] (fun s7 s8 wx => ∃ (j X : Nat), j ≤ lim ∧ s8 = .int .i64 X ∧ Hid (rlen s7 = j) ∧ Hid (X = it q j k) ∧ Hid (Own wx wo.heap.size 3 s7 ((NI ((List.range j).map fun i => it q i k)).map (.int .i64))) ∧ Hid (wx.rowIs hb 4 n (fun x => .bool (midB q n k j x))) ∧ Hid (Kept hb wo wx) ∧ Hid (Below w.heap.size w wx)) (fun s7 _ _ => n - rlen s7)
      case atStart => exact ⟨0, k, Nat.zero_le _, rfl, rfl, rfl, Own.none_, HRW.out.congr (fun i _ => by rw [midB_zero]), Kept.refl _ _, HBB.out⟩
      case round =>
        obtain ⟨j, X, hjl, rfl, HRL, HX, HOW, HRJ, HKP, HBJ⟩ := hrel
        have hXn : X < n := by rw [HX.out]; exact it_lt HP.out HK.out j
        have hc := HRJ.out.cell hXn
        have hf := HRJ.out.frozen X
        have i2 : (X : Int) < (n : Int) := by omega
        by_cases hlj : j < lim
        · have HJ := Lib.hid hlj
          rw [show midB q n k j X = false by rw [HX.out]; exact HL2.out j hlj] at hc
          have hpn : X < p.length := by rw [← HN.out]; exact hXn
          obtain ⟨ad, hA, had, hca0⟩ := HS.out.pat hpn
          have HCA : Hid (∀ u, Below w.heap.size w u → u.cell? (ad.add X) = some (.int .i64 (q X : Nat))) := fun u hu => by
            rw [hu.cell (p := ad.add X) (by rw [add_block]; exact had), hca0, HQ.out X hXn]
          subst hA
          have HNL : Hid ((((NI ((List.range j).map fun i => it q i k)).map (Value.int .i64)).length + 1) * 8 ≤ 140737488355328 ∧ ((NI ((List.range j).map fun i => it q i k)).map (Value.int .i64)).length + 1 ≤ maxLen) := by
            have h1 := HLN.out
            have h2 := HL.out
            unfold Hid maxLen
            simp [NI]
            omega
          have HFAR : Hid (Own (wr.setCell ⟨hb, X, none⟩ (.bool true)) wo.heap.size 3 u7 ((NI ((List.range j).map fun i => it q i k)).map (.int .i64))) := HOW.out.far (show (⟨hb, X, none⟩ : Addr).block < wo.heap.size from HHL.out) _
          have HSZ : Hid (wo.heap.size ≤ ((wr.setCell ⟨hb, X, none⟩ (.bool true)).alloc (.cells #[.int .i64 (X : Nat)] 3)).heap.size) := by
            have := HKP.out.1
            unfold Hid
            simp
            omega
          have HCN : Hid (((wr.setCell ⟨hb, X, none⟩ (.bool true)).alloc (.cells #[.int .i64 (X : Nat)] 3)).cell? ⟨wr.heap.size, 0, none⟩ = some (.int .i64 (X : Nat))) := by
            have h := cell_new1 (wr.setCell ⟨hb, X, none⟩ (.bool true)) (.int .i64 (X : Nat)) 3
            rwa [World.size_setCell] at h
          have HST : Hid ((NI ((List.range (j + 1)).map fun i => it q i k)).map (Value.int .i64) = (NI ((List.range j).map fun i => it q i k)).map (.int .i64) ++ [.int .i64 (X : Nat)]) := by
            unfold Hid; rw [range_snoc, NI_snoc, HX.out]
          have HML : Hid (((List.range (j + 1)).map fun i => it q i k).length = j + 1) := by unfold Hid; simp
          have HMS : Hid (∀ x, midB q n k (j + 1) x = (midB q n k j x || x == X)) := fun x => by rw [midB_succ, HX.out]
          clear hca0 had hXn hjl hlj hpn
          go_wp2_with (first
            | (at_builtin; go_must (refine wpList_pushY _ rfl _ _ 36 3 8 elem_ints rfl wo.heap.size _ _ rfl (Own.alloc' HFAR.out _) (.int .i64 (X : Nat)) _ _ rfl HCN.out rfl HNL.out.1 HNL.out.2 HSZ.out ?_); intro v9 w9 hown9 hgr9
               have HS9 := Lib.hid (of_step HOW.out HRJ.out HKP.out HBJ.out HHB.out HHL.out hgr9 HMS.out)
               rw [← HST.out] at hown9
               have HO9 := Lib.hid hown9
               have HR9 : Hid (rlen v9 = j + 1) := by obtain ⟨A9, c9, e9⟩ := own_ints_slice hown9 HML.out; unfold Hid; rw [e9]; rfl
               have hca9 := HCA.out _ HS9.out.2.2
               clear hown9 hgr9)
            | fail)
          have HXN : Hid (q X = it q (j + 1) k) := by unfold Hid; rw [HX.out]; rfl
          go_roundw
          case rel => exact ⟨j + 1, q X, HJ.out, rfl, HR9.out, HXN.out, HO9.out, HS9.out.1, HS9.out.2.1, HS9.out.2.2⟩
          case measure =>
            have h1 := HR9.out
            have h2 := HRL.out
            have h3 := HJ.out
            have h4 := HLN.out
            rw [h1, h2]
            omega
        · have hje : j = lim := by omega
          have HB4 : Hid (∀ x, midB q n k j x = hadB q n (k + 1) x) := fun x => by rw [hje]; exact HL4.out x
          have HO5 : Hid (ofs q n (k + 1) = if j = 0 then ofs q n k else ofs q n k ++ [(List.range j).map fun j => it q j k]) := by rw [hje]; exact HL5.out
          rw [show midB q n k j X = true by rw [HX.out, hje]; exact HL3.out] at hc
          have HRX : Hid (wr.rowIs hb 4 n (fun x => .bool (hadB q n (k + 1) x))) := HRJ.out.congr fun i _ => by rw [HB4.out]
          have HRO1 : Hid (RowsO wr (hb + 1) u5 ((ofs q n k).map NI)) := HRO.out.kept HKP.out (Nat.lt_succ_self _)
          obtain ⟨A7, c7, hA7⟩ := own_ints_slice HOW.out (show ((List.range j).map fun i => it q i k).length = j by simp)
          subst hA7
          have ui : Hid (wrap64 ((k : Int) + 1) = ((k + 1 : Nat) : Int)) := rw20 (by have := HK.out; have := HL.out; omega)
          clear hje hjl hlj hXn
          by_cases hj0 : j = 0
          · subst hj0
            have HO6 : Hid (ofs q n (k + 1) = ofs q n k) := HO5.out.trans (if_pos rfl)
            go_wp2_with fail
            go_roundw
            case rel => exact ⟨k + 1, HK.out, by first | rfl | rw [ui.out], HRX.out, by unfold Hid; rw [HO6.out]; exact HRO1.out, HBJ.out⟩
            case measure => (try rw [ui.out]); have := HK.out; simp [intOf]; omega
          · have HO6 : Hid ((ofs q n (k + 1)).map NI = (ofs q n k).map NI ++ [NI ((List.range j).map fun i => it q i k)]) := by
              unfold Hid; rw [HO5.out, if_neg hj0, List.map_append]; rfl
            have j1 : (0 : Int) < (j : Int) := by omega
            obtain ⟨vals, hv1, hv2, hv3⟩ := HRO1.out
            have HV1 := Lib.hid hv1
            have HV2 := Lib.hid hv2
            have HV3 := Lib.hid hv3
            have HVL : Hid ((vals.length + 1) * 24 ≤ 140737488355328 ∧ vals.length + 1 ≤ maxLen) := by
              have h1 := ofs_len q n k
              have h2 := HK.out
              have h3 := HL.out
              rw [List.length_map] at hv2
              unfold Hid maxLen
              omega
            have HSZ : Hid (hb + 1 ≤ (wr.alloc (.cells #[.slice A7 j c7] 36)).heap.size) := by
              have h1 := HKP.out.1
              have h2 := HHL.out
              unfold Hid
              simp
              omega
            clear hv1 hv2 hv3 hj0
            go_wp2_with (first
              | (at_builtin; go_must (refine wpList_pushY _ rfl _ _ 35 36 24 elem_rows rfl (hb + 1) _ _ rfl (Own.alloc' HV1.out _) (.slice A7 j c7) _ _ rfl (cell_new1 _ _ _) rfl HVL.out.1 HVL.out.2 HSZ.out ?_); intro v9 w9 hown9 hgr9
                 have HAL := Lib.hid ((Below.refl wr.heap.size wr).alloc (Nat.le_refl _) (.cells #[.slice A7 j c7] 36))
                 have HP9 : Hid (RowsO w9 (hb + 1) v9 ((ofs q n k).map NI ++ [NI ((List.range j).map fun i => it q i k)])) := RowsO.push (Own.alloc' HV1.out _) HV2.out (fun i u r h1 h2 => (HV3.out i u r h1 h2).below HAL.out (Nat.le_refl _)) ((HOW.out.base (Nat.succ_le_of_lt HHL.out)).below HAL.out (Nat.le_refl _)) hown9 hgr9
                 have HBG := Lib.hid ((Below.refl (hb + 1) _).grown hgr9 HSZ.out (Own.alloc' HV1.out (.cells #[.slice A7 j c7] 36)).block)
                 have HR9 : Hid (w9.rowIs hb 4 n (fun x => .bool (hadB q n (k + 1) x))) := rowIs_below (rowIs_below HRX.out HAL.out HRX.out.lt) HBG.out (Nat.lt_succ_self _)
                 have HB9 : Hid (Below w.heap.size w w9) := (HBJ.out.alloc HBJ.out.size _).trans (HBG.out.mono (Nat.le_succ_of_le HHB.out))
                 clear hown9 hgr9)
              | fail)
            go_roundw
            case rel => exact ⟨k + 1, HK.out, by first | rfl | rw [ui.out], HR9.out, by unfold Hid; rw [HO6.out]; exact HP9.out, HB9.out⟩
            case measure => (try rw [ui.out]); have := HK.out; simp [intOf]; omega
    · have hke : k = n := by omega
      have i1 : ¬ (k : Int) < (n : Int) := by omega
      have HFIN : Hid (RowsO wr w.heap.size u5 R) := by
        unfold Hid
        rw [HRR.out, ← hke]
        rw [hke]
        have h := HRO.out
        rw [hke] at h
        exact h.base (Nat.le_succ_of_le HHB.out)
      clear hkn hlt hke
      go_wp2_with fail
      go_ret2
      exact ⟨u5, rfl, HFIN.out, HBB.out⟩
theorem of_any (p : List Int) (A : Option Addr) (c : Nat) (w : World) (hs : Seg w w.heap.size A (p.map (.int .i64))) (hp : permB p = true) :
    Calls Try.prog 24 #[.slice A p.length c] w fun e w' => ∃ A' c', e = .returned (.tuple #[.slice A' (ofR p).length c', .int .i64 0]) ∧ RowsO w' w.heap.size (.slice A' (ofR p).length c') (ofR p) ∧ Below w.heap.size w w' :=
  (of_good p A c w hs hp).mono fun e w' ⟨v, h1, h2, h3⟩ => by
    obtain ⟨vals, h4, h5, h6⟩ := h2
    obtain ⟨A', c', rfl⟩ := own_slice h4
    rw [h5] at h1 h4
    exact ⟨A', c', h1, ⟨vals, h4, h5, h6⟩, h3⟩
end Go.Proofs.Ytkffakekakhgdaa
