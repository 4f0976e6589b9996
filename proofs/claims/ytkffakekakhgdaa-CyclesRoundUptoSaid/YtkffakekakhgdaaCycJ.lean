/- cycles.Round, walked. No condition but the list's own size. -/
import Derived.Test.YtkffakekakhgdaaCycH
import Derived.Deep.DeepCutAuto
namespace Go.Proofs.Ytkffakekakhgdaa
open Go.ChangeShapes Go.WideShapes Go.ChangeAt Go.RowKit
set_option linter.unusedVariables false

/-- Rows of the call's own, the last one of which is still being made. -/
def RecW (w : World) (base B : Nat) (v : Value) (R : List (List Int)) (r : List Int) (vals : List Value) (lv : Value) : Prop :=
  Own w base 36 v (vals ++ [lv]) ∧ vals.length = R.length ∧ (∀ (i : Nat) (u : Value) (r' : List Int), vals[i]? = some u → R[i]? = some r' → Own w base 3 u (r'.map (.int .i64)) ∧ ∀ g, u.ownBlock = some g → g < B) ∧
    Own w B 3 lv (r.map (.int .i64)) ∧ (∀ g, v.ownBlock = some g → g < B) ∧ base ≤ B ∧ B ≤ w.heap.size
theorem RecW.rows {w : World} {base B : Nat} {v lv : Value} {R : List (List Int)} {r : List Int} {vals : List Value} (h : RecW w base B v R r vals lv) : RowsO w base v (R ++ [r]) := by
  obtain ⟨h1, h2, h3, h4, _, h6, _⟩ := h
  refine ⟨vals ++ [lv], h1, by simp [h2], fun i u r' hu hr => ?_⟩
  by_cases e : i < vals.length
  · rw [List.getElem?_append_left e] at hu
    rw [List.getElem?_append_left (by omega)] at hr
    exact (h3 i u r' hu hr).1
  · have hi : i = vals.length := by
      have := (List.getElem?_eq_some_iff.1 hu).1
      simp at this
      omega
    subst hi
    rw [List.getElem?_append_right (Nat.le_refl _), Nat.sub_self] at hu
    rw [h2, List.getElem?_append_right (Nat.le_refl _), Nat.sub_self] at hr
    simp at hu hr
    subst hu
    subst hr
    exact h4.base h6
theorem RecW.new {w w' : World} {base : Nat} {v v' : Value} {R : List (List Int)} {vals : List Value} (h1 : Own w base 36 v vals) (h2 : vals.length = R.length) (h3 : ∀ (i : Nat) (u : Value) (r : List Int), vals[i]? = some u → R[i]? = some r → Own w base 3 u (r.map (.int .i64)))
    (ho : Own w' base 36 v' (vals ++ [.slice none 0 0])) (hg : w.grownBy w' v.ownBlock) (hb : base ≤ w'.heap.size) : RecW w' base w'.heap.size v' R [] vals (.slice none 0 0) :=
  ⟨ho, h2, fun i u r hu hr => ⟨(h3 i u r hu hr).apart h1 ints_ne hg, ((h3 i u r hu hr).apart h1 ints_ne hg).lt⟩, Own.none_, ho.lt, hb, Nat.le_refl _⟩
theorem RecW.open {w : World} {base B : Nat} {v lv : Value} {R : List (List Int)} {r : List Int} {vals : List Value} (h : RecW w base B v R r vals lv) : ∃ g cap, v = .slice (some ⟨g, 0, none⟩) (R.length + 1) cap ∧ base ≤ g ∧ g < B ∧ w.cell? ⟨g, R.length, none⟩ = some lv ∧ w.frozen? ⟨g, R.length, none⟩ = false := by
  obtain ⟨h1, h2, _, _, h5, _, _⟩ := h
  obtain ⟨A, c, e⟩ := own_slice h1
  subst e
  rw [List.length_append, h2] at h1 h5 ⊢
  obtain ⟨g, rfl, hg⟩ := h1.at_ (by simp)
  refine ⟨g, c, rfl, hg, h5 g rfl, ?_, h1.frozen _⟩
  exact h1.cell (by rw [← h2, List.getElem?_append_right (Nat.le_refl _)]; simp)
theorem RecW.add {w w1 : World} {base B g cap : Nat} {lv lv' : Value} {R : List (List Int)} {r : List Int} {vals : List Value} {x : Int} {o : Obj} (h : RecW w base B (.slice (some ⟨g, 0, none⟩) (R.length + 1) cap) R r vals lv)
    (ho : Own w1 B 3 lv' ((r ++ [x]).map (.int .i64))) (hgr : (w.alloc o).grownBy w1 lv.ownBlock) :
    RecW (w1.setCell ⟨g, R.length, none⟩ lv') base B (.slice (some ⟨g, 0, none⟩) (R.length + 1) cap) R (r ++ [x]) vals lv' ∧ w1.cell? ⟨g, R.length, none⟩ = some lv ∧ w1.frozen? ⟨g, R.length, none⟩ = false ∧ Below B w w1 := by
  obtain ⟨h1, h2, h3, h4, h5, h6, h7⟩ := h
  have hgB : g < B := h5 g rfl
  have hbel : Below B w w1 := ((Below.refl B w).alloc h7 o).grown hgr (by simp; omega) (Own.alloc' h4 o).block
  have hv1 : Own w1 base 36 (.slice (some ⟨g, 0, none⟩) (R.length + 1) cap) (vals ++ [lv]) := h1.stand fun b e => by
    have e2 : g = b := by simpa [Value.ownBlock] using e
    subst e2
    exact hbel.block _ hgB
  have hset := hv1.set R.length lv'
  have es : (vals ++ [lv]).set R.length lv' = vals ++ [lv'] := by rw [← h2, List.set_append_right _ _ (Nat.le_refl _), Nat.sub_self]; rfl
  rw [es] at hset
  have keepI : ∀ {b : Nat} {u : Value} {xs : List Value}, Own w1 b 3 u xs → Own (w1.setCell ⟨g, R.length, none⟩ lv') b 3 u xs := fun {b u xs} hu => hu.stand fun k e => by
    refine Go.Deep.blk_setCell_other _ _ _ _ fun e2 => ?_
    have e3 : k = g := e2
    subst e3
    exact hu.ne hv1 ints_ne k e rfl
  refine ⟨⟨hset, h2, fun i u r' hu hr => ?_, keepI ho, h5, h6, by rw [World.size_setCell]; exact Nat.le_trans h7 hbel.size⟩, ?_, hv1.frozen _, hbel⟩
  · obtain ⟨a1, a2⟩ := h3 i u r' hu hr
    exact ⟨keepI (a1.stand fun b e => hbel.block _ (a2 b e)), a2⟩
  · exact hv1.cell (by rw [← h2, List.getElem?_append_right (Nat.le_refl _)]; simp)
theorem own_sliceN {w : World} {base : Nat} {e : TypeId} {v : Value} {xs : List Value} (h : Own w base e v xs) : ∃ A n c, v = .slice A n c := by
  obtain ⟨A, c, h1⟩ := own_slice h
  exact ⟨A, _, c, h1⟩
/-- What Round answers. -/
def roundR (f : List Int) : List Int := outR (recR f f.length).1
set_option maxRecDepth 20000 in
set_option maxHeartbeats 4000000 in
theorem round_bad (f : List Int) (A : Option Addr) (c : Nat) (w : World) (hs : Seg w w.heap.size A (f.map (.int .i64))) (hm : f.length ≤ 9223372036854775807) (hp : permB f = false) :
    Calls Try.prog 28 #[.slice A f.length c] w fun e w' => SOut w w' e [] 1 := by
  have hr := pright_any f A c w hs hm
  rw [hp] at hr
  have HR := Lib.hid hr
  clear hr hs hp
  go_enter Try.func28, Try.ntmps28
  go_wp2_with fail
  refine (HR.out).mono ?_
  rintro e w1 ⟨rfl, hb⟩
  have HB := Lib.hid hb
  clear hb
  go_wp2_with fail
  go_ret2
  exact SOut.nil_ HB.out
theorem rec_len (f : List Int) : ∀ j, j ≤ f.length → (recR f j).1.length ≤ j
  | 0, _ => Nat.le_refl _
  | j + 1, h => by
    have ih := rec_len f j (by omega)
    rw [recR_succ h]
    unfold recS
    split
    · rw [List.length_append]; simp; omega
    · rw [List.length_append, List.length_dropLast]; simp; omega
set_option maxRecDepth 20000 in
set_option maxHeartbeats 4000000 in
theorem round_good (f : List Int) (A : Option Addr) (c : Nat) (w : World) (hs : Seg w w.heap.size A (f.map (.int .i64))) (hp : permB f = true) :
    Calls Try.prog 28 #[.slice A f.length c] w fun e w' => SOut w w' e (roundR f) 0 := by
  have hl20 := permB_len hp
  have hr := pright_any f A c w hs (by omega)
  rw [hp] at hr
  have HR := Lib.hid hr
  have HS := Lib.hid hs
  have HPM := Lib.hid hp
  have HNN : Hid (∀ x ∈ f, 0 ≤ x) := fun x hx => ((permB_mem hp).1 hx).1
  have HBD : Hid (∀ k, k < f.length → 0 ≤ pat f k ∧ pat f k < 20) := fun k hk => by have := permB_range hp hk; omega
  obtain ⟨res, hres⟩ : ∃ res, res = roundR f := ⟨_, rfl⟩
  rw [← hres]
  have HRES := Lib.hid hres
  obtain ⟨n, hn⟩ : ∃ n, n = f.length := ⟨_, rfl⟩
  rw [← hn] at HR hl20 ⊢
  have HN := Lib.hid hn
  have HL := Lib.hid hl20
  clear hr hs hp hres hn hl20
  go_enter Try.func28, Try.ntmps28
  go_wp2_with fail
  refine (HR.out).mono ?_
  rintro e w1 ⟨rfl, hb1⟩
  have HB1 := Lib.hid hb1
  clear hb1 HR
  go_wp2_with fail
  go_loopw [4, 5, 13] (fun s4 s5 s13 wx => ∃ (j : Nat) (m : Int), j ≤ n ∧ s13 = .int .i64 j ∧ s5 = .int .i64 m ∧ Hid (m = (recR f j).2) ∧ Hid ((j = 0 ∧ s4 = .slice none 0 0) ∨ ∃ R0 r0 B vals lv, (recR f j).1 = R0 ++ [r0] ∧ RecW wx w1.heap.size B s4 R0 r0 vals lv) ∧ Hid (Below w1.heap.size w1 wx)) (fun _ _ s13 _ => n - (intOf s13).toNat)
  case atStart => exact ⟨0, -1, Nat.zero_le _, rfl, rfl, rfl, Or.inl ⟨rfl, rfl⟩, Below.refl _ _⟩
  case round =>
    obtain ⟨j, m, hjn, rfl, rfl, HMO, HREC, HBJ⟩ := hrel
    have HRO : Hid (RowsO wr w1.heap.size u4 (recR f j).1) := by
      rcases HREC.out with ⟨h1, h2⟩ | ⟨R0, r0, B, vals, lv, h1, h2⟩
      · subst h1; rw [h2]; exact RowsO.none_
      · unfold Hid; rw [h1]; exact h2.rows
    by_cases hlt : j < n
    · have i1 : (j : Int) < (n : Int) := by omega
      have hjf : j < f.length := by rw [← HN.out]; exact hlt
      obtain ⟨ad, rfl, _, hc0⟩ := (HS.out.below (HB1.out.trans (HBJ.out.mono HB1.out.size))).pat hjf
      have hbd := HBD.out j hjf
      have hrl := rec_len f j (by omega)
      have HNW : Hid (m < pat f j → recR f (j + 1) = ((recR f j).1 ++ [[pat f j]], pat f j)) := fun h => recR_new hjf (by rw [← HMO.out]; exact h)
      have HOL : Hid (¬ m < pat f j → recR f (j + 1) = ((recR f j).1.dropLast ++ [(recR f j).1.getLastD [] ++ [pat f j]], (recR f j).2)) := fun h => recR_old hjf (by rw [← HMO.out]; exact h)
      obtain ⟨x, hx⟩ : ∃ x, x = pat f j := ⟨_, rfl⟩
      rw [← hx] at hc0 hbd HNW HOL
      have HXB := Lib.hid hbd
      have HK := Lib.hid hlt
      have HRL : Hid ((recR f j).1.length ≤ 20) := by have := HL.out; unfold Hid; omega
      have ui : Hid (wrap64 ((j : Int) + 1) = ((j + 1 : Nat) : Int)) := rw20 (by have := HL.out; omega)
      clear hbd hrl hx hjf hlt hjn
      obtain ⟨wo, rfl⟩ : ∃ wo : World, wo = wr := ⟨_, rfl⟩
      go_upto_if 19 with (fail)
      go_cut [4, 5] (fun s4 s5 wx => ∃ (R0 : List (List Int)) (r0 : List Int) (B : Nat) (vals : List Value) (lv : Value), Hid (RecW wx w1.heap.size B s4 R0 r0 vals lv) ∧ Hid (recR f (j + 1) = (R0 ++ [r0 ++ [x]], intOf s5)) ∧ (∃ z, s5 = .int .i64 z) ∧ Hid (Below w1.heap.size w1 wx) ∧ Hid (R0.length ≤ 20))
      case first =>
        by_cases hmx : m < x
        · have i2 : m < x := hmx
          have HST : Hid (recR f (j + 1) = ((recR f j).1 ++ [[] ++ [x]], x)) := HNW.out hmx
          obtain ⟨vals, hv1, hv2, hv3⟩ := HRO.out
          have HV1 := Lib.hid hv1
          have HV2 := Lib.hid hv2
          have HV3 := Lib.hid hv3
          have HVL : Hid ((vals.length + 1) * 24 ≤ 140737488355328 ∧ vals.length + 1 ≤ maxLen) := by
            have h1 := HRL.out
            unfold Hid maxLen
            omega
          have HSZ : Hid (w1.heap.size ≤ (wo.alloc (.cells #[.slice none 0 0] 36)).heap.size) := by
            have h1 := HBJ.out.size
            unfold Hid
            simp
            omega
          clear hv1 hv2 hv3 hmx
          go_wp2_with (first
            | (at_builtin; go_must (refine wpList_pushY _ rfl _ _ 35 36 24 elem_rows rfl w1.heap.size _ _ rfl (Own.alloc' HV1.out _) (.slice none 0 0) _ _ rfl (cell_new1 _ _ _) rfl HVL.out.1 HVL.out.2 HSZ.out ?_); intro v9 w9 hown9 hgr9
               have HAL := Lib.hid ((Below.refl wo.heap.size wo).alloc (Nat.le_refl _) (.cells #[.slice none 0 0] 36))
               have HBG := Lib.hid ((Below.refl w1.heap.size _).grown hgr9 HSZ.out (Own.alloc' HV1.out (.cells #[.slice none 0 0] 36)).block)
               have HB9 : Hid (Below w1.heap.size w1 w9) := (HBJ.out.alloc HBJ.out.size _).trans HBG.out
               have HR9 := Lib.hid (RecW.new (Own.alloc' HV1.out _) HV2.out (fun i u r h1 h2 => (HV3.out i u r h1 h2).below HAL.out (Nat.le_refl _)) hown9 hgr9 HB9.out.size)
               clear hown9 hgr9)
            | fail)
          go_meet
          exact ⟨_, [], _, vals, _, HR9.out, HST.out, ⟨x, rfl⟩, HB9.out, HRL.out⟩
        · have i2 : ¬ m < x := hmx
          rcases HREC.out with ⟨h1, h2⟩ | ⟨R0, r0, B, vals, lv, h1, h2⟩
          · exfalso
            have h3 := HMO.out
            rw [h1] at h3
            have h4 : m = -1 := h3
            have h5 := HXB.out
            omega
          · have HST : Hid (recR f (j + 1) = (R0 ++ [r0 ++ [x]], m)) := by
              have h := HOL.out hmx
              unfold Hid
              rw [h, h1, ← HMO.out]
              simp [List.getLastD_eq_getLast?]
            have HR2 := Lib.hid h2
            have HR0 : Hid (R0.length ≤ 20) := by have := HRL.out; rw [h1, List.length_append] at this; unfold Hid; omega
            clear h1 h2 hmx
            go_wp2_with fail
            go_meet
            exact ⟨R0, r0, B, vals, lv, HR2.out, HST.out, ⟨m, rfl⟩, HBJ.out, HR0.out⟩
      case rest =>
        obtain ⟨R0, r0, B, vals, lv, HRW, HST, ⟨z, rfl⟩, HBC, HR0⟩ := hcut
        obtain ⟨g, cap, rfl, hg1, hg2, hcg, hfg⟩ := HRW.out.open
        obtain ⟨N, hN⟩ : ∃ N, N = R0.length := ⟨_, rfl⟩
        obtain ⟨N1, hN1⟩ : ∃ N1, N1 = R0.length + 1 := ⟨_, rfl⟩
        have k1 : (N1 : Int) - 1 = (N : Int) := by omega
        have k2 : wrap64 (N : Int) = (N : Int) := by have := HR0.out; unfold wrap64; omega
        have k3 : (N : Int) < (N1 : Int) := by omega
        have k4 : N < N1 := by omega
        have HG := Lib.hid (And.intro hg1 hg2)
        have HRZ : Hid (recR f (j + 1) = (R0 ++ [r0 ++ [x]], z)) := HST.out
        have HRW2 := HRW
        rw [← hN1] at HRW ⊢
        rw [← hN] at hcg hfg
        have HNN2 : Hid (N = R0.length ∧ N1 = R0.length + 1) := ⟨hN, hN1⟩
        have HOW : Hid (Own wc B 3 lv (r0.map (.int .i64))) := HRW2.out.2.2.2.1
        have HBS : Hid (B ≤ wc.heap.size ∧ w1.heap.size ≤ B) := ⟨HRW2.out.2.2.2.2.2.2, HRW2.out.2.2.2.2.2.1⟩
        have HRLN : Hid ((r0.map (Value.int .i64)).length ≤ 20) := by
          have h := (recI_is HNN.out (j + 1) (by have := HK.out; have := HN.out; omega)).flat
          rw [HRZ.out] at h
          have h2 := congrArg List.length h
          simp at h2
          have := HL.out
          have := HK.out
          unfold Hid
          rw [List.length_map]
          omega
        have HVL : Hid (((r0.map (Value.int .i64)).length + 1) * 8 ≤ 140737488355328 ∧ (r0.map (Value.int .i64)).length + 1 ≤ maxLen) := by
          have h1 := HRLN.out
          unfold Hid maxLen
          omega
        have HSZ : Hid (B ≤ (wc.alloc (.cells #[.int .i64 x] 3)).heap.size) := by
          have h1 := HBS.out.1
          unfold Hid
          simp
          omega
        clear hg1 hg2 hN hN1 HRW
        go_wp2_with (first
          | (at_builtin; go_must (refine wpList_pushY _ rfl _ _ 36 3 8 elem_ints rfl B _ _ rfl (Own.alloc' HOW.out _) (.int .i64 x) _ _ rfl (cell_new1 _ _ _) rfl HVL.out.1 HVL.out.2 HSZ.out ?_); intro v9 w9 hown9 hgr9
             obtain ⟨A9, n9, c9, rfl⟩ := own_sliceN hown9
             have hadd := RecW.add (x := x) (lv' := .slice A9 n9 c9) HRW2.out (by rw [List.map_append]; exact hown9) hgr9
             rw [← HNN2.out.2, ← HNN2.out.1] at hadd
             have HADD := Lib.hid hadd
             have hc9 := hadd.2.1
             have hf9 := hadd.2.2.1
             clear hown9 hgr9 hadd)
          | fail)
        have HBE : Hid (Below w1.heap.size w1 (w9.setCell ⟨g, N, none⟩ (.slice A9 n9 c9))) := ((HBC.out.trans (HADD.out.2.2.2.mono HBS.out.2))).setCell HG.out.1 _
        go_roundw
        case rel => exact ⟨j + 1, z, HK.out, by first | rfl | rw [ui.out], rfl, by unfold Hid; rw [HRZ.out], Or.inr ⟨R0, r0 ++ [x], B, vals, .slice A9 n9 c9, by rw [HRZ.out], HADD.out.1⟩, HBE.out⟩
        case measure => (try rw [ui.out]); have := HK.out; simp [intOf]; omega
    · have hje : j = n := by omega
      have i1 : ¬ (j : Int) < (n : Int) := by omega
      have hri := recI_is HNN.out f.length (Nat.le_refl _)
      rw [List.take_length] at hri
      have HRO2 : Hid (RowsO wr w1.heap.size u4 (recR f f.length).1) := by have h := HRO.out; rw [hje, HN.out] at h; exact h
      obtain ⟨vals, hv1, hv2, hv3⟩ := HRO2.out
      obtain ⟨A4, c4, e4⟩ := own_slice hv1
      rw [hv2] at e4
      subst e4
      have hlen := rec_len f f.length (Nat.le_refl _)
      have hb := back_any (recR f f.length).1 A4 c4 wr (RowsO.read ⟨vals, hv1, hv2, hv3⟩) (by have := HL.out; have := HN.out; omega) (by rw [hri.flat]; have := HL.out; have := HN.out; omega)
      have hbr : backR (recR f f.length).1 = (res, 0) := by
        unfold backR
        rw [hri.flat, if_pos HPM.out, HRES.out]
        rfl
      rw [hbr] at hb
      have HBK := Lib.hid hb
      obtain ⟨M, hM⟩ : ∃ M, M = (recR f f.length).1.length := ⟨_, rfl⟩
      rw [← hM] at HBK ⊢
      clear hb hbr hlen hv1 hv2 hv3 hri hje hlt hjn hM
      go_wp2_with fail
      refine HBK.out.mono ?_
      rintro e w9 ⟨A9, c9, rfl, h9, hs9, hb9⟩
      have HB9 := Lib.hid ((HB1.out.trans (HBJ.out.mono HB1.out.size)).trans (hb9.mono (HB1.out.trans (HBJ.out.mono HB1.out.size)).size))
      have HS9 := Lib.hid (And.intro h9 hs9)
      clear hb9 h9 hs9
      go_wp2_with fail
      go_ret2
      exact ⟨A9, c9, rfl, HS9.out.1, HS9.out.2, HB9.out⟩
end Go.Proofs.Ytkffakekakhgdaa
