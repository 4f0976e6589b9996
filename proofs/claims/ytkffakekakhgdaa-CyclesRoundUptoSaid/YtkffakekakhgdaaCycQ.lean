/- cycles.Flat, walked. No condition but the list's own size. -/
import Derived.Test.YtkffakekakhgdaaCycL
import Derived.Test.YtkffakekakhgdaaSeq2
import Derived.BigQuiet
import Derived.IntWalk
namespace Go.Proofs.Ytkffakekakhgdaa
open Go.ChangeShapes Go.WideShapes Go.ChangeAt Go.RowKit Go.Sort
set_option linter.unusedVariables false

theorem ofs_row {q : Nat → Nat} {n : Nat} (h : PermF q n) (hn : n ≤ 20) {r : List Nat} (hr : r ∈ ofs q n n) : 1 ≤ r.length ∧ r.length ≤ 20 ∧ r.Nodup ∧ mx r ∈ r := by
  obtain ⟨i, hi, rfl, _⟩ := mem_ofs hr
  obtain ⟨h1, h2, _⟩ := per_is h hi
  refine ⟨by rw [cyc_len]; exact h1, by rw [cyc_len]; omega, cyc_nodup h hi, (mx_is fun e => ?_).1⟩
  have := cyc_len q n i
  rw [e] at this
  simp at this
  omega
theorem turned_row {q : Nat → Nat} {n : Nat} (h : PermF q n) (hn : n ≤ 20) {r : List Int} (hr : r ∈ (ofs q n n).map (fun r => NI (turned r))) : 0 < r.length ∧ r.length ≤ 20 ∧ 0 ≤ pat r 0 ∧ pat r 0 ≤ 1000 := by
  obtain ⟨r0, hr0, rfl⟩ := List.mem_map.1 hr
  obtain ⟨i, hi, rfl, _⟩ := mem_ofs hr0
  obtain ⟨h1, h2, _⟩ := turned_cyc h hi
  have h3 := Rel.lt h hi h2
  have h4 := cyc_hd h h3
  have h5 := cyc_len q n (mx (cyc q n i))
  obtain ⟨p1, p2, _⟩ := per_is h h3
  rw [h1]
  generalize cyc q n (mx (cyc q n i)) = z at *
  cases z with
  | nil => simp at h5; omega
  | cons a t =>
    have e : pat (NI (a :: t)) 0 = (a : Int) := rfl
    have e2 : hd (a :: t) = a := rfl
    have e3 : (NI (a :: t)).length = (a :: t).length := List.length_map ..
    rw [e, e3]
    omega
theorem mixT_sum {q : Nat → Nat} {n : Nat} (h : PermF q n) (hn : n ≤ 20) {Y : List Rc} (hp : (Y.map (·.2.1)).Perm ((ofs q n n).map (fun r => NI (turned r)))) : ∀ x ∈ Y, 0 < x.2.1.length ∧ x.2.1.length ≤ 20 ∧ 0 ≤ pat x.2.1 0 ∧ pat x.2.1 0 ≤ 1000 := fun x hx =>
  turned_row h hn (hp.mem_iff.1 (List.mem_map.2 ⟨x, hx, rfl⟩))
theorem vlen_le (Y : List Rc) (hy : ∀ x ∈ Y, x.2.1.length ≤ 20) : ∀ k, k ≤ Y.length → vlen (Y.map fun x => ((x.1, x.2.1.map (Value.int .i64), x.2.2) : Vw)) k ≤ 20 * k := by
  intro k
  induction k with
  | zero => intro _; exact Nat.le_refl _
  | succ k ih =>
    intro hk
    have h1 := ih (by omega)
    have h2 := hy _ (List.getElem_mem (show k < Y.length by omega))
    rw [vlen]
    have e : ((Y.map fun x => ((x.1, x.2.1.map (Value.int .i64), x.2.2) : Vw)).getD k (none, [], 0)).2.1.length = (Y[k]'(by omega)).2.1.length := by
      rw [List.getD_eq_getElem?_getD, List.getElem?_map, List.getElem?_eq_getElem (show k < Y.length by omega)]
      simp
    rw [e]
    omega
theorem good_rows {w : World} {base c1 : Nat} {A1 : Option Addr} {L : List Rc} (hown : Own w base 36 (.slice A1 L.length c1) (L.map rcV)) (hl3 : ∀ x ∈ L, Own w base 3 (rcV x) (x.2.1.map (.int .i64)))
    (hs : ∀ x ∈ L, 0 < x.2.1.length ∧ x.2.1.length ≤ 20 ∧ 0 ≤ pat x.2.1 0 ∧ pat x.2.1 0 ≤ 1000) : ∀ g, A1 = some ⟨g, 0, none⟩ → ∀ x ∈ L, Good w g x := by
  intro g hg x hx
  obtain ⟨h1, h2, h3, h4⟩ := hs x hx
  have ho := hl3 x hx
  obtain ⟨A2, c2, e2, _, hsg⟩ := ho.res
  injection e2 with e3 e4 e5
  obtain ⟨ad, e6, h5, h6⟩ := hsg.pat h1
  rw [← e3] at e6
  obtain ⟨g2, e7, _⟩ := ho.at_ h1
  rw [e6] at e7
  injection e7 with e7
  have e8 : ad.add 0 = ad := by rw [e7]; simp [Addr.add]
  rw [e8] at h6
  refine ⟨h1, ⟨h3, h4⟩, ad, e6, h5, fun e => ?_, h6⟩
  refine ho.ne hown ints_ne g ?_ (by rw [hg]; rfl)
  show (Value.slice x.1 x.2.1.length x.2.2).ownBlock = some g
  rw [e6, e7]
  rw [e7] at e
  show some g2 = some g
  rw [show g2 = g from e]
theorem sorted_vws {w w' : World} {base c1 : Nat} {A1 : Option Addr} {L Y : List Rc} (hown : Own w base 36 (.slice A1 L.length c1) (L.map rcV)) (hl3 : ∀ x ∈ L, Own w base 3 (rcV x) (x.2.1.map (.int .i64)))
    (hown' : Own w' base 36 (.slice A1 L.length c1) (Y.map rcV)) (hp : Y.Perm L) (hgr : ∀ g, A1 = some ⟨g, 0, none⟩ → w.grownBy w' (some g)) : VwsOk w' w'.heap.size A1 (Y.map fun x => ((x.1, x.2.1.map (Value.int .i64), x.2.2) : Vw)) := by
  refine ⟨?_, fun v hv => ?_⟩
  · obtain ⟨A2, c2, e2, _, h⟩ := hown'.res
    injection e2 with e3 e4 e5
    rw [e3]
    have e : (Y.map fun x => ((x.1, x.2.1.map (Value.int .i64), x.2.2) : Vw)).map vwV = Y.map rcV := by
      rw [List.map_map]
      exact List.map_congr_left fun x _ => by simp [vwV, rcV]
    rw [e]; exact h
  · obtain ⟨x, hx, rfl⟩ := List.mem_map.1 hv
    refine ⟨?_, ints_cell _⟩
    have hxl := hp.mem_iff.1 hx
    have hL0 := List.length_pos_of_mem hxl
    obtain ⟨g, e1, _⟩ := hown.at_ hL0
    subst e1
    have h1 := (hl3 x hxl).apart hown ints_ne (w' := w') (hgr g rfl)
    obtain ⟨A2, c2, e2, _, h⟩ := h1.res
    injection e2 with e3 e4 e5
    show Seg w' w'.heap.size x.1 _
    rw [e3]; exact h
set_option maxRecDepth 20000 in
set_option maxHeartbeats 4000000 in
theorem flat_bad (p : List Int) (A : Option Addr) (c : Nat) (w : World) (hs : Seg w w.heap.size A (p.map (.int .i64))) (hm : p.length ≤ 9223372036854775807) (hp : permB p = false) :
    Calls Try.prog 27 #[.slice A p.length c] w fun e w' => SOut w w' e [] 1 := by
  have HO := Lib.hid (of_bad p A c w hs hm hp)
  clear hs hm hp
  go_enter Try.func27, Try.ntmps27
  go_wp2_with fail
  refine HO.out.mono ?_
  rintro e w1 ⟨rfl, hb⟩
  have HB := Lib.hid hb
  clear hb
  go_wp2_with fail
  go_ret2
  exact SOut.nil_ HB.out
set_option maxRecDepth 20000 in
set_option maxHeartbeats 4000000 in
theorem flat_good (p : List Int) (A : Option Addr) (c : Nat) (w : World) (hs : Seg w w.heap.size A (p.map (.int .i64))) (hp : permB p = true) :
    Calls Try.prog 27 #[.slice A p.length c] w fun e w' => SOut w w' e (flatR p) 0 := by
  have HO := Lib.hid (of_any p A c w hs hp)
  have h20 := permB_len hp
  have HP := Lib.hid (permF_of hp)
  obtain ⟨res, hres⟩ : ∃ res, res = flatR p := ⟨_, rfl⟩
  rw [← hres]
  unfold flatR at hres
  have HRES := Lib.hid hres
  obtain ⟨M, hM⟩ : ∃ M, M = (ofR p).length := ⟨_, rfl⟩
  rw [← hM] at HO
  obtain ⟨R, hR⟩ : ∃ R, R = ofR p := ⟨_, rfl⟩
  rw [← hR] at HO hM
  unfold ofR at hR
  obtain ⟨q, hq⟩ : ∃ q, q = qf p := ⟨_, rfl⟩
  rw [← hq] at HP HRES hR
  obtain ⟨n, hn⟩ : ∃ n, n = p.length := ⟨_, rfl⟩
  rw [← hn] at HP HRES hR h20 HO ⊢
  rw [← mixT_zero] at hR
  rw [hR] at HO
  have HM : Hid (M = (ofs q n n).length ∧ M ≤ 20) := by
    have := ofs_len q n n
    unfold Hid
    rw [hM, hR, mixT_len]
    omega
  have HL := Lib.hid h20
  clear hs hp h20 hres hR hM hq hn
  go_enter Try.func27, Try.ntmps27
  go_wp2_with fail
  refine HO.out.mono ?_
  rintro e w1 ⟨A1, c1, rfl, hr, hb⟩
  have HB := Lib.hid hb
  have HR := Lib.hid hr
  clear hb hr HO
  go_wp2_with fail
  go_loopw [19] (fun s19 wx => ∃ k : Nat, k ≤ M ∧ s19 = .int .i64 k ∧ Hid (RowsO wx w.heap.size (.slice A1 M c1) (mixT q n k)) ∧ Hid (Below w.heap.size w wx)) (fun s19 _ => M - (intOf s19).toNat)
  case atStart => exact ⟨0, Nat.zero_le _, rfl, HR.out, HB.out⟩
  case round =>
    clear HR HB
    obtain ⟨k, hk, rfl, HRW, HBB⟩ := hrel
    by_cases hlt : k < M
    · have i1 : (k : Int) < (M : Int) := by omega
      have hko : k < (ofs q n n).length := by rw [← HM.out.1]; exact hlt
      have hrt := HRW.out.at_ (k := k) (by rw [mixT_len]; exact hko)
      have hown := HRW.out
      obtain ⟨vals, hv1, hv2, _⟩ := hown
      obtain ⟨g, hA1, hg⟩ := hv1.at_ (by omega)
      obtain ⟨ad, A2, c2, hA, hc, how⟩ := hrt
      rw [mixT_at hko] at hc how
      obtain ⟨f1, f2, f3, f4⟩ := ofs_row HP.out HL.out (List.getElem_mem hko)
      have HST : Hid ((mixT q n k).set k (NI (turned ((ofs q n n)[k]))) = mixT q n (k + 1)) := mixT_set hko
      generalize (ofs q n n)[k] = rr at *
      have HG : Hid (ad = ⟨g, 0, none⟩) := by rw [hA] at hA1; injection hA1
      have HRW2 := HRW
      rw [hA] at HRW2
      have HSG : Hid (Seg wr wr.heap.size A2 ((NI rr).map (.int .i64))) := by
        obtain ⟨A3, c3, e3, _, h3⟩ := how.res
        injection e3 with e4 e5 e6
        rw [e4]; exact h3
      have hcap : rr.length ≤ c2 := by
        obtain ⟨A3, c3, e3, h3, _⟩ := how.res
        injection e3 with e4 e5 e6
        clear e4 e5
        subst e6
        simpa using h3
      have hnl : (NI rr).length = rr.length := List.length_map ..
      rw [hnl] at hc
      obtain ⟨x, hx⟩ : ∃ x, x = mx rr := ⟨_, rfl⟩
      obtain ⟨a, ha⟩ : ∃ a, a = rr.idxOf x := ⟨_, rfl⟩
      have hal : a < rr.length := by rw [ha]; exact List.idxOf_lt_length_of_mem (by rw [hx]; exact f4)
      have HMX : Hid (∀ u, Seg u u.heap.size A2 ((NI rr).map (.int .i64)) → Calls Try.prog 59 #[.slice A2 rr.length c2] u fun e w' => e = .returned (.int .i64 (x : Nat)) ∧ u = w') := fun u hu => by rw [hx]; exact max_any rr A2 c2 _ u hu (by omega) (by omega)
      have HIX : Hid (∀ u, Seg u u.heap.size A2 ((NI rr).map (.int .i64)) → Calls Try.prog 58 #[.slice A2 rr.length c2, .int .i64 (x : Nat)] u fun e w' => e = .returned (.int .i64 (a : Nat)) ∧ u = w') := fun u hu => by rw [ha]; exact index_any rr x A2 c2 _ u hu (by rw [hx]; exact f4) f3 (by omega)
      have hst := fun u => slice_to (A := A2) (n := rr.length) (x := a) (c := c2) (a : Int) rfl (by omega) u
      obtain ⟨B2, hsf, hseg2⟩ := slice_from2 A2 (ys := NI rr) (l := a) (c := c2) (a : Int) rfl (by rw [hnl]; omega) (by rw [hnl]; omega)
      have hdl : ((NI rr).drop a).length = rr.length - a := by rw [List.length_drop, hnl]
      rw [hnl, hdl] at hsf
      have HTU : Hid ((NI rr).drop a ++ (NI rr).take a = NI (turned rr)) := by
        unfold Hid turned
        rw [← hx, ← ha]
        show (NI rr).drop a ++ (NI rr).take a = (rr.drop a ++ rr.take a).map (fun (x : Nat) => (x : Int))
        rw [List.map_append, List.map_drop, List.map_take]
      have HDL : Hid (((NI rr).drop a).length = rr.length - a ∧ ((NI rr).take a).length = a ∧ rr.length ≤ 20 ∧ a < rr.length) := ⟨hdl, by rw [List.length_take, hnl]; omega, f2, hal⟩
      have HSE := Lib.hid hseg2
      have HCC : Hid (∀ u, Seg u u.heap.size A2 ((NI rr).map (.int .i64)) → ∀ c t, Calls Try.prog 60 #[.slice (some ⟨u.heap.size, 0, none⟩) 2 c] (u.alloc (.cells #[.slice B2 (rr.length - a) (c2 - a), .slice A2 a c2] t)) fun e w' => ∃ A9 n9 c9, e = .returned (.slice A9 n9 c9) ∧ Own w' u.heap.size 3 (.slice A9 n9 c9) ((NI (turned rr)).map (.int .i64)) ∧ Below u.heap.size (u.alloc (.cells #[.slice B2 (rr.length - a) (c2 - a), .slice A2 a c2] t)) w') := fun u hu c t => by
        have h := conc_two B2 A2 ((NI rr).drop a) ((NI rr).take a) (c2 - a) c2 c u (HSE.out u _ hu) (by rw [List.map_take]; exact hu.pre a) (by have := HDL.out; omega) (rr.length - a) a HDL.out.1.symm HDL.out.2.1.symm t
        rw [HTU.out] at h
        refine h.mono ?_
        rintro e w' ⟨v, h1, h2, h3⟩
        obtain ⟨A9, c9, rfl⟩ := own_slice h2
        exact ⟨A9, _, c9, h1, h2, h3⟩
      have uk : Hid (wrap64 ((k : Int) + 1) = ((k + 1 : Nat) : Int)) := rw20 (by have := HM.out.2; omega)
      have HK := Lib.hid hlt
      have HKL : Hid (ad.add k = ⟨g, k, none⟩) := by rw [HG.out]; unfold Hid Addr.add; split <;> simp
      have hblk := block_lt hc
      have HBL := Lib.hid hblk
      have HCE := Lib.hid hc
      have HGE := Lib.hid hg
      have i2 : (a : Int) ≤ (rr.length : Int) := by omega
      have i3 : (a : Int) ≤ (c2 : Int) := by omega
      have hl2 : rr.length ≤ 20 := f2
      clear how hv1 hv2 hA1 f1 f2 f3 f4 hnl hx ha hseg2 hdl hlt hk hko hcap hblk hg
      subst hA
      go_wp2_with (first
        | (go_at_call 59; refine (HMX.out _ HSG.out).mono ?_; rintro e w' ⟨rfl, rfl⟩)
        | (go_at_call 58; refine (HIX.out _ HSG.out).mono ?_; rintro e w' ⟨rfl, rfl⟩)
        | fail)
      --LOOK1
      go_upto_region 8 with (fail)
      --LOOK2
      have HKEEP : Hid (∀ w', Below wr.heap.size wr w' → w'.cell? (ad.add k) = some (.slice A2 rr.length c2) ∧ Below wr.heap.size wr w') := fun w' h => ⟨(h.cell HBL.out).trans HCE.out, h⟩
      have HD : Hid (Below wr.heap.size wr wr.drew) := below_drewN (Below.refl _ _) 1
      have HSGD : Hid (Seg wr.drew wr.drew.heap.size A2 ((NI rr).map (.int .i64))) := HSG.out.drew
      have HFZ : Hid (∀ w', Below wr.heap.size wr w' → w'.frozen? (ad.add k) = false) := fun w' h => by
        have h2 := HRW2.out.below h
        rw [HG.out] at h2
        obtain ⟨vals', h3, _⟩ := h2
        rw [HKL.out]
        exact h3.frozen k
      clear HMX HIX
      go_region_held3 (fun _ => True)
        (first
          | trivial)
        (first
          | (go_at_call 60; go_split_ands; refine (HCC.out _ HSGD.out _ _).mono ?_; rintro e u1 ⟨A9, n9, c9, rfl, hp⟩; have HN := Lib.hid hp; have HX : Hid (Below wr.heap.size wr u1) := (HD.out.alloc (Nat.le_refl _) _).trans (hp.2.mono (Nat.le_refl _)); have hcu := (HKEEP.out _ HX.out).1; have hfu := HFZ.out _ HX.out; clear hp))
      all_goals
        have HRN : Hid (RowsO (u1.setCell (ad.add k) (.slice A9 n9 c9)) w.heap.size (.slice (some ad) M c1) (mixT q n (k + 1))) := by
          have h2 := HRW2.out.below HX.out
          have h3 := HN.out.1.base (base' := w.heap.size) HBB.out.size
          unfold Hid
          rw [HKL.out]
          rw [HG.out] at h2 ⊢
          rw [← HST.out]
          exact h2.set h3
        have HBN : Hid (Below w.heap.size w (u1.setCell (ad.add k) (.slice A9 n9 c9))) := by
          have h4 := HBB.out.trans (HX.out.mono HBB.out.size)
          unfold Hid
          rw [HKL.out]
          exact h4.setCell (p := ⟨g, k, none⟩) HGE.out _
        clear hcu hfu hsf hst hc i2 i3 hl2
        generalize u1.setCell (ad.add k) (.slice A9 n9 c9) = u2 at *
        go_wp2_with fail
        go_roundw
        case rel => exact ⟨k + 1, HK.out, by first | rfl | rw [uk.out], HRN.out, HBN.out⟩
        case measure => (try rw [uk.out]); have := HK.out; simp [intOf]; omega
    · have hke : k = M := by omega
      have i1 : ¬ (k : Int) < (M : Int) := by omega
      have hre := HRW.out
      rw [hke, HM.out.1, mixT_all] at hre
      obtain ⟨L, hl1, hl2, hl3⟩ := hre.split
      have hLM : L.length = M := by
        have := congrArg List.length hl2
        rw [List.length_map, List.length_map] at this
        rw [HM.out.1]; exact this
      rw [← HM.out.1, ← hLM] at hl1
      have hpp : (L.map (·.2.1)).Perm ((ofs q n n).map (fun r => NI (turned r))) := by rw [hl2]
      have hsm := mixT_sum HP.out HL.out hpp
      have hsrt := rsort_any L A1 c1 w.heap.size wr hl1 HBB.out.size (good_rows hl1 hl3 hsm) (by have := HM.out.2; omega)
      rw [hLM] at hsrt
      have HSRT := Lib.hid hsrt
      have HPP := Lib.hid hpp
      have HL1 := Lib.hid hl1
      have HL3 := Lib.hid hl3
      have HLM := Lib.hid hLM
      clear hsrt hpp hl1 hl2 hl3 hsm hre hke hk hlt hLM
      go_wp2_with fail
      refine HSRT.out.mono ?_
      rintro e w2 ⟨rfl, Y, hy1, hy2, hy3, hy4, hy5, hy6⟩
      have HB2 : Hid (Below w.heap.size w w2) := HBB.out.trans hy4
      have hyp : (Y.map (·.2.1)).Perm ((ofs q n n).map (fun r => NI (turned r))) := (hy1.map _).trans HPP.out
      have hys := mixT_sum HP.out HL.out hyp
      have hYM : Y.length = M := by rw [← HLM.out]; exact hy1.length_eq
      rw [← HLM.out] at hy3
      have hvw := sorted_vws HL1.out HL3.out hy3 hy1 hy5
      have hcc := conc_ints A1 (Y.map fun x => ((x.1, x.2.1.map (Value.int .i64), x.2.2) : Vw)) c1 w2.heap.size w2 hvw (Nat.le_refl _) (by rw [List.length_map, hYM]; have := HM.out.2; omega) (by
        rw [List.length_map]
        have h1 := vlen_le Y (fun x hx => (hys x hx).2.1) Y.length (Nat.le_refl _)
        have h2 := HM.out.2
        omega)
      rw [List.length_map, vall_flat, hYM, sorted_rows HP.out hyp hy2, ← HRES.out] at hcc
      have HCC := Lib.hid hcc
      clear hy1 hy2 hy3 hy4 hy5 hy6 hyp hys hYM hvw hcc HSRT
      go_wp2_with fail
      refine HCC.out.mono ?_
      rintro e w3 ⟨v, rfl, ho, hb3⟩
      have HFIN : Hid (OOut w w3 (.returned (.tuple #[v, .int .i64 0])) res 0) := ⟨v, rfl, ho.base HB2.out.size, HB2.out.trans (hb3.mono HB2.out.size)⟩
      clear ho hb3 HCC
      go_wp2_with fail
      go_ret2
      exact OOut.sout HFIN.out
end Go.Proofs.Ytkffakekakhgdaa
