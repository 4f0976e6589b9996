/- Package drop: the reference's level: by the greatest of what is left. Printed by drogen2.py. No condition but that the weights are right. -/
import Derived.Test.YtmnjgoicppknjaaDroL
import Derived.Test.YtmnjgoicppknjaaApp2
import Derived.Test.YtmnjgoicppknjaaSeq2
import Derived.Test.YtmnjgoicppknjaaHeld
namespace Go.Proofs.Ytmnjgoicppknjaa
open Go.ChangeShapes Go.WideShapes Go.ChangeAt Go.RowKit
set_option linter.unusedVariables false

theorem perm_ssum {a b : List Int} (h : a.Perm b) : ssum a = ssum b := by
  induction h with
  | nil => rfl
  | cons x _ ih => simp [ssum, ih]
  | swap x y l => simp [ssum]; omega
  | trans _ _ i1 i2 => rw [i1, i2]
theorem kl_sum {l ss : List Int} {m : Nat} (h : l.Perm (ss.take m)) (hm : m ≤ ss.length) : psm l m = psm ss m := by
  have hl : l.length = m := by rw [h.length_eq, List.length_take]; omega
  have h1 := psm_all l
  rw [hl] at h1
  rw [h1, psm_ssum ss m hm, perm_ssum h]
theorem kl_max {l ss : List Int} {m a : Nat} (h : l.Perm (ss.take m)) (hm : m ≤ ss.length) (h0 : 1 ≤ m) (hs : ss.Pairwise fun x y => x ≤ y) (ha : a < m) (hx : ∀ i, i < m → pat l i ≤ pat l a) : pat l a = pat ss (m - 1) := by
  have hl : l.length = m := by rw [h.length_eq, List.length_take]; omega
  have e1 : pat l a ≤ pat ss (m - 1) := by
    rw [pat_get (by omega : a < l.length)]
    have h1 : l[a] ∈ ss.take m := h.mem_iff.1 (List.getElem_mem _)
    obtain ⟨i, hi, e⟩ := List.getElem_of_mem h1
    rw [List.length_take] at hi
    rw [List.getElem_take] at e
    rw [← e, pat_get (by omega)]
    exact sorted_le hs (by omega) (by omega)
  have e2 : pat ss (m - 1) ≤ pat l a := by
    have h1 : pat ss (m - 1) ∈ ss.take m := by
      rw [pat_get (by omega : m - 1 < ss.length)]
      have : (ss.take m)[m - 1]'(by rw [List.length_take]; omega) = ss[m - 1] := List.getElem_take
      rw [← this]
      exact List.getElem_mem _
    obtain ⟨i, hi, e⟩ := List.getElem_of_mem (h.mem_iff.2 h1)
    have := hx i (by omega)
    rw [pat_get hi, e] at this
    exact this
  omega
theorem kl_next {l ss : List Int} {m a : Nat} (h : l.Perm (ss.take (m + 1))) (hm : m < ss.length) (ha : a < l.length) (hx : pat l a = pat ss m) : (l.take a ++ l.drop (a + 1)).Perm (ss.take m) := by
  have h1 : l.Perm (pat l a :: (l.take a ++ l.drop (a + 1))) := by
    have e : l = l.take a ++ pat l a :: l.drop (a + 1) := by
      rw [pat_get ha, ← List.drop_eq_getElem_cons ha, List.take_append_drop]
    conv => lhs; rw [e]
    exact List.perm_middle
  have h2 : (ss.take (m + 1)).Perm (pat ss m :: ss.take m) := by
    rw [pat_take hm]
    have := List.perm_middle (a := pat ss m) (l₁ := ss.take m) (l₂ := [])
    rwa [List.append_nil] at this
  have h3 := h1.symm.trans (h.trans h2)
  rw [hx] at h3
  exact h3.cons_inv
set_option maxRecDepth 20000 in
set_option maxHeartbeats 4000000 in
theorem klevel_any (A : Option Addr) (zs : List Int) (c : Nat) (keep : Int) (w : World) (hs : Seg w w.heap.size A (zs.map (.int .i64))) (hok : drok zs keep) :
    Calls Try.prog 110 #[.slice A zs.length c, .int .i64 keep] w fun e w' => e = .returned (FrV (levR zs keep).1.1 (levR zs keep).1.2) ∧ Below w.heap.size w w' := by
  have HS := Lib.hid hs
  clear hs
  have HR := Lib.hid (Blk.new w 34 #[.int .i64 0, .int .i64 0])
  have HB : Hid (Below w.heap.size w (w.alloc (.cells #[.int .i64 0, .int .i64 0] 34))) := (Below.refl _ _).alloc (Nat.le_refl _) _
  have HS1 := Lib.hid ((HS.out.below HB.out).more HB.out.size)
  have HW0 : Hid (w.heap.size < (w.alloc (.cells #[.int .i64 0, .int .i64 0] 34)).heap.size) := by unfold Hid; simp
  by_cases hle : (zs.length : Int) ≤ keep
  · have HV : Hid (levR zs keep = ((0, 0), 0)) := by unfold levR Hid; rw [if_pos hok, if_pos hle]
    clear hok
    go_enter Try.func110, Try.ntmps110
    go_wp2_with (first | (refine wpList_store_blk rfl _ _ _ rfl w.heap.size #[.int .i64 0, .int .i64 0] rfl rfl _ _ HR.out (by kernel_rfl) rfl (by simp [Value.oneCell']) ?_; intro w9 hb9 hg9 hs9; have HB9 := Lib.hid hb9; have HG9 := Lib.hid hg9; clear hs9 hb9 hg9) | fail)
    refine bodyPost_ret (v := FrV 0 0) (results_c Try.results110 _ rfl HB9.out Try.underlying34 rfl (by kernel_rfl)) rfl ⟨by rw [HV.out], Below.grown HB.out HG9.out HB.out.size (fun q hq => by injection hq with hq; omega)⟩
  · have HV0 : Hid (levR zs keep = (lev (isort zs) zs.length keep.toNat, 0)) := by unfold levR Hid; rw [if_pos hok, if_neg hle]
    have HK := Lib.hid hok
    have HLE := Lib.hid hle
    have HLN : Hid ((isort zs).length = zs.length) := isort_len zs
    have HDA : Hid (dall (isort zs)) := fun v hv => HK.out.2 v ((isort_perm zs).mem_iff.1 hv)
    have HPW : Hid ((isort zs).Pairwise fun x y => x ≤ y) := isort_pair zs
    have HPM : Hid (zs.Perm (isort zs)) := (isort_perm zs).symm
    generalize isort zs = ss at *
    have hbn : ([] : List Value).length + zs.length ≤ maxLen := by have := HK.out.1.1; unfold maxLen; simp; omega
    have hbb : (([] : List Value).length + zs.length) * 8 ≤ 140737488355328 := by have := HK.out.1.1; simp; omega
    clear hok
    go_enter Try.func110, Try.ntmps110
    go_upto_region 3 with (fail)
    generalize w.alloc (.cells #[.int .i64 0, .int .i64 0] 34) = w0 at *
    go_wp2_with (first
      | (at_builtin; go_must (refine wpList_append_seg _ rfl _ _ elem_ints rfl w0.heap.size _ [] rfl (own_empty w0 _ _ (Nat.le_refl _)) c rfl (by rw [List.length_map]) (HS1.out.alloc (Nat.le_refl _) _) (ints_one zs) hbn hbb (by simp) ?_); intro v3 w3 hown3 hgr3 hnew3; clear hnew3; rw [List.nil_append] at hown3; obtain ⟨A3, c3, rfl, hc3, hown4⟩ := hown3.res2; rw [List.length_map] at hown4 hc3; have HO3 := Lib.hid hown4; have HC3 := Lib.hid hc3; have HB3 : Hid (Below w0.heap.size w0 w3) := ((Below.refl _ _).alloc (Nat.le_refl _) _).grown hgr3 (by simp) (fun q hq => by injection hq with hq; exact Nat.le_of_eq hq); clear hown3 hgr3 hown4 hc3; rw [List.length_map])
      | fail)
    have HR3 := Lib.hid (HR.out.below HB3.out HW0.out)
    have HBW : Hid (Below w.heap.size w w3) := HB.out.trans (HB3.out.mono HB.out.size)
    have HSG3 := Lib.hid (Own.seg HO3.out)
    skip --LOOK1
    go_loopw [5, 6] (fun s5 s6 wr => ∃ (m n : Nat) (l : List Int) (B : Option Addr) (d : Nat), 1 ≤ n ∧ n < m ∧ m ≤ zs.length ∧ l.length = m ∧ m ≤ d ∧ s5 = .slice B m d ∧ s6 = .int .i64 n ∧ Hid (Seg wr wr.heap.size B (l.map (.int .i64))) ∧ Hid (l.Perm (ss.take m)) ∧ Hid (lev ss m n = lev ss zs.length keep.toNat) ∧ Hid (Blk wr w.heap.size 34 #[.int .i64 0, .int .i64 0]) ∧ Hid (Below w.heap.size w wr)) (fun _ s6 _ => (intOf s6).toNat)
    case atStart =>
      have h1 := HK.out.1
      have h2 := HLE.out
      refine ⟨zs.length, keep.toNat, zs, A3, c3, by omega, by omega, Nat.le_refl _, rfl, HC3.out, rfl, ?_, HSG3.out, ?_, rfl, HR3.out, HBW.out⟩
      · rw [show ((keep.toNat : Nat) : Int) = keep by omega]
      · have := HPM.out; have h3 := HLN.out; rw [← h3, List.take_length]; exact this
    case round =>
      clear HR3 HBW HSG3 HB3 HO3
      obtain ⟨m, n, l, B, d, hn1, hnm, hml, hll, hmd, rfl, rfl, hsg, hpm, hlv, hbk, hbw⟩ := hrel
      have HDL : Hid (dall l) := fun v hv => HDA.out v (List.mem_of_mem_take (hpm.out.mem_iff.1 hv))
      have HF := Lib.hid (And.intro hn1 (And.intro hnm (And.intro hml (And.intro hll hmd))))
      have hm4 : m ≤ 400 := by have := HK.out.1.1; omega
      clear hn1 hnm hll hmd
      have i0 : ((m : Nat) : Int) ≤ 400 := by omega
      go_wp2_with fail
      go_loop [7, 8, 24] (fun s7 s8 s24 => ∃ k a : Nat, k ≤ m ∧ a < m ∧ s7 = .int .i64 a ∧ s8 = .int .i64 (psm l k) ∧ s24 = .int .i64 k ∧ Hid (∀ i, i < k → pat l i ≤ pat l a)) (fun _ _ s24 => m - (intOf s24).toNat)
      case atStart => exact ⟨0, 0, Nat.zero_le _, by have := HF.out; omega, rfl, rfl, rfl, fun i hi => by omega⟩
      case round =>
        obtain ⟨k, a, hk, ha, rfl, rfl, rfl, hmx⟩ := hrel
        by_cases hlt : k < m
        · have i1 : (k : Int) < (m : Int) := by omega
          have i2 : (a : Int) < (m : Int) := by omega
          obtain ⟨ad, rfl, _, x1⟩ := hsg.out.pat (k := k) (by have := HF.out; omega)
          obtain ⟨ad', e1, _, x2⟩ := hsg.out.pat (k := a) (by have := HF.out; omega)
          injection e1 with e1; subst e1
          have b1 := dall_pat HDL.out k
          have b2 := dpsm_bd HDL.out k
          have hst : Hid (psm l (k + 1) = psm l k + pat l k) := rfl
          have HM1 : Hid (pat l k ≤ pat l a → ∀ i, i < k + 1 → pat l i ≤ pat l a) := fun q i hi => by
            rcases Nat.lt_or_ge i k with h | h
            · exact hmx.out i h
            · have : i = k := by omega
              subst this; exact q
          have HM2 : Hid (pat l a < pat l k → ∀ i, i < k + 1 → pat l i ≤ pat l k) := fun q i hi => by
            rcases Nat.lt_or_ge i k with h | h
            · have := hmx.out i h; omega
            · have : i = k := by omega
              subst this; exact Int.le_refl _
          have HAK := Lib.hid (And.intro ha hlt)
          obtain ⟨P, hP⟩ : ∃ v, v = psm l k := ⟨_, rfl⟩
          obtain ⟨z, hz⟩ : ∃ v, v = pat l k := ⟨_, rfl⟩
          obtain ⟨y, hy⟩ : ∃ v, v = pat l a := ⟨_, rfl⟩
          rw [← hz] at x1 b1
          rw [← hy] at x2
          rw [← hP] at b2
          have HP := Lib.hid hP
          have HZ := Lib.hid hz
          have HY := Lib.hid hy
          rw [← hP]
          clear hP hz hy
          have u1 : wrap64 (P + z) = P + z := by unfold wrap64; omega
          rcases (by omega : z ≤ y ∨ y < z) with q | q
          · have hn : ¬ y < z := by omega
            have HN : Hid (∀ i, i < k + 1 → pat l i ≤ pat l a) := HM1.out (by rw [← HZ.out, ← HY.out]; exact q)
            go_wp2_with fail
            go_round
            case rel => exact ⟨k + 1, a, by omega, HAK.out.1, rfl, by rw [hst.out, ← HP.out, ← HZ.out], by go_num, HN⟩
            case measure => simp [intOf]; have := HAK.out.2; omega
          · have HN : Hid (∀ i, i < k + 1 → pat l i ≤ pat l k) := HM2.out (by rw [← HZ.out, ← HY.out]; exact q)
            go_wp2_with fail
            go_round
            case rel => exact ⟨k + 1, k, by omega, HAK.out.2, rfl, by rw [hst.out, ← HP.out, ← HZ.out], by go_num, HN⟩
            case measure => simp [intOf]; have := HAK.out.2; omega
        · obtain rfl : k = m := by omega
          have hF := HF.out
          obtain ⟨M, rfl⟩ : ∃ j, k = j + 1 := ⟨k - 1, by omega⟩
          have i2 : (a : Int) < ((M + 1 : Nat) : Int) := by omega
          obtain ⟨ad, rfl, _, x2⟩ := hsg.out.pat (k := a) (by omega)
          have HMX : Hid (pat l a = pat ss M) := kl_max hpm.out (by have := HLN.out; omega) (by omega) HPW.out ha hmx.out
          have HSM : Hid (psm l (M + 1) = psm ss (M + 1)) := kl_sum hpm.out (by have := HLN.out; omega)
          have HNX : Hid ((l.take a ++ l.drop (a + 1)).Perm (ss.take M)) := kl_next hpm.out (by have := HLN.out; omega) (by omega) HMX.out
          have HST : Hid (1 ≤ n → (n = 1 ∨ pat ss M * (n : Int) ≤ psm ss (M + 1)) → lev ss (M + 1) n = (psm ss (M + 1), (n : Int))) := lev_stop
          have HGO : Hid (2 ≤ n → ¬ pat ss M * (n : Int) ≤ psm ss (M + 1) → lev ss (M + 1) n = lev ss M (n - 1)) := lev_go
          have b1 := dall_pat HDA.out M
          have b2 := dpsm_bd HDA.out (M + 1)
          have b4 := mul_bd (a := pat ss M) (b := (n : Int)) 1048576 400 (by omega) (by omega)
          rw [HMX.out] at x2
          rw [HSM.out]
          have HAM := Lib.hid ha
          clear hmx
          generalize psm ss (M + 1) = P at *
          generalize pat ss M = z at *
          have u3 : wrap64 (z * (n : Int)) = z * (n : Int) := by unfold wrap64; omega
          have u5 : wrap64 ((n : Int) - 1) = (n : Int) - 1 := by unfold wrap64; omega
          generalize hQ : z * (n : Int) = Q at *
          clear b1 b2 b4
          rcases (by omega : n = 1 ∨ (2 ≤ n ∧ Q ≤ P) ∨ (2 ≤ n ∧ ¬ Q ≤ P)) with q | ⟨q, q1⟩ | ⟨q, q1⟩
          · have HV : Hid (levR zs keep = ((P, (n : Int)), 0)) := by unfold Hid; rw [HV0.out, ← hlv.out, HST.out hF.1 (.inl q)]
            have i4 : (n : Int) < 2 := by omega
            clear q hF
            go_wp2_with (first | (refine wpList_store_blk rfl _ _ _ rfl w.heap.size #[.int .i64 P, .int .i64 (n : Int)] rfl rfl _ _ hbk.out (by kernel_rfl) rfl (by simp [Value.oneCell']) ?_; intro w9 hb9 hg9 hs9; have HB9 := Lib.hid hb9; have HG9 := Lib.hid hg9; clear hs9 hb9 hg9) | fail)
            refine bodyPost_ret (v := FrV P (n : Int)) (results_c Try.results110 _ rfl HB9.out Try.underlying34 rfl (by kernel_rfl)) rfl ⟨by rw [HV.out], Below.grown hbw.out HG9.out hbw.out.size (fun q hq => by injection hq with hq; omega)⟩
          · have HV : Hid (levR zs keep = ((P, (n : Int)), 0)) := by unfold Hid; rw [HV0.out, ← hlv.out, HST.out hF.1 (.inr q1)]
            have i4 : ¬ (n : Int) < 2 := by omega
            clear q hF
            go_wp2_with (first | (refine wpList_store_blk rfl _ _ _ rfl w.heap.size #[.int .i64 P, .int .i64 (n : Int)] rfl rfl _ _ hbk.out (by kernel_rfl) rfl (by simp [Value.oneCell']) ?_; intro w9 hb9 hg9 hs9; have HB9 := Lib.hid hb9; have HG9 := Lib.hid hg9; clear hs9 hb9 hg9) | fail)
            refine bodyPost_ret (v := FrV P (n : Int)) (results_c Try.results110 _ rfl HB9.out Try.underlying34 rfl (by kernel_rfl)) rfl ⟨by rw [HV.out], Below.grown hbw.out HG9.out hbw.out.size (fun q hq => by injection hq with hq; omega)⟩
          · have HL2 : Hid (lev ss M (n - 1) = lev ss zs.length keep.toNat) := by unfold Hid; rw [← hlv.out, HGO.out q q1]
            have i4 : ¬ (n : Int) < 2 := by omega
            have hsl1 := fun u => slice_to (A := some ad) (n := M + 1) (x := a) (c := d) (a : Int) rfl (by omega) u
            obtain ⟨B2, hsl2, hseg2⟩ := slice_from2 (some ad) (ys := l) (l := a + 1) (c := d) ((a : Int) + 1) (by omega) (by omega) (by omega)
            rw [hF.2.2.2.1] at hsl2
            have hwa : IntKind.i64.wrap ((a : Int) + 1) = (a : Int) + 1 := IntWalk.i64_in _ (by omega)
            have HSE := Lib.hid hseg2
            have HQ2 := Lib.hid q
            have hdl : (l.drop (a + 1)).length = M - a := by rw [List.length_drop]; omega
            rw [hdl] at hsl2
            have HDR := Lib.hid hdl
            have HLM := Lib.hid hF
            clear q hF hseg2 hdl
            go_wp2_with fail
            have hn0 : ([] : List Value).length + a ≤ maxLen := by have := HAM.out; unfold maxLen; simp; omega
            have hn0b : (([] : List Value).length + a) * 8 ≤ 140737488355328 := by have := HAM.out; simp; omega
            refine wp_region_plan [(1, 0), (2, 0), (3, 0), (5, 0), (6, 0), (7, 0), (8, 0), (0, 2), (4, 2), (9, 2), (10, 0)] (fun _ => True) (by kernel_rfl) (by kernel_rfl) (fun _ d _ _ _ h => by cases d <;> exact h) trivial ?_
            iterate 7 ((refine plan0 (v := ?_) rfl rfl (by rfl) ?_ ?_); rotate_left; (intro w'; go_simp; with_reducible rfl); simp only [List.setIfInBounds_toArray, List.set_cons_zero, List.set_cons_succ])
            refine plan2 rfl rfl fun K' hK' => ?_
            go_simp
            refine hK' _ _ trivial ?_
            clear hK' K'
            refine plan2 rfl rfl fun K' hK' => ?_
            refine wp_append_seg _ _ _ elem_ints rfl wr.heap.size (.slice (some ⟨wr.heap.size, 0, none⟩) 0 0) [] rfl (own_empty wr.drew _ _ (Nat.le_refl _)) d rfl (show ((l.take a).map (Value.int .i64)).length = a by rw [List.length_map, List.length_take]; have := HLM.out; have := HAM.out; omega) (show Seg (wr.drew.alloc (.cells #[] 3)) wr.heap.size (some ad) ((l.take a).map (.int .i64)) by rw [List.map_take]; exact (Seg.alloc (w := wr.drew) hsg.out (Nat.le_refl _) _).pre a) (ints_one _) hn0 hn0b (by simp) ?_
            intro v4 w4 hown4 hg4 _
            have HB4 : Hid (Below wr.heap.size wr w4) := ((Below.drew (Below.refl _ wr)).alloc (Nat.le_refl _) _).grown hg4 (by simp) (fun q hq => by injection hq with hq; exact Nat.le_of_eq hq)
            rw [List.nil_append] at hown4
            have HO4 := Lib.hid hown4
            clear hown4 hg4
            refine hK' _ _ trivial ?_
            clear hK' K'
            refine plan2 rfl rfl fun K' hK' => ?_
            have hln : ((l.take a).map (Value.int .i64)).length = a := by rw [List.length_map, List.length_take]; have := HLM.out; have := HAM.out; omega
            refine wp_append_seg _ _ _ elem_ints rfl wr.heap.size v4 _ rfl HO4.out (d - (a + 1)) rfl (show ((l.drop (a + 1)).map (Value.int .i64)).length = M - a by rw [List.length_map, HDR.out]) (HSE.out w4 wr.heap.size (hsg.out.below HB4.out)) (ints_one _) (by rw [hln]; have := HLM.out; have := HAM.out; unfold maxLen; omega) (by rw [hln]; have := HLM.out; have := HAM.out; omega) HB4.out.size ?_
            intro v5 w5 hown5 hg5 _
            obtain ⟨A5, c5, rfl, hc5, hown5⟩ := hown5.res2
            have HL5 : Hid ((List.map (Value.int .i64) (l.take a) ++ List.map (Value.int .i64) (l.drop (a + 1))).length = M) := by unfold Hid; rw [List.length_append, hln, List.length_map, HDR.out]; have := HAM.out; omega
            rw [HL5.out] at hown5 hc5
            have HO5 := Lib.hid hown5
            have HC5 := Lib.hid hc5
            have HB5 : Hid (Below wr.heap.size wr w5) := Below.grown HB4.out hg5 HB4.out.size HO4.out.block
            clear hown5 hg5 hc5 hln
            refine hK' _ _ trivial ?_
            clear hK' K'
            rw [HL5.out]
            iterate 1 ((refine plan0 (v := ?_) rfl rfl (by rfl) ?_ ?_); rotate_left; (intro w'; go_simp; with_reducible rfl))
            refine planEnd ?_
            go_wp2_with fail
            go_roundw
            case rel =>
              have hF := HLM.out
              have hq := HQ2.out
              have hS5 : Seg w5 w5.heap.size A5 ((l.take a ++ l.drop (a + 1)).map (.int .i64)) := by rw [List.map_append]; exact Own.seg HO5.out
              refine ⟨M, n - 1, l.take a ++ l.drop (a + 1), A5, c5, by omega, by omega, by omega, ?_, HC5.out, rfl, by congr 1; omega, hS5, HNX.out, HL2, hbk.out.below HB5.out hbk.out.lt, hbw.out.trans (HB5.out.mono hbw.out.size)⟩
              rw [List.length_append, HDR.out, List.length_take]
              have := HAM.out
              omega
            case measure => simp [intOf]; have := HLM.out; omega
end Go.Proofs.Ytmnjgoicppknjaa
