/- Package bench: Parse, walked. No condition but the text's own size and the library's tables. -/
import Derived.Test.YtmibifmabkaakaaDoorBenN
namespace Go.Proofs.YtmibifmabkaakaaDoor
open Go.ChangeShapes Go.WideShapes Go.ChangeAt Go.RowKit
set_option linter.unusedVariables false

theorem cut_len {t l s : Bs} (h : Lib.cut t [10] = (l, s, true)) : s.length < t.length ∧ l.length ≤ t.length := by
  rcases first_occ 10 t with h1 | ⟨a, r, h1, rfl⟩
  · rw [cut_none h1] at h; simp at h
  · rw [cut_at r h1] at h
    injection h with e1 e2
    injection e2 with e2 _
    subst e1 e2
    simp
    omega
theorem cut_len1 (t : Bs) : (Lib.cut t [10]).1.length ≤ t.length := by
  rcases first_occ 10 t with h1 | ⟨a, r, h1, rfl⟩
  · rw [cut_none h1]; exact Nat.le_refl _
  · rw [cut_at r h1]; simp
set_option maxRecDepth 20000 in
set_option maxHeartbeats 4000000 in
theorem parse_any (t : Bs) (ht : t.length ≤ 4000000000) (w : World) (hL : LibW w) : Calls Tryd.prog 39 #[SV t] w fun e w' => PaOut w (parseR t) e w' := by
  obtain ⟨res, hres⟩ : ∃ res, res = parseR t := ⟨_, rfl⟩
  rw [← hres]
  have HRES := Lib.hid hres
  obtain ⟨T, hT⟩ : ∃ T : ByteArray, T = ⟨t.toArray⟩ := ⟨_, rfl⟩
  rw [show SV t = Value.string T by rw [hT]]
  have HT := Lib.hid hT
  have HTL := Lib.hid ht
  have HLW := Lib.hid hL
  clear hres hT ht hL
  go_enter Tryd.func39, Tryd.ntmps39
  go_wp2_with fail
  go_loopw [0, 6, 7, 8] (fun s0 s6 s7 s8 wx => ∃ (j room : Nat) (acc : List (Nat × Nat)) (r : Bs) (R : ByteArray), s0 = .string R ∧ Hid (R = ⟨r.toArray⟩) ∧ s6 = .int .i64 room ∧ Hid (wx.ownsRow w.heap.size 81 2 s7 j (flat (cp acc))) ∧ Hid (acc.length = j) ∧ ((s8 = .int .i64 0 ∧ j = 0 ∧ room = 0 ∧ Hid (res = parseR r)) ∨ ∃ k : Nat, k = j + 1 ∧ s8 = .int .i64 k ∧ Hid (res = finR room (restF acc r))) ∧ Hid (j + r.length ≤ t.length) ∧ Hid (Below w.heap.size w wx)) (fun s0 _ _ _ _ => strLen s0)
  case atStart => exact ⟨0, 0, [], t, T, rfl, HT.out, rfl, crow_none, rfl, Or.inl ⟨rfl, rfl, rfl, HRES.out⟩, by unfold Hid; omega, Below.refl _ _⟩
  case round =>
    obtain ⟨j, room, acc, r, R, rfl, HRR, rfl, HO, HJ, hph, HLN, HB⟩ := hrel
    clear HRES HT
    obtain ⟨Lo, co, rfl⟩ := crow_shape HO.out
    have HLX : Hid (LibW wr) := HLW.out.below HB.out
    obtain ⟨l, s, wh, hcut⟩ : ∃ l s wh, Lib.cut r [10] = (l, s, wh) := ⟨_, _, _, rfl⟩
    obtain ⟨Lb, hLb⟩ : ∃ Lb : ByteArray, Lb = ⟨l.toArray⟩ := ⟨_, rfl⟩
    obtain ⟨Rb, hRb⟩ : ∃ Rb : ByteArray, Rb = ⟨s.toArray⟩ := ⟨_, rfl⟩
    have HC : Hid (∀ u, LibW u → Calls Tryd.prog 82 #[.string R, .string { data := #[10] }] u fun e w' => e = .returned (.tuple #[.string Lb, .string Rb, .bool wh]) ∧ ∃ n, w' = u.drewN n) := fun u hu => by
      have h := cut_any r [10] (by have := HLN.out; have := HTL.out; omega) u hu
      rw [hcut] at h
      rw [HRR.out, hLb, hRb]
      exact h
    have HRb := Lib.hid hRb
    clear hRb
    rcases hph with ⟨rfl, rfl, rfl, HPH⟩ | ⟨k, hk, rfl, HPH⟩
    · obtain rfl : acc = [] := List.length_eq_zero_iff.1 HJ.out
      obtain ⟨nr, hnr⟩ : ∃ nr, nr = numsP l wRoom 1 := ⟨_, rfl⟩
      have HNU : Hid (∀ u, LibW u → Calls Tryd.prog 83 #[.string Lb, .string { data := #[114, 111, 111, 109] }, .int .i64 1] u fun e w' => NuOut u nr e w') := fun u hu => by
        rw [hnr, hLb]
        exact numbers_any l wRoom 1 (by have := cut_len1 r; rw [hcut] at this; have := HLN.out; have := HTL.out; simp only at *; omega) (by decide) (by decide) u hu
      have HNR := Lib.hid hnr
      have HCUT := Lib.hid hcut
      clear hnr hcut hLb
      cases nr with
      | none =>
        have hz : roomZ r = none := by rw [← roomP_eq]; unfold roomP; rw [HCUT.out]; simp only; rw [← HNR.out]; simp
        have hr : Hid (res = (0, [], 0, 1)) := HPH.out.trans (by unfold parseR; rw [hz])
        clear hz
        go_wp2_with fail
        refine (HC.out _ HLX.out).mono ?_
        rintro e w3 ⟨rfl, m3, rfl⟩
        have HB3 : Hid (Below w.heap.size w (wr.drewN m3)) := below_drewN HB.out _
        have HO3 : Hid ((wr.drewN m3).ownsRow w.heap.size 81 2 (.slice Lo 0 co) 0 (flat (cp []))) := HO.out
        clear HO
        generalize wr.drewN m3 = w3 at *
        go_wp2_with fail
        refine (HNU.out _ (HLW.out.below HB3.out)).mono ?_
        rintro e w4 ⟨rfl, hb4⟩
        have HB4 : Hid (Below w.heap.size w w4) := HB3.out.trans (hb4.mono HB3.out.size)
        clear hb4
        cases wh with
        | true =>
          go_wp2_with fail
          (try simp only [Exit.inBlock, Exit.then])
          refine bodyPost_ret (results_tmp4 rfl _ _ _) rfl ?_
          exact ⟨none, 0, by rw [hr.out]; rfl, by rw [hr.out]; exact Nat.le_refl _, by rw [hr.out]; exact Seg.nil, HB4.out⟩
        | false =>
          go_wp2_with fail
          (try simp only [Exit.inBlock, Exit.then])
          refine bodyPost_ret (results_tmp4 rfl _ _ _) rfl ?_
          exact ⟨none, 0, by rw [hr.out]; rfl, by rw [hr.out]; exact Nat.le_refl _, by rw [hr.out]; exact Seg.nil, HB4.out⟩
      | some ln =>
        cases wh with
        | false =>
          have hz : roomZ r = none := by rw [← roomP_eq]; unfold roomP; rw [HCUT.out]; rfl
          have hr : Hid (res = (0, [], 0, 1)) := HPH.out.trans (by unfold parseR; rw [hz])
          clear hz
          go_wp2_with fail
          refine (HC.out _ HLX.out).mono ?_
          rintro e w3 ⟨rfl, m3, rfl⟩
          have HB3 : Hid (Below w.heap.size w (wr.drewN m3)) := below_drewN HB.out _
          have HO3 : Hid ((wr.drewN m3).ownsRow w.heap.size 81 2 (.slice Lo 0 co) 0 (flat (cp []))) := HO.out
          clear HO
          generalize wr.drewN m3 = w3 at *
          go_wp2_with fail
          refine (HNU.out _ (HLW.out.below HB3.out)).mono ?_
          rintro e w4 ⟨An, cn, rfl, hsn, hb4⟩
          have HB4 : Hid (Below w.heap.size w w4) := HB3.out.trans (hb4.mono HB3.out.size)
          clear hb4 hsn
          go_wp2_with fail
          (try simp only [Exit.inBlock, Exit.then])
          refine bodyPost_ret (results_tmp4 rfl _ _ _) rfl ?_
          exact ⟨none, 0, by rw [hr.out]; rfl, by rw [hr.out]; exact Nat.le_refl _, by rw [hr.out]; exact Seg.nil, HB4.out⟩
        | true =>
          obtain ⟨x, rfl⟩ : ∃ x, ln = [x] := by
            have h := nums_len HNR.out.symm
            match ln, h with
            | [x], _ => exact ⟨x, rfl⟩
          have hz : roomZ r = some (x, s) := by rw [← roomP_eq]; unfold roomP; rw [HCUT.out]; simp only; rw [← HNR.out]; rfl
          have hr : Hid (res = finR x (restF [] s)) := HPH.out.trans (by unfold parseR; rw [hz])
          have HSL : Hid (s.length < r.length) := (cut_len HCUT.out).1
          clear hz
          go_wp2_with fail
          refine (HC.out _ HLX.out).mono ?_
          rintro e w3 ⟨rfl, m3, rfl⟩
          have HB3 : Hid (Below w.heap.size w (wr.drewN m3)) := below_drewN HB.out _
          have HO3 : Hid ((wr.drewN m3).ownsRow w.heap.size 81 2 (.slice Lo 0 co) 0 (flat (cp []))) := HO.out
          clear HO
          generalize wr.drewN m3 = w3 at *
          go_wp2_with fail
          refine (HNU.out _ (HLW.out.below HB3.out)).mono ?_
          rintro e w4 ⟨An, cn, rfl, hsn, hb4⟩
          have HB4 : Hid (Below w.heap.size w w4) := HB3.out.trans (hb4.mono HB3.out.size)
          have HO4 := Lib.hid (crow_below HO3.out hb4 (Nat.le_refl _))
          obtain ⟨an, rfl, _, hcn⟩ := hsn.get (k := 0) (u := .int .i64 (x : Int)) rfl
          rw [addr_zero] at hcn
          clear hb4 hsn HO3
          go_wp2_with fail
          go_roundw
          case rel => exact ⟨0, x, [], s, Rb, rfl, HRb.out, by first | rfl | trivial, HO4.out, rfl, Or.inr ⟨1, rfl, rfl, hr.out⟩, by have := HLN.out; have := HSL.out; unfold Hid; omega, HB4.out⟩
          case measure =>
            show Rb.size < R.size
            rw [HRb.out, HRR.out]
            exact HSL.out
    · by_cases hne : r = []
      · have f1 : R.toList.isEmpty = true := by rw [HRR.out, sv_empty, hne]; rfl
        have b0 : ((k : Int) == 0) = false := by rw [beq_eq_false_iff_ne]; omega
        have hr : Hid (res = (room, acc, 0, 0)) := HPH.out.trans (by rw [hne, restF_nil]; rfl)
        obtain ⟨A9, c10, e9, hc9, hs9⟩ := crow_pairs HO.out
        have HE := Lib.hid (And.intro e9 (And.intro hc9 hs9))
        clear hne e9 hc9 hs9 HC hLb hcut hk
        go_wp2_with fail
        (try simp only [Exit.inBlock, Exit.then])
        refine bodyPost_ret (results_tmp4 rfl _ _ _) rfl ?_
        obtain ⟨e9, hc9, hs9⟩ := HE.out
        rw [cp_len] at e9 hc9
        refine ⟨A9, c10, ?_, by rw [hr.out]; exact hc9, by rw [hr.out]; exact hs9, HB.out⟩
        rw [hr.out]
        show _ = Ending.returned (.tuple #[_, .slice A9 acc.length c10, _, _])
        rw [← e9]
        rfl
      · have HNE : Hid (r ≠ []) := hne
        have f1 : R.toList.isEmpty = false := by
          rw [HRR.out, sv_empty]
          cases r with
          | nil => exact absurd rfl hne
          | cons c t => rfl
        have b0 : ((k : Int) == 0) = false := by rw [beq_eq_false_iff_ne]; omega
        subst hk
        clear hne
        obtain ⟨nr, hnr⟩ : ∃ nr, nr = numsP l wAdd 2 := ⟨_, rfl⟩
        have HNU : Hid (∀ u, LibW u → Calls Tryd.prog 83 #[.string Lb, .string { data := #[97, 100, 100] }, .int .i64 2] u fun e w' => NuOut u nr e w') := fun u hu => by
          rw [hnr, hLb]
          exact numbers_any l wAdd 2 (by have := cut_len1 r; rw [hcut] at this; have := HLN.out; have := HTL.out; simp only at *; omega) (by decide) (by decide) u hu
        have HNR := Lib.hid hnr
        have HCUT := Lib.hid hcut
        clear hnr hcut hLb
        cases nr with
        | none =>
          have hz : addZ r = none := by rw [← addP_eq]; unfold addP; rw [HCUT.out]; simp only; rw [← HNR.out]; simp
          have hr : Hid (res = (0, [], j + 1, 1)) := HPH.out.trans (by rw [restF_bad HNE.out hz, HJ.out]; rfl)
          clear hz
          go_wp2_with fail
          refine (HC.out _ HLX.out).mono ?_
          rintro e w3 ⟨rfl, m3, rfl⟩
          have HB3 : Hid (Below w.heap.size w (wr.drewN m3)) := below_drewN HB.out _
          have HO3 : Hid ((wr.drewN m3).ownsRow w.heap.size 81 2 (.slice Lo j co) j (flat (cp acc))) := HO.out
          clear HO
          generalize wr.drewN m3 = w3 at *
          go_wp2_with fail
          refine (HNU.out _ (HLW.out.below HB3.out)).mono ?_
          rintro e w4 ⟨rfl, hb4⟩
          have HB4 : Hid (Below w.heap.size w w4) := HB3.out.trans (hb4.mono HB3.out.size)
          clear hb4
          cases wh with
          | true =>
            go_wp2_with fail
            (try simp only [Exit.inBlock, Exit.then])
            refine bodyPost_ret (results_tmp4 rfl _ _ _) rfl ?_
            exact ⟨none, 0, by rw [hr.out]; rfl, by rw [hr.out]; exact Nat.le_refl _, by rw [hr.out]; exact Seg.nil, HB4.out⟩
          | false =>
            go_wp2_with fail
            (try simp only [Exit.inBlock, Exit.then])
            refine bodyPost_ret (results_tmp4 rfl _ _ _) rfl ?_
            exact ⟨none, 0, by rw [hr.out]; rfl, by rw [hr.out]; exact Nat.le_refl _, by rw [hr.out]; exact Seg.nil, HB4.out⟩
        | some ln =>
          cases wh with
          | false =>
            have hz : addZ r = none := by rw [← addP_eq]; unfold addP; rw [HCUT.out]; rfl
            have hr : Hid (res = (0, [], j + 1, 1)) := HPH.out.trans (by rw [restF_bad HNE.out hz, HJ.out]; rfl)
            clear hz
            go_wp2_with fail
            refine (HC.out _ HLX.out).mono ?_
            rintro e w3 ⟨rfl, m3, rfl⟩
            have HB3 : Hid (Below w.heap.size w (wr.drewN m3)) := below_drewN HB.out _
            have HO3 : Hid ((wr.drewN m3).ownsRow w.heap.size 81 2 (.slice Lo j co) j (flat (cp acc))) := HO.out
            clear HO
            generalize wr.drewN m3 = w3 at *
            go_wp2_with fail
            refine (HNU.out _ (HLW.out.below HB3.out)).mono ?_
            rintro e w4 ⟨An, cn, rfl, hsn, hb4⟩
            have HB4 : Hid (Below w.heap.size w w4) := HB3.out.trans (hb4.mono HB3.out.size)
            clear hb4 hsn
            go_wp2_with fail
            (try simp only [Exit.inBlock, Exit.then])
            refine bodyPost_ret (results_tmp4 rfl _ _ _) rfl ?_
            exact ⟨none, 0, by rw [hr.out]; rfl, by rw [hr.out]; exact Nat.le_refl _, by rw [hr.out]; exact Seg.nil, HB4.out⟩
          | true =>
            obtain ⟨x, d, rfl⟩ : ∃ x d, ln = [x, d] := by
              have h := nums_len HNR.out.symm
              match ln, h with
              | [x, d], _ => exact ⟨x, d, rfl⟩
            have hz : addZ r = some (x, d, s) := by rw [← addP_eq]; unfold addP; rw [HCUT.out]; simp only; rw [← HNR.out]; rfl
            have hr : Hid (res = finR room (restF (acc ++ [(x, d)]) s)) := HPH.out.trans (by rw [restF_step hz])
            have HSL : Hid (s.length < r.length) := (cut_len HCUT.out).1
            have HK4 : Hid (j ≤ 8000000000000) := by have := HLN.out; have := HTL.out; unfold Hid; omega
            have ui : Hid (wrap64 (((j + 1 : Nat) : Int) + 1) = ((j + 1 + 1 : Nat) : Int)) := by have := HK4.out; unfold Hid; rw [wr64 _ (by omega) (by omega)]; omega
            clear hz
            go_wp2_with fail
            refine (HC.out _ HLX.out).mono ?_
            rintro e w3 ⟨rfl, m3, rfl⟩
            have HB3 : Hid (Below w.heap.size w (wr.drewN m3)) := below_drewN HB.out _
            have HO3 : Hid ((wr.drewN m3).ownsRow w.heap.size 81 2 (.slice Lo j co) j (flat (cp acc))) := HO.out
            clear HO
            generalize wr.drewN m3 = w3 at *
            go_wp2_with fail
            refine (HNU.out _ (HLW.out.below HB3.out)).mono ?_
            rintro e w4 ⟨An, cn, rfl, hsn, hb4⟩
            have HB4 : Hid (Below w.heap.size w w4) := HB3.out.trans (hb4.mono HB3.out.size)
            have HO4 := Lib.hid (crow_below HO3.out hb4 (Nat.le_refl _))
            obtain ⟨an, rfl, _, hcn⟩ := hsn.get (k := 0) (u := .int .i64 (x : Int)) rfl
            obtain ⟨_, e1, _, hcm⟩ := hsn.get (k := 1) (u := .int .i64 (d : Int)) rfl
            injection e1 with e1
            subst e1
            rw [addr_zero] at hcn
            have hadd1 : (⟨an.block, an.off + 1, none⟩ : Addr) = an.add 1 := by unfold Addr.add; rw [if_neg (by decide)]
            have hcm2 : w4.cell? ⟨an.block, an.off + 1, none⟩ = some (.int .i64 (d : Int)) := by rw [hadd1]; exact hcm
            clear hb4 hsn HO3 hadd1
            have HOA : Hid ((w4.alloc (.cells #[.int .i64 (x : Int), .int .i64 (d : Int)] 81)).ownsRow w.heap.size 81 2 (.slice Lo j co) j (flat (cp acc))) := World.ownsRow.alloc HO4.out _
            have HCA : Hid (∀ j u, [Value.int .i64 (x : Int), .int .i64 (d : Int)][j]? = some u → (w4.alloc (.cells #[.int .i64 (x : Int), .int .i64 (d : Int)] 81)).cell? ((⟨w4.heap.size, 0, none⟩ : Addr).add j) = some u) := crow_new2 _ _ _ _
            have HSA : Hid (w.heap.size ≤ (w4.alloc (.cells #[.int .i64 (x : Int), .int .i64 (d : Int)] 81)).heap.size) := by have := HB4.out.size; unfold Hid; simp; omega
            have HBA : Hid (Below w.heap.size w (w4.alloc (.cells #[.int .i64 (x : Int), .int .i64 (d : Int)] 81))) := HB4.out.alloc HB4.out.size _
            go_wp2_with fail
            go_region_law? (refine step_pushC _ rfl _ _ rfl w.heap.size (.slice Lo j co) j (flat (cp acc)) (by simp [Act.eval]) HOA.out x d ⟨w4.heap.size, 0, none⟩ 1 (by simp [Act.eval]) HCA.out HK4.out HSA.out ?_; intro v6 w6 hown6 hbel6 hgr6; have HO6 := Lib.hid hown6; have HB6 : Hid (Below w.heap.size w w6) := (by first | exact HBA.out.trans hbel6 | exact HBA.out.trans (below_of_drew hbel6)); clear hown6 hbel6 hgr6)
            all_goals go_wp2_with fail
            all_goals
              have HO7 : Hid (w6.ownsRow w.heap.size 81 2 v6 (j + 1) (flat (cp (acc ++ [(x, d)])))) := by rw [cp_snoc]; exact HO6.out
              have HK7 : Hid (j + 1 = (acc ++ [(x, d)]).length) := by rw [List.length_append, HJ.out]; rfl
              have HL7 : Hid (j + 1 + s.length ≤ t.length) := by have := HLN.out; have := HSL.out; unfold Hid; omega
              refine ⟨?_, ?_⟩
              · exact ⟨j + 1, room, acc ++ [(x, d)], s, Rb, rfl, HRb.out, rfl, HO7, HK7.out.symm, Or.inr ⟨j + 1 + 1, rfl, by first | rfl | exact congrArg (Value.int .i64) ui.out, hr.out⟩, HL7, HB6.out⟩
              · show Rb.size < R.size
                rw [HRb.out, HRR.out]
                exact HSL.out
end Go.Proofs.YtmibifmabkaakaaDoor
