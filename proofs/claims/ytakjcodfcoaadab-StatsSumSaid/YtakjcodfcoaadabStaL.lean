/- The law StatsSum walked. No condition. -/
import Derived.Test.YtakjcodfcoaadabStaJ
import Derived.Test.YtakjcodfcoaadabStaP
namespace Go.Proofs.Ytakjcodfcoaadab
open Go.ChangeShapes Go.WideShapes Go.ChangeAt Go.RowKit
set_option linter.unusedVariables false

/-- The two moments that came lie boxed; all else is new. -/
def SB (w W : World) (N S Q x y z : Int) : Prop := Blk W w.heap.size tM (mcs N S Q) ∧ Blk W (w.heap.size + 1) tM (mcs x y z) ∧ Below w.heap.size w W ∧ w.heap.size + 2 ≤ W.heap.size
section
variable {w W W' : World} {N S Q x y z : Int}
theorem SB.start : SB w ((w.alloc (.cells (mcs N S Q) tM)).alloc (.cells (mcs x y z) tM)) N S Q x y z := by
  refine ⟨(Blk.new w tM (mcs N S Q)).alloc _, ?_, ((Below.refl _ _).alloc (Nat.le_refl _) _).alloc (by simp) _, by simp⟩
  have := Blk.new (w.alloc (.cells (mcs N S Q) tM)) tM (mcs x y z)
  rwa [show (w.alloc (.cells (mcs N S Q) tM)).heap.size = w.heap.size + 1 by simp] at this
theorem SB.below (h : SB w W N S Q x y z) (hb : Below W.heap.size W W') : SB w W' N S Q x y z :=
  ⟨h.1.below hb h.1.lt, h.2.1.below hb h.2.1.lt, h.2.2.1.trans (hb.mono (by have := h.2.2.2; omega)), Nat.le_trans h.2.2.2 hb.size⟩
theorem SB.alloc (h : SB w W N S Q x y z) (o : Obj) : SB w (W.alloc o) N S Q x y z := h.below ((Below.refl _ _).alloc (Nat.le_refl _) _)
theorem SB.drew (h : SB w W N S Q x y z) : SB w W.drew N S Q x y z := ⟨h.1.drew, h.2.1.drew, Below.drew h.2.2.1, h.2.2.2⟩
theorem SB.grown {g : Nat} (h : SB w W N S Q x y z) (hb : W.grownBy W' (some g)) (hg : w.heap.size + 2 ≤ g) : SB w W' N S Q x y z :=
  ⟨h.1.grown hb (by omega), h.2.1.grown hb (by omega), h.2.2.1.grown hb (by have := h.2.2.2; omega) (fun k hk => by injection hk with hk; omega), Nat.le_trans h.2.2.2 hb.size⟩
theorem SB.seg {A : Option Addr} {xs : List Value} (h : SB w W N S Q x y z) (hs : Seg w w.heap.size A xs) : Seg W W.heap.size A xs := (hs.below h.2.2.1).more (by have := h.2.2.2; omega)
end

theorem exec_load_blk {P : Program} {ev : Operand → Value} {o : Oper} (ty : TypeId) (x : Operand) (ho : o.op = .load ty x) (g : Nat) (hx : ev x = .pointer (some ⟨g, 0, none⟩)) (t : TypeId) (cs : Array Value) (d : TypeDesc) (w : World) (hg : Blk w g t cs)
    (hu : P.underlying ty = some d) (hd : (match d with | .struct _ | .array _ _ => true | _ => false) = true) (hi : (P.info? ty).map (·.size) = some cs.size) : (execOp ev o).run P w = .ok (.value (.agg cs)) w := by
  unfold execOp
  simp only [ho, hx, Instr.loadAt, Instr.sureAddr, Sem.run_bind, Sem.run_pure, Result.andThen_ok, run_loadVar_row w g t ty cs (0, 0) d hg hu hd hi]

set_option maxRecDepth 20000 in
set_option maxHeartbeats 4000000 in
theorem StatsSum_core (A : Option Addr) (zs : List Int) (c : Nat) (N S Q x y z : Int) (w : World) (hs : Seg w w.heap.size A (zs.map (.int .i64))) (hl : zs.length ≤ 9223372036854775807)
    (hS : -9223372036854775808 ≤ S ∧ S ≤ 9223372036854775807) (hQ : -9223372036854775808 ≤ Q ∧ Q ≤ 9223372036854775807) (hy : -9223372036854775808 ≤ y ∧ y ≤ 9223372036854775807) (hz : -9223372036854775808 ≤ z ∧ z ≤ 9223372036854775807) :
    Calls Try.prog 3 #[.slice A zs.length c, MomV N S Q, MomV x y z] w fun e w' => e = .returned (.bool true) ∧ Below w.heap.size w w' := by
  have HS := Lib.hid hs
  have HL := Lib.hid hl
  have K1 := Lib.hid hS
  have K2 := Lib.hid hQ
  have K3 := Lib.hid hy
  have K4 := Lib.hid hz
  clear hs hl hS hQ hy hz
  have F0 := Lib.hid (SB.start (w := w) (N := N) (S := S) (Q := Q) (x := x) (y := y) (z := z))
  go_enter Try.func3, Try.ntmps3
  go_wp2_with fail
  refine (sof_any A zs c _ (F0.out.seg HS.out)).mono ?_
  rintro e w1 ⟨rfl, hb1⟩
  have F1 := Lib.hid (F0.out.below hb1)
  have G1 : Hid (w.heap.size + 2 ≤ w1.heap.size) := F1.out.2.2.2
  clear hb1 F0
  generalize hso : sof zs = so at *
  obtain ⟨⟨m0, m1, m2⟩, me⟩ := so
  have HSO := Lib.hid hso
  clear hso
  dsimp only
  go_wp2_with (first | (refine wpList_store_blk rfl _ _ _ rfl w1.heap.size (mcs m0 m1 m2) rfl rfl tM (mcs 0 0 0) (Blk.new _ _ _) (by kernel_rfl) rfl (mcs_one _ _ _) ?_; intro w2 hb2 hg2 hs2; have F2 := Lib.hid ((F1.out.alloc _).grown hg2 G1.out); have M2 := Lib.hid hb2; clear hs2 hb2 hg2) | (refine wpList_load_blk rfl _ _ rfl w.heap.size rfl _ _ _ F2.out.1 Try.underlying24 rfl (by kernel_rfl) ?_) | (refine wpList_load_blk_g rfl _ _ rfl (w.heap.size + 1) rfl _ _ _ F2.out.2.1 Try.underlying24 rfl (by kernel_rfl) ?_) | fail)
  refine (sjoin_any N S Q x y z _ K1.out K2.out K3.out K4.out).mono ?_
  rintro e w3 ⟨rfl, hb3⟩
  have F3 := Lib.hid (F2.out.below hb3)
  have M3 := Lib.hid (M2.out.below hb3 M2.out.lt)
  have G3 : Hid (w.heap.size + 2 ≤ w3.heap.size) := F3.out.2.2.2
  have G31 : Hid (w1.heap.size < w3.heap.size) := M3.out.lt
  clear hb3 F1 F2 M2
  generalize hsj : sjoin N S Q x y z = sj at *
  obtain ⟨⟨j0, j1, j2⟩, je⟩ := sj
  have HSJ := Lib.hid hsj
  clear hsj
  dsimp only
  go_wp2_with (first | (refine wpList_store_blk rfl _ _ _ rfl w3.heap.size (mcs j0 j1 j2) rfl rfl tM (mcs 0 0 0) (Blk.new _ _ _) (by kernel_rfl) rfl (mcs_one _ _ _) ?_; intro w4 hb4 hg4 hs4; have F4 := Lib.hid ((F3.out.alloc _).grown hg4 G3.out); have M4 := Lib.hid ((M3.out.alloc _).grown hg4 (by have := G31.out; omega)); have J4 := Lib.hid hb4; clear hs4 hb4 hg4) | (refine wpList_load_blk rfl _ _ rfl w.heap.size rfl _ _ _ F4.out.1 Try.underlying24 rfl (by kernel_rfl) ?_) | fail)
  refine (spread_any' N S Q _ K1.out K2.out).mono ?_
  rintro e w5 ⟨rfl, hb5⟩
  have F5 := Lib.hid (F4.out.below hb5)
  have M5 := Lib.hid (M4.out.below hb5 M4.out.lt)
  have J5 := Lib.hid (J4.out.below hb5 J4.out.lt)
  clear hb5 F3 F4 M3 M4 J4
  generalize hsp : sspread N S Q = sp at *
  obtain ⟨s, g⟩ := sp
  have HSP := Lib.hid hsp
  clear hsp
  dsimp only
  go_wp2_with fail
  refine (pwrong_any A zs c _ (F5.out.seg HS.out) HL.out).mono ?_
  rintro e _ ⟨rfl, rfl⟩
  by_cases hp : zs.length ≤ 400 ∧ sall zs
  · have hpw : pwr zs = false := by unfold pwr; rw [decide_eq_true hp]; rfl
    rw [hpw]
    have HSO2 : Hid (((zs.length : Int), ssum zs, ssq zs) = (m0, m1, m2) ∧ me = 0) := by
      have h1 := HSO.out
      rw [sof, if_pos hp] at h1
      injection h1 with h1 h2
      exact ⟨h1, h2.symm⟩
    have HSA := Lib.hid hp.2
    have HLL := Lib.hid hp.1
    have i0 : zs.length ≤ 400 := hp.1
    clear hpw hp
    have hme := HSO2.out.2
    subst hme
    have G5 : Hid (w3.heap.size < w5.heap.size) := J5.out.lt
    have G51 : Hid (w1.heap.size < w5.heap.size) := M5.out.lt
    have G52 : Hid (w.heap.size + 2 ≤ w5.heap.size) := F5.out.2.2.2
    go_wp2_with fail
    go_loopw [43] (fun s43 wr => ∃ k : Nat, k ≤ zs.length ∧ s43 = .int .i64 k ∧ Blk wr w5.heap.size tM (mcs k (ssum (zs.take k)) (ssq (zs.take k))) ∧ SB w wr N S Q x y z ∧ Blk wr w1.heap.size tM (mcs m0 m1 m2) ∧ Blk wr w3.heap.size tM (mcs j0 j1 j2)) (fun s43 _ => zs.length - (intOf s43).toNat)
    case atStart => exact ⟨0, Nat.zero_le _, rfl, Blk.new _ _ _, F5.out.alloc _, M5.out.alloc _, J5.out.alloc _⟩
    case round =>
      obtain ⟨k, hk, rfl, hwant, hF, hM, hJ⟩ := hrel
      have HW := Lib.hid hwant
      have HF := Lib.hid hF
      have HM := Lib.hid hM
      have HJ := Lib.hid hJ
      by_cases hlt : k < zs.length
      · obtain ⟨ad, rfl, _, hc⟩ := (hF.seg HS.out).int hlt
        have c0 := hwant.cell 0 (u := .int .i64 k) rfl
        have c1 := hwant.cell 1 (u := .int .i64 (ssum (zs.take k))) rfl
        have c2 := hwant.cell 2 (u := .int .i64 (ssq (zs.take k))) rfl
        have f0 := hwant.frozen 0
        have f1 := hwant.frozen 1
        have f2 := hwant.frozen 2
        have HT := Lib.hid (stake zs k hlt)
        have hz := HSA.out zs[k] (List.getElem_mem hlt)
        obtain ⟨q1, q2, q3, q4⟩ := sbound (zs.take k) (fun u hu => HSA.out u (List.mem_of_mem_take hu))
        have q5 : (zs.take k).length ≤ 400 := by rw [List.length_take]; omega
        have q6 : -419430400 ≤ ssum (zs.take k) := by omega
        have q7 : ssum (zs.take k) ≤ 419430400 := by omega
        have q8 : ssq (zs.take k) ≤ 439804651110400 := by omega
        obtain ⟨p1, p2⟩ := sq_bound (S := zs[k]) (B := 1048576) hz.1 hz.2 (by decide)
        clear q1 q2 q4 q5 hwant hF hM hJ
        generalize zs[k] = z0 at *
        generalize hx : ssum (zs.take k) = x0 at *
        generalize hy : ssq (zs.take k) = y0 at *
        clear hx hy
        go_wp2_with (first | (refine wpList_store_blk rfl _ _ _ rfl w5.heap.size (mcs ((k : Int) + 1) (x0 + z0) (y0 + z0 * z0)) rfl rfl tM (mcs k x0 y0) HW.out (by kernel_rfl) rfl (mcs_one _ _ _) ?_; intro w6 hb6 hg6 hs6; have HW6 := Lib.hid hb6; have HG6 := Lib.hid hg6; clear hs6 hb6 hg6) | fail)
        go_roundw
        case rel =>
          refine ⟨k + 1, by omega, by go_num, ?_, HF.out.grown HG6.out G52.out, HM.out.grown HG6.out (by have := G51.out; omega), HJ.out.grown HG6.out (by have := G5.out; omega)⟩
          rw [HT.out.1, HT.out.2]
          exact HW6.out
        case measure => simp [intOf]; omega
      · obtain rfl : k = zs.length := by omega
        have htk : Hid (zs.take zs.length = zs) := List.take_length
        have hwant2 := hwant
        rw [htk.out] at hwant2
        have h6 := HSO2.out.1
        injection h6 with h6 h7
        injection h7 with h7 h8
        subst h6 h7 h8
        have HW2 := Lib.hid hwant2
        clear hwant hF hM hJ hwant2 HW
        have a0 := HM.out.cell 0 (u := .int .i64 zs.length) rfl
        have a1 := HM.out.cell 1 (u := .int .i64 (ssum zs)) rfl
        have a2 := HM.out.cell 2 (u := .int .i64 (ssq zs)) rfl
        have x0 := HW2.out.cell 0 (u := .int .i64 zs.length) rfl
        have x1 := HW2.out.cell 1 (u := .int .i64 (ssum zs)) rfl
        have x2 := HW2.out.cell 2 (u := .int .i64 (ssq zs)) rfl
        go_wp2_with fail
        clear a0 a1 a2 x0 x1 x2
        have F5' := HF
        have J5' := HJ
        clear F5 J5 M5
        have F5 := F5'
        have J5 := J5'
        clear F5' J5'
        by_cases ha : mok N S Q
        · have hda : decide (mok N S Q) = true := decide_eq_true ha
          have HA := Lib.hid ha
          clear ha
          refine wp_region_plan [(0, 1), (2, 1), (1, 2), (3, 2), (4, 0)] (fun w' => SB w w' N S Q x y z ∧ Blk w' w3.heap.size tM (mcs j0 j1 j2)) (by kernel_rfl) (by kernel_rfl) (fun _ d _ _ _ h => by cases d <;> exact h) ⟨F5.out.drew, J5.out.drew⟩ ?_
          iterate 2 (refine plan1 (v := MomV N S Q) rfl rfl (by rfl) ?_ ?_; exact fun w' hS => exec_load_blk _ _ rfl _ rfl _ _ _ _ hS.1.1 Try.underlying24 rfl (by kernel_rfl); simp only [List.setIfInBounds_toArray, List.set_cons_zero, List.set_cons_succ])
          refine plan2 rfl rfl fun K' hK' => ?_
          go_simp
          refine (sright_any N S Q _ K1.out K2.out).mono ?_
          rintro e w6 ⟨rfl, hb6⟩
          rw [hda]
          have F6 := Lib.hid (F5.out.drew.below hb6)
          have J6 := Lib.hid (J5.out.drew.below hb6 J5.out.lt)
          refine hK' _ _ ⟨F6.out, J6.out⟩ ?_
          clear hK' K' hb6
          refine plan2 rfl rfl fun K' hK' => ?_
          go_simp
          refine (pright_any N S Q _ K1.out K2.out).mono ?_
          rintro e w7 ⟨rfl, hb7⟩
          rw [hda]
          have F7 := Lib.hid (F6.out.below hb7)
          have J7 := Lib.hid (J6.out.below hb7 J6.out.lt)
          refine hK' _ _ ⟨F7.out, J7.out⟩ ?_
          clear hK' K' hb7 F5 F6 J5 J6
          refine plan0 (v := .bool false) rfl rfl (by rfl) ?_ ?_
          · intro w'; go_simp
          simp only [List.setIfInBounds_toArray, List.set_cons_zero, List.set_cons_succ]
          refine planEnd ?_
          go_wp2_with (first | (refine wpList_load_blk rfl _ _ rfl w.heap.size rfl _ _ _ F7.out.1 Try.underlying24 rfl (by kernel_rfl) ?_) | fail)
          refine (pright_any N S Q _ K1.out K2.out).mono ?_
          rintro e w8 ⟨rfl, hb8⟩
          rw [hda]
          have F8 := Lib.hid (F7.out.below hb8)
          have J8 := Lib.hid (J7.out.below hb8 J7.out.lt)
          clear hb8 F7 J7 hda
          have hsp := HSP.out
          rw [sspread, if_pos HA.out] at hsp
          injection hsp with hp1 hp2
          subst hp1 hp2
          obtain ⟨q0, q1, q2, q3, q4, q5, _, _⟩ := HA.out
          obtain ⟨r0, r1, r2, r3⟩ := mok_bounds (N := N) (S := S) (Q := Q) q0 q1 q2 q3 q4 q5
          have a0 := F8.out.1.cell 0 (u := .int .i64 N) rfl
          have a1 := F8.out.1.cell 1 (u := .int .i64 S) rfl
          have a2 := F8.out.1.cell 2 (u := .int .i64 Q) rfl
          go_wp2_with (first | (refine wpList_load_blk_g rfl _ _ rfl (w.heap.size + 1) rfl _ _ _ F8.out.2.1 Try.underlying24 rfl (by kernel_rfl) ?_) | fail)
          clear a0 a1 a2
          by_cases hbm : mok x y z
          · have hdb : decide (mok x y z) = true := decide_eq_true hbm
            have HBM := Lib.hid hbm
            clear hbm
            refine (pright_any x y z _ K3.out K4.out).mono ?_
            rintro e w9 ⟨rfl, hb9⟩
            rw [hdb]
            have F9 := Lib.hid (F8.out.below hb9)
            have J9 := Lib.hid (J8.out.below hb9 J8.out.lt)
            clear hb9 F8 J8 hdb
            have a0 := F9.out.1.cell 0 (u := .int .i64 N) rfl
            have a1 := F9.out.1.cell 1 (u := .int .i64 S) rfl
            have a2 := F9.out.1.cell 2 (u := .int .i64 Q) rfl
            have x0 := F9.out.2.1.cell 0 (u := .int .i64 x) rfl
            have x1 := F9.out.2.1.cell 1 (u := .int .i64 y) rfl
            have x2 := F9.out.2.1.cell 2 (u := .int .i64 z) rfl
            obtain ⟨p0, p1, p2, p3, p4, p5, _, _⟩ := HBM.out
            have hsj := HSJ.out
            rw [sjoin, if_pos ⟨HA.out, HBM.out⟩] at hsj
            by_cases hbig : 1024 < N + x
            · rw [if_pos hbig] at hsj
              have h1 := hsj
              injection h1 with h1 h2
              injection h1 with h3 h4
              injection h4 with h4 h5
              subst h3 h4 h5 h2
              have b0 := J9.out.cell 0 (u := .int .i64 0) rfl
              have b1 := J9.out.cell 1 (u := .int .i64 0) rfl
              have b2 := J9.out.cell 2 (u := .int .i64 0) rfl
              go_wp2
              go_ret
              exact ⟨rfl, F9.out.2.2.1⟩
            · rw [if_neg hbig] at hsj
              have d3 : decide (1024 < N + x) = false := decide_eq_false hbig
              have h1 := hsj
              injection h1 with h1 h2
              injection h1 with h3 h4
              injection h4 with h4 h5
              subst h3 h4 h5 h2
              have b0 := J9.out.cell 0 (u := .int .i64 (N + x)) rfl
              have b1 := J9.out.cell 1 (u := .int .i64 (S + y)) rfl
              have b2 := J9.out.cell 2 (u := .int .i64 (Q + z)) rfl
              clear hbig
              go_wp2
              go_ret
              exact ⟨rfl, F9.out.2.2.1⟩
          · have hdb : decide (mok x y z) = false := decide_eq_false hbm
            have hsj := HSJ.out
            rw [sjoin, if_neg (fun h => hbm h.2)] at hsj
            have h1 := hsj
            injection h1 with h1 h2
            injection h1 with h3 h4
            injection h4 with h4 h5
            subst h3 h4 h5 h2
            clear hbm
            refine (pright_any x y z _ K3.out K4.out).mono ?_
            rintro e w9 ⟨rfl, hb9⟩
            rw [hdb]
            have F9 := Lib.hid (F8.out.below hb9)
            have J9 := Lib.hid (J8.out.below hb9 J8.out.lt)
            clear hb9 F8 J8 hdb
            have b0 := J9.out.cell 0 (u := .int .i64 0) rfl
            have b1 := J9.out.cell 1 (u := .int .i64 0) rfl
            have b2 := J9.out.cell 2 (u := .int .i64 0) rfl
            go_wp2
            go_ret
            exact ⟨rfl, F9.out.2.2.1⟩
        · have hda : decide (mok N S Q) = false := decide_eq_false ha
          have HA := Lib.hid ha
          clear ha
          refine wp_region_plan [(0, 1), (2, 1), (1, 2), (3, 2), (4, 0)] (fun w' => SB w w' N S Q x y z ∧ Blk w' w3.heap.size tM (mcs j0 j1 j2)) (by kernel_rfl) (by kernel_rfl) (fun _ d _ _ _ h => by cases d <;> exact h) ⟨F5.out.drew, J5.out.drew⟩ ?_
          iterate 2 (refine plan1 (v := MomV N S Q) rfl rfl (by rfl) ?_ ?_; exact fun w' hS => exec_load_blk _ _ rfl _ rfl _ _ _ _ hS.1.1 Try.underlying24 rfl (by kernel_rfl); simp only [List.setIfInBounds_toArray, List.set_cons_zero, List.set_cons_succ])
          refine plan2 rfl rfl fun K' hK' => ?_
          go_simp
          refine (sright_any N S Q _ K1.out K2.out).mono ?_
          rintro e w6 ⟨rfl, hb6⟩
          rw [hda]
          have F6 := Lib.hid (F5.out.drew.below hb6)
          have J6 := Lib.hid (J5.out.drew.below hb6 J5.out.lt)
          refine hK' _ _ ⟨F6.out, J6.out⟩ ?_
          clear hK' K' hb6
          refine plan2 rfl rfl fun K' hK' => ?_
          go_simp
          refine (pright_any N S Q _ K1.out K2.out).mono ?_
          rintro e w7 ⟨rfl, hb7⟩
          rw [hda]
          have F7 := Lib.hid (F6.out.below hb7)
          have J7 := Lib.hid (J6.out.below hb7 J6.out.lt)
          refine hK' _ _ ⟨F7.out, J7.out⟩ ?_
          clear hK' K' hb7 F5 F6 J5 J6
          refine plan0 (v := .bool false) rfl rfl (by rfl) ?_ ?_
          · intro w'; go_simp
          simp only [List.setIfInBounds_toArray, List.set_cons_zero, List.set_cons_succ]
          refine planEnd ?_
          go_wp2_with (first | (refine wpList_load_blk rfl _ _ rfl w.heap.size rfl _ _ _ F7.out.1 Try.underlying24 rfl (by kernel_rfl) ?_) | fail)
          refine (pright_any N S Q _ K1.out K2.out).mono ?_
          rintro e w8 ⟨rfl, hb8⟩
          rw [hda]
          have F8 := Lib.hid (F7.out.below hb8)
          have J8 := Lib.hid (J7.out.below hb8 J7.out.lt)
          clear hb8 F7 J7 hda
          have hsj := HSJ.out
          rw [sjoin, if_neg (fun h => HA.out h.1)] at hsj
          have hsp := HSP.out
          rw [sspread, if_neg HA.out] at hsp
          injection hsp with hp1 hp2
          subst hp1 hp2
          have h1 := hsj
          injection h1 with h1 h2
          injection h1 with h3 h4
          injection h4 with h4 h5
          subst h3 h4 h5 h2
          have b0 := J8.out.cell 0 (u := .int .i64 0) rfl
          have b1 := J8.out.cell 1 (u := .int .i64 0) rfl
          have b2 := J8.out.cell 2 (u := .int .i64 0) rfl
          go_wp2
          go_ret
          exact ⟨rfl, F8.out.2.2.1⟩
  · have hpw : pwr zs = true := by unfold pwr; rw [decide_eq_false hp]; rfl
    rw [hpw]
    have h1 := HSO.out
    rw [sof, if_neg hp] at h1
    injection h1 with h1 h2
    injection h1 with h3 h4
    injection h4 with h4 h5
    subst h3 h4 h5 h2
    clear hpw hp
    have a0 := M5.out.cell 0 (u := .int .i64 0) rfl
    have a1 := M5.out.cell 1 (u := .int .i64 0) rfl
    have a2 := M5.out.cell 2 (u := .int .i64 0) rfl
    go_wp2_with fail
    clear a0 a1 a2
    by_cases ha : mok N S Q
    · have hda : decide (mok N S Q) = true := decide_eq_true ha
      have HA := Lib.hid ha
      clear ha
      refine wp_region_plan [(0, 1), (2, 1), (1, 2), (3, 2), (4, 0)] (fun w' => SB w w' N S Q x y z ∧ Blk w' w3.heap.size tM (mcs j0 j1 j2)) (by kernel_rfl) (by kernel_rfl) (fun _ d _ _ _ h => by cases d <;> exact h) ⟨F5.out.drew, J5.out.drew⟩ ?_
      iterate 2 (refine plan1 (v := MomV N S Q) rfl rfl (by rfl) ?_ ?_; exact fun w' hS => exec_load_blk _ _ rfl _ rfl _ _ _ _ hS.1.1 Try.underlying24 rfl (by kernel_rfl); simp only [List.setIfInBounds_toArray, List.set_cons_zero, List.set_cons_succ])
      refine plan2 rfl rfl fun K' hK' => ?_
      go_simp
      refine (sright_any N S Q _ K1.out K2.out).mono ?_
      rintro e w6 ⟨rfl, hb6⟩
      rw [hda]
      have F6 := Lib.hid (F5.out.drew.below hb6)
      have J6 := Lib.hid (J5.out.drew.below hb6 J5.out.lt)
      refine hK' _ _ ⟨F6.out, J6.out⟩ ?_
      clear hK' K' hb6
      refine plan2 rfl rfl fun K' hK' => ?_
      go_simp
      refine (pright_any N S Q _ K1.out K2.out).mono ?_
      rintro e w7 ⟨rfl, hb7⟩
      rw [hda]
      have F7 := Lib.hid (F6.out.below hb7)
      have J7 := Lib.hid (J6.out.below hb7 J6.out.lt)
      refine hK' _ _ ⟨F7.out, J7.out⟩ ?_
      clear hK' K' hb7 F5 F6 J5 J6
      refine plan0 (v := .bool false) rfl rfl (by rfl) ?_ ?_
      · intro w'; go_simp
      simp only [List.setIfInBounds_toArray, List.set_cons_zero, List.set_cons_succ]
      refine planEnd ?_
      go_wp2_with (first | (refine wpList_load_blk rfl _ _ rfl w.heap.size rfl _ _ _ F7.out.1 Try.underlying24 rfl (by kernel_rfl) ?_) | fail)
      refine (pright_any N S Q _ K1.out K2.out).mono ?_
      rintro e w8 ⟨rfl, hb8⟩
      rw [hda]
      have F8 := Lib.hid (F7.out.below hb8)
      have J8 := Lib.hid (J7.out.below hb8 J7.out.lt)
      clear hb8 F7 J7 hda
      have hsp := HSP.out
      rw [sspread, if_pos HA.out] at hsp
      injection hsp with hp1 hp2
      subst hp1 hp2
      obtain ⟨q0, q1, q2, q3, q4, q5, _, _⟩ := HA.out
      obtain ⟨r0, r1, r2, r3⟩ := mok_bounds (N := N) (S := S) (Q := Q) q0 q1 q2 q3 q4 q5
      have a0 := F8.out.1.cell 0 (u := .int .i64 N) rfl
      have a1 := F8.out.1.cell 1 (u := .int .i64 S) rfl
      have a2 := F8.out.1.cell 2 (u := .int .i64 Q) rfl
      go_wp2_with (first | (refine wpList_load_blk_g rfl _ _ rfl (w.heap.size + 1) rfl _ _ _ F8.out.2.1 Try.underlying24 rfl (by kernel_rfl) ?_) | fail)
      clear a0 a1 a2
      by_cases hbm : mok x y z
      · have hdb : decide (mok x y z) = true := decide_eq_true hbm
        have HBM := Lib.hid hbm
        clear hbm
        refine (pright_any x y z _ K3.out K4.out).mono ?_
        rintro e w9 ⟨rfl, hb9⟩
        rw [hdb]
        have F9 := Lib.hid (F8.out.below hb9)
        have J9 := Lib.hid (J8.out.below hb9 J8.out.lt)
        clear hb9 F8 J8 hdb
        have a0 := F9.out.1.cell 0 (u := .int .i64 N) rfl
        have a1 := F9.out.1.cell 1 (u := .int .i64 S) rfl
        have a2 := F9.out.1.cell 2 (u := .int .i64 Q) rfl
        have x0 := F9.out.2.1.cell 0 (u := .int .i64 x) rfl
        have x1 := F9.out.2.1.cell 1 (u := .int .i64 y) rfl
        have x2 := F9.out.2.1.cell 2 (u := .int .i64 z) rfl
        obtain ⟨p0, p1, p2, p3, p4, p5, _, _⟩ := HBM.out
        have hsj := HSJ.out
        rw [sjoin, if_pos ⟨HA.out, HBM.out⟩] at hsj
        by_cases hbig : 1024 < N + x
        · rw [if_pos hbig] at hsj
          have h1 := hsj
          injection h1 with h1 h2
          injection h1 with h3 h4
          injection h4 with h4 h5
          subst h3 h4 h5 h2
          have b0 := J9.out.cell 0 (u := .int .i64 0) rfl
          have b1 := J9.out.cell 1 (u := .int .i64 0) rfl
          have b2 := J9.out.cell 2 (u := .int .i64 0) rfl
          go_wp2
          go_ret
          exact ⟨rfl, F9.out.2.2.1⟩
        · rw [if_neg hbig] at hsj
          have d3 : decide (1024 < N + x) = false := decide_eq_false hbig
          have h1 := hsj
          injection h1 with h1 h2
          injection h1 with h3 h4
          injection h4 with h4 h5
          subst h3 h4 h5 h2
          have b0 := J9.out.cell 0 (u := .int .i64 (N + x)) rfl
          have b1 := J9.out.cell 1 (u := .int .i64 (S + y)) rfl
          have b2 := J9.out.cell 2 (u := .int .i64 (Q + z)) rfl
          clear hbig
          go_wp2
          go_ret
          exact ⟨rfl, F9.out.2.2.1⟩
      · have hdb : decide (mok x y z) = false := decide_eq_false hbm
        have hsj := HSJ.out
        rw [sjoin, if_neg (fun h => hbm h.2)] at hsj
        have h1 := hsj
        injection h1 with h1 h2
        injection h1 with h3 h4
        injection h4 with h4 h5
        subst h3 h4 h5 h2
        clear hbm
        refine (pright_any x y z _ K3.out K4.out).mono ?_
        rintro e w9 ⟨rfl, hb9⟩
        rw [hdb]
        have F9 := Lib.hid (F8.out.below hb9)
        have J9 := Lib.hid (J8.out.below hb9 J8.out.lt)
        clear hb9 F8 J8 hdb
        have b0 := J9.out.cell 0 (u := .int .i64 0) rfl
        have b1 := J9.out.cell 1 (u := .int .i64 0) rfl
        have b2 := J9.out.cell 2 (u := .int .i64 0) rfl
        go_wp2
        go_ret
        exact ⟨rfl, F9.out.2.2.1⟩
    · have hda : decide (mok N S Q) = false := decide_eq_false ha
      have HA := Lib.hid ha
      clear ha
      refine wp_region_plan [(0, 1), (2, 1), (1, 2), (3, 2), (4, 0)] (fun w' => SB w w' N S Q x y z ∧ Blk w' w3.heap.size tM (mcs j0 j1 j2)) (by kernel_rfl) (by kernel_rfl) (fun _ d _ _ _ h => by cases d <;> exact h) ⟨F5.out.drew, J5.out.drew⟩ ?_
      iterate 2 (refine plan1 (v := MomV N S Q) rfl rfl (by rfl) ?_ ?_; exact fun w' hS => exec_load_blk _ _ rfl _ rfl _ _ _ _ hS.1.1 Try.underlying24 rfl (by kernel_rfl); simp only [List.setIfInBounds_toArray, List.set_cons_zero, List.set_cons_succ])
      refine plan2 rfl rfl fun K' hK' => ?_
      go_simp
      refine (sright_any N S Q _ K1.out K2.out).mono ?_
      rintro e w6 ⟨rfl, hb6⟩
      rw [hda]
      have F6 := Lib.hid (F5.out.drew.below hb6)
      have J6 := Lib.hid (J5.out.drew.below hb6 J5.out.lt)
      refine hK' _ _ ⟨F6.out, J6.out⟩ ?_
      clear hK' K' hb6
      refine plan2 rfl rfl fun K' hK' => ?_
      go_simp
      refine (pright_any N S Q _ K1.out K2.out).mono ?_
      rintro e w7 ⟨rfl, hb7⟩
      rw [hda]
      have F7 := Lib.hid (F6.out.below hb7)
      have J7 := Lib.hid (J6.out.below hb7 J6.out.lt)
      refine hK' _ _ ⟨F7.out, J7.out⟩ ?_
      clear hK' K' hb7 F5 F6 J5 J6
      refine plan0 (v := .bool false) rfl rfl (by rfl) ?_ ?_
      · intro w'; go_simp
      simp only [List.setIfInBounds_toArray, List.set_cons_zero, List.set_cons_succ]
      refine planEnd ?_
      go_wp2_with (first | (refine wpList_load_blk rfl _ _ rfl w.heap.size rfl _ _ _ F7.out.1 Try.underlying24 rfl (by kernel_rfl) ?_) | fail)
      refine (pright_any N S Q _ K1.out K2.out).mono ?_
      rintro e w8 ⟨rfl, hb8⟩
      rw [hda]
      have F8 := Lib.hid (F7.out.below hb8)
      have J8 := Lib.hid (J7.out.below hb8 J7.out.lt)
      clear hb8 F7 J7 hda
      have hsj := HSJ.out
      rw [sjoin, if_neg (fun h => HA.out h.1)] at hsj
      have hsp := HSP.out
      rw [sspread, if_neg HA.out] at hsp
      injection hsp with hp1 hp2
      subst hp1 hp2
      have h1 := hsj
      injection h1 with h1 h2
      injection h1 with h3 h4
      injection h4 with h4 h5
      subst h3 h4 h5 h2
      have b0 := J8.out.cell 0 (u := .int .i64 0) rfl
      have b1 := J8.out.cell 1 (u := .int .i64 0) rfl
      have b2 := J8.out.cell 2 (u := .int .i64 0) rfl
      go_wp2
      go_ret
      exact ⟨rfl, F8.out.2.2.1⟩
end Go.Proofs.Ytakjcodfcoaadab
