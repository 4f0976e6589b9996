/- Pools joined: join.Pools where nothing is drawn, walked. Printed by joigen.py. No condition. -/
import Derived.Test.YtmnjgoicppknjaaJoiA
namespace Go.Proofs.Ytmnjgoicppknjaa
open Go.ChangeShapes Go.WideShapes Go.ChangeAt Go.RowKit
set_option linter.unusedVariables false

theorem three_blocks {w w1 : World} {t1 t2 t3 : TypeId} {c1 c2 c3 : Array Value} (h : Below (w.heap.size + 3) (((w.alloc (.cells c1 t1)).alloc (.cells c2 t2)).alloc (.cells c3 t3)) w1) :
    Blk w1 w.heap.size t1 c1 ∧ Blk w1 (w.heap.size + 1) t2 c2 ∧ Blk w1 (w.heap.size + 2) t3 c3 ∧ Below w.heap.size w w1 := by
  have b1 := ((Blk.new w t1 c1).alloc (.cells c2 t2)).alloc (.cells c3 t3)
  have b2 := (Blk.new (w.alloc (.cells c1 t1)) t2 c2).alloc (.cells c3 t3)
  have b3 := Blk.new ((w.alloc (.cells c1 t1)).alloc (.cells c2 t2)) t3 c3
  rw [show (w.alloc (.cells c1 t1)).heap.size = w.heap.size + 1 by simp] at b2
  rw [show ((w.alloc (.cells c1 t1)).alloc (.cells c2 t2)).heap.size = w.heap.size + 2 by simp] at b3
  refine ⟨b1.below h (by omega), b2.below h (by omega), b3.below h (by omega), ?_⟩
  exact ((((Below.refl _ w).alloc (Nat.le_refl _) _).alloc (by simp) _).alloc (by simp; omega) _).trans (h.mono (by omega))
set_option maxRecDepth 20000 in
set_option maxHeartbeats 2000000 in
theorem jp_bad1 (A C E F : Option Addr) (ra ka rb kb : Int) (na nb nd nw ca cb ce cf : Nat) (w : World) (h : ¬ fright ra ka na) :
    Calls Try.prog 15 #[PoolV ra ka (.slice A na ca), PoolV rb kb (.slice C nb cb), .slice E nd ce, .slice F nw cf] w fun e w' => e = .returned (.tuple #[PoolV 0 0 (.slice none 0 0), .int .i64 1]) ∧ Below w.heap.size w w' := by
  have hfa : decide (fright ra ka na) = false := decide_eq_false h
  clear h
  go_enter Try.func15, Try.ntmps15
  go_wp2_with fail
  refine (right_any A ra ka _ ca _).mono ?_
  rintro e w1 ⟨rfl, hb1⟩
  rw [hfa]
  obtain ⟨BA, BB, BR, hbw⟩ := three_blocks (by simpa using hb1)
  have HA := Lib.hid BA
  have HBB := Lib.hid BB
  have HR := Lib.hid BR
  have HB := Lib.hid hbw
  clear BA BB BR hbw hb1
  go_wp2_with fail
  refine (jno_any 1 _).mono ?_
  rintro e wz ⟨rfl, hbz⟩
  have HRZ := Lib.hid (HR.out.below hbz HR.out.lt)
  have HBZ : Hid (Below w.heap.size w wz) := HB.out.trans (hbz.mono HB.out.size)
  clear hbz
  go_wp2_with (first | (refine wpList_store_blk rfl _ _ _ rfl (w.heap.size + 2) (pcells 0 0 (.slice none 0 0)) rfl rfl _ _ HRZ.out (by kernel_rfl) rfl (pcells_one _ _ _ _ _) ?_; intro w9 hb9 hg9 hs9; have HS9 := Lib.hid hs9; have HB9 := Lib.hid hb9; have HG9 := Lib.hid hg9; clear hs9 hb9 hg9) | fail)
  refine bodyPost_ret (v := .tuple #[PoolV 0 0 (.slice none 0 0), .int .i64 1]) (results_ct (a := 9) Try.results15 _ rfl HB9.out Try.underlying24 rfl (by kernel_rfl)) rfl ⟨rfl, HBZ.out.grown HG9.out HBZ.out.size (fun q hq => by injection hq with hq; omega)⟩
set_option maxRecDepth 20000 in
set_option maxHeartbeats 2000000 in
theorem jp_bad2 (A C E F : Option Addr) (ra ka rb kb : Int) (na nb nd nw ca cb ce cf : Nat) (w : World) (h : fright ra ka na) (h2 : ¬ fright rb kb nb) :
    Calls Try.prog 15 #[PoolV ra ka (.slice A na ca), PoolV rb kb (.slice C nb cb), .slice E nd ce, .slice F nw cf] w fun e w' => e = .returned (.tuple #[PoolV 0 0 (.slice none 0 0), .int .i64 1]) ∧ Below w.heap.size w w' := by
  have hfa : decide (fright ra ka na) = true := decide_eq_true h
  have hfb : decide (fright rb kb nb) = false := decide_eq_false h2
  clear h h2
  go_enter Try.func15, Try.ntmps15
  go_wp2_with fail
  refine (right_any A ra ka _ ca _).mono ?_
  rintro e w1 ⟨rfl, hb1⟩
  rw [hfa]
  obtain ⟨BA, BB, BR, hbw⟩ := three_blocks (by simpa using hb1)
  have HA := Lib.hid BA
  have HBB := Lib.hid BB
  have HR := Lib.hid BR
  have HB := Lib.hid hbw
  clear BA BB BR hbw hb1
  have e0 := HBB.out.cell 0 rfl
  have e1 := HBB.out.cell 1 rfl
  have e2 := HBB.out.cell 2 rfl
  go_wp2_with fail
  clear e0 e1 e2
  refine (right_any C rb kb _ cb _).mono ?_
  rintro e w2 ⟨rfl, hb2⟩
  rw [hfb]
  replace HA := Lib.hid (HA.out.below hb2 HA.out.lt)
  replace HBB := Lib.hid (HBB.out.below hb2 HBB.out.lt)
  replace HR := Lib.hid (HR.out.below hb2 HR.out.lt)
  replace HB : Hid (Below w.heap.size w w2) := HB.out.trans (hb2.mono HB.out.size)
  clear hb2
  have c0 := HA.out.cell 0 rfl
  have c1 := HA.out.cell 1 rfl
  have d0 := HBB.out.cell 0 rfl
  have d1 := HBB.out.cell 1 rfl
  clear c0 c1 d0 d1
  go_wp2_with fail
  refine (jno_any 1 _).mono ?_
  rintro e wz ⟨rfl, hbz⟩
  have HRZ := Lib.hid (HR.out.below hbz HR.out.lt)
  have HBZ : Hid (Below w.heap.size w wz) := HB.out.trans (hbz.mono HB.out.size)
  clear hbz
  go_wp2_with (first | (refine wpList_store_blk rfl _ _ _ rfl (w.heap.size + 2) (pcells 0 0 (.slice none 0 0)) rfl rfl _ _ HRZ.out (by kernel_rfl) rfl (pcells_one _ _ _ _ _) ?_; intro w9 hb9 hg9 hs9; have HS9 := Lib.hid hs9; have HB9 := Lib.hid hb9; have HG9 := Lib.hid hg9; clear hs9 hb9 hg9) | fail)
  refine bodyPost_ret (v := .tuple #[PoolV 0 0 (.slice none 0 0), .int .i64 1]) (results_ct (a := 9) Try.results15 _ rfl HB9.out Try.underlying24 rfl (by kernel_rfl)) rfl ⟨rfl, HBZ.out.grown HG9.out HBZ.out.size (fun q hq => by injection hq with hq; omega)⟩
set_option maxRecDepth 20000 in
set_option maxHeartbeats 2000000 in
theorem jp_bad3 (A C E F : Option Addr) (ra ka rb kb : Int) (na nb nd nw ca cb ce cf : Nat) (w : World) (h : fright ra ka na) (h2 : fright rb kb nb) (h3 : ra ≠ rb) :
    Calls Try.prog 15 #[PoolV ra ka (.slice A na ca), PoolV rb kb (.slice C nb cb), .slice E nd ce, .slice F nw cf] w fun e w' => e = .returned (.tuple #[PoolV 0 0 (.slice none 0 0), .int .i64 1]) ∧ Below w.heap.size w w' := by
  have hfa : decide (fright ra ka na) = true := decide_eq_true h
  have hfb : decide (fright rb kb nb) = true := decide_eq_true h2
  have hne : (ra != rb) = true := by simpa using h3
  clear h h2 h3
  go_enter Try.func15, Try.ntmps15
  go_wp2_with fail
  refine (right_any A ra ka _ ca _).mono ?_
  rintro e w1 ⟨rfl, hb1⟩
  rw [hfa]
  obtain ⟨BA, BB, BR, hbw⟩ := three_blocks (by simpa using hb1)
  have HA := Lib.hid BA
  have HBB := Lib.hid BB
  have HR := Lib.hid BR
  have HB := Lib.hid hbw
  clear BA BB BR hbw hb1
  have e0 := HBB.out.cell 0 rfl
  have e1 := HBB.out.cell 1 rfl
  have e2 := HBB.out.cell 2 rfl
  go_wp2_with fail
  clear e0 e1 e2
  refine (right_any C rb kb _ cb _).mono ?_
  rintro e w2 ⟨rfl, hb2⟩
  rw [hfb]
  replace HA := Lib.hid (HA.out.below hb2 HA.out.lt)
  replace HBB := Lib.hid (HBB.out.below hb2 HBB.out.lt)
  replace HR := Lib.hid (HR.out.below hb2 HR.out.lt)
  replace HB : Hid (Below w.heap.size w w2) := HB.out.trans (hb2.mono HB.out.size)
  clear hb2
  have c0 := HA.out.cell 0 rfl
  have c1 := HA.out.cell 1 rfl
  have d0 := HBB.out.cell 0 rfl
  have d1 := HBB.out.cell 1 rfl
  go_wp2_with fail
  refine (jno_any 1 _).mono ?_
  rintro e wz ⟨rfl, hbz⟩
  have HRZ := Lib.hid (HR.out.below hbz HR.out.lt)
  have HBZ : Hid (Below w.heap.size w wz) := HB.out.trans (hbz.mono HB.out.size)
  clear hbz
  go_wp2_with (first | (refine wpList_store_blk rfl _ _ _ rfl (w.heap.size + 2) (pcells 0 0 (.slice none 0 0)) rfl rfl _ _ HRZ.out (by kernel_rfl) rfl (pcells_one _ _ _ _ _) ?_; intro w9 hb9 hg9 hs9; have HS9 := Lib.hid hs9; have HB9 := Lib.hid hb9; have HG9 := Lib.hid hg9; clear hs9 hb9 hg9) | fail)
  refine bodyPost_ret (v := .tuple #[PoolV 0 0 (.slice none 0 0), .int .i64 1]) (results_ct (a := 9) Try.results15 _ rfl HB9.out Try.underlying24 rfl (by kernel_rfl)) rfl ⟨rfl, HBZ.out.grown HG9.out HBZ.out.size (fun q hq => by injection hq with hq; omega)⟩
set_option maxRecDepth 20000 in
set_option maxHeartbeats 2000000 in
theorem jp_bad4 (A C E F : Option Addr) (ra ka rb kb : Int) (na nb nd nw ca cb ce cf : Nat) (w : World) (h : fright ra ka na) (h2 : fright rb kb nb) (h3 : ra = rb) (h4 : 1099511627776 < ka + kb) :
    Calls Try.prog 15 #[PoolV ra ka (.slice A na ca), PoolV rb kb (.slice C nb cb), .slice E nd ce, .slice F nw cf] w fun e w' => e = .returned (.tuple #[PoolV 0 0 (.slice none 0 0), .int .i64 4]) ∧ Below w.heap.size w w' := by
  have hfa : decide (fright ra ka na) = true := decide_eq_true h
  have hfb : decide (fright rb kb nb) = true := decide_eq_true h2
  have hne : (ra != rb) = false := by simpa using h3
  have hw : wrap64 (1099511627776 - kb) = 1099511627776 - kb := by unfold fright at h2; unfold wrap64; omega
  have hgt : 1099511627776 - kb < ka := by omega
  clear h h2 h3 h4
  go_enter Try.func15, Try.ntmps15
  go_wp2_with fail
  refine (right_any A ra ka _ ca _).mono ?_
  rintro e w1 ⟨rfl, hb1⟩
  rw [hfa]
  obtain ⟨BA, BB, BR, hbw⟩ := three_blocks (by simpa using hb1)
  have HA := Lib.hid BA
  have HBB := Lib.hid BB
  have HR := Lib.hid BR
  have HB := Lib.hid hbw
  clear BA BB BR hbw hb1
  have e0 := HBB.out.cell 0 rfl
  have e1 := HBB.out.cell 1 rfl
  have e2 := HBB.out.cell 2 rfl
  go_wp2_with fail
  clear e0 e1 e2
  refine (right_any C rb kb _ cb _).mono ?_
  rintro e w2 ⟨rfl, hb2⟩
  rw [hfb]
  replace HA := Lib.hid (HA.out.below hb2 HA.out.lt)
  replace HBB := Lib.hid (HBB.out.below hb2 HBB.out.lt)
  replace HR := Lib.hid (HR.out.below hb2 HR.out.lt)
  replace HB : Hid (Below w.heap.size w w2) := HB.out.trans (hb2.mono HB.out.size)
  clear hb2
  have c0 := HA.out.cell 0 rfl
  have c1 := HA.out.cell 1 rfl
  have d0 := HBB.out.cell 0 rfl
  have d1 := HBB.out.cell 1 rfl
  go_wp2_with fail
  refine (jno_any 4 _).mono ?_
  rintro e wz ⟨rfl, hbz⟩
  have HRZ := Lib.hid (HR.out.below hbz HR.out.lt)
  have HBZ : Hid (Below w.heap.size w wz) := HB.out.trans (hbz.mono HB.out.size)
  clear hbz
  go_wp2_with (first | (refine wpList_store_blk rfl _ _ _ rfl (w.heap.size + 2) (pcells 0 0 (.slice none 0 0)) rfl rfl _ _ HRZ.out (by kernel_rfl) rfl (pcells_one _ _ _ _ _) ?_; intro w9 hb9 hg9 hs9; have HS9 := Lib.hid hs9; have HB9 := Lib.hid hb9; have HG9 := Lib.hid hg9; clear hs9 hb9 hg9) | fail)
  refine bodyPost_ret (v := .tuple #[PoolV 0 0 (.slice none 0 0), .int .i64 4]) (results_ct (a := 9) Try.results15 _ rfl HB9.out Try.underlying24 rfl (by kernel_rfl)) rfl ⟨rfl, HBZ.out.grown HG9.out HBZ.out.size (fun q hq => by injection hq with hq; omega)⟩
set_option maxRecDepth 20000 in
set_option maxHeartbeats 2000000 in
theorem jp_bad5 (A C E F : Option Addr) (ra ka rb kb : Int) (na nb nd nw ca cb ce cf : Nat) (w : World) (h : fright ra ka na) (h2 : fright rb kb nb) (h3 : ra = rb) (h4 : ¬ 1099511627776 < ka + kb) (h5 : (nd : Int) < min ra (ka + kb)) :
    Calls Try.prog 15 #[PoolV ra ka (.slice A na ca), PoolV rb kb (.slice C nb cb), .slice E nd ce, .slice F nw cf] w fun e w' => e = .returned (.tuple #[PoolV 0 0 (.slice none 0 0), .int .i64 7]) ∧ Below w.heap.size w w' := by
  have hfa : decide (fright ra ka na) = true := decide_eq_true h
  have hfb : decide (fright rb kb nb) = true := decide_eq_true h2
  have hne : (ra != rb) = false := by simpa using h3
  have hw : wrap64 (1099511627776 - kb) = 1099511627776 - kb := by unfold fright at h2; unfold wrap64; omega
  have hw2 : wrap64 (ka + kb) = ka + kb := by unfold fright at h h2; unfold wrap64; omega
  have hgt : ¬ 1099511627776 - kb < ka := by omega
  obtain ⟨X, hX⟩ : ∃ X, (if ka + kb < ra then ka + kb else ra) = X := ⟨_, rfl⟩
  have hXm : min ra (ka + kb) = X := by rw [← hX]; split <;> omega
  rw [hXm] at h5
  clear h h2 h3 h4 hXm
  go_enter Try.func15, Try.ntmps15
  go_wp2_with fail
  refine (right_any A ra ka _ ca _).mono ?_
  rintro e w1 ⟨rfl, hb1⟩
  rw [hfa]
  obtain ⟨BA, BB, BR, hbw⟩ := three_blocks (by simpa using hb1)
  have HA := Lib.hid BA
  have HBB := Lib.hid BB
  have HR := Lib.hid BR
  have HB := Lib.hid hbw
  clear BA BB BR hbw hb1
  have e0 := HBB.out.cell 0 rfl
  have e1 := HBB.out.cell 1 rfl
  have e2 := HBB.out.cell 2 rfl
  go_wp2_with fail
  clear e0 e1 e2
  refine (right_any C rb kb _ cb _).mono ?_
  rintro e w2 ⟨rfl, hb2⟩
  rw [hfb]
  replace HA := Lib.hid (HA.out.below hb2 HA.out.lt)
  replace HBB := Lib.hid (HBB.out.below hb2 HBB.out.lt)
  replace HR := Lib.hid (HR.out.below hb2 HR.out.lt)
  replace HB : Hid (Below w.heap.size w w2) := HB.out.trans (hb2.mono HB.out.size)
  clear hb2
  have c0 := HA.out.cell 0 rfl
  have c1 := HA.out.cell 1 rfl
  have d0 := HBB.out.cell 0 rfl
  have d1 := HBB.out.cell 1 rfl
  have HBO : Hid (Blk (w2.alloc (.cells (pcells 0 0 (.slice none 0 0)) 24)) w2.heap.size 24 (pcells 0 0 (.slice none 0 0))) := Blk.new w2 _ _
  have HZ2 : Hid (w.heap.size + 2 < w2.heap.size) := HR.out.lt
  go_wp2_with (first | (refine wpList_store_blk rfl _ _ _ rfl w2.heap.size (pcells ra (ka + kb) (.slice none 0 0)) rfl rfl _ _ HBO.out (by kernel_rfl) rfl (pcells_one _ _ _ _ _) ?_; intro w3 hb3 hg3 hs3; have HS3 := Lib.hid hs3; have HO3 := Lib.hid hb3; have HG3 := Lib.hid hg3; have o0 := HO3.out.cell 0 rfl; have o1 := HO3.out.cell 1 rfl; clear hs3 hb3 hg3) | fail)
  replace HA := Lib.hid (Blk.grown (HA.out.alloc _) HG3.out (by have := HZ2.out; omega))
  replace HBB := Lib.hid (Blk.grown (HBB.out.alloc _) HG3.out (by have := HZ2.out; omega))
  replace HR := Lib.hid (Blk.grown (HR.out.alloc _) HG3.out (by have := HZ2.out; omega))
  replace HB : Hid (Below w.heap.size w w3) := Below.grown (HB.out.alloc (by have := HZ2.out; omega) _) HG3.out (by simp; have := HZ2.out; omega) (fun q hq => by injection hq with hq; have := HZ2.out; omega)
  clear c0 c1 d0 d1 o0 o1
  go_wp2_with fail
  refine (jno_any 7 _).mono ?_
  rintro e wz ⟨rfl, hbz⟩
  have HRZ := Lib.hid (HR.out.below hbz HR.out.lt)
  have HBZ : Hid (Below w.heap.size w wz) := HB.out.trans (hbz.mono HB.out.size)
  clear hbz
  go_wp2_with (first | (refine wpList_store_blk rfl _ _ _ rfl (w.heap.size + 2) (pcells 0 0 (.slice none 0 0)) rfl rfl _ _ HRZ.out (by kernel_rfl) rfl (pcells_one _ _ _ _ _) ?_; intro w9 hb9 hg9 hs9; have HS9 := Lib.hid hs9; have HB9 := Lib.hid hb9; have HG9 := Lib.hid hg9; clear hs9 hb9 hg9) | fail)
  refine bodyPost_ret (v := .tuple #[PoolV 0 0 (.slice none 0 0), .int .i64 7]) (results_ct (a := 9) Try.results15 _ rfl HB9.out Try.underlying24 rfl (by kernel_rfl)) rfl ⟨rfl, HBZ.out.grown HG9.out HBZ.out.size (fun q hq => by injection hq with hq; omega)⟩
set_option maxRecDepth 20000 in
set_option maxHeartbeats 2000000 in
theorem jp_bad6 (A C E F : Option Addr) (ra ka rb kb : Int) (na nb nd nw ca cb ce cf : Nat) (w : World) (h : fright ra ka na) (h2 : fright rb kb nb) (h3 : ra = rb) (h4 : ¬ 1099511627776 < ka + kb) (h5 : ¬ (nd : Int) < min ra (ka + kb)) (h6 : (nw : Int) < min ra (ka + kb)) :
    Calls Try.prog 15 #[PoolV ra ka (.slice A na ca), PoolV rb kb (.slice C nb cb), .slice E nd ce, .slice F nw cf] w fun e w' => e = .returned (.tuple #[PoolV 0 0 (.slice none 0 0), .int .i64 7]) ∧ Below w.heap.size w w' := by
  have hfa : decide (fright ra ka na) = true := decide_eq_true h
  have hfb : decide (fright rb kb nb) = true := decide_eq_true h2
  have hne : (ra != rb) = false := by simpa using h3
  have hw : wrap64 (1099511627776 - kb) = 1099511627776 - kb := by unfold fright at h2; unfold wrap64; omega
  have hw2 : wrap64 (ka + kb) = ka + kb := by unfold fright at h h2; unfold wrap64; omega
  have hgt : ¬ 1099511627776 - kb < ka := by omega
  obtain ⟨X, hX⟩ : ∃ X, (if ka + kb < ra then ka + kb else ra) = X := ⟨_, rfl⟩
  have hXm : min ra (ka + kb) = X := by rw [← hX]; split <;> omega
  rw [hXm] at h5 h6
  clear h h2 h3 h4 hXm
  go_enter Try.func15, Try.ntmps15
  go_wp2_with fail
  refine (right_any A ra ka _ ca _).mono ?_
  rintro e w1 ⟨rfl, hb1⟩
  rw [hfa]
  obtain ⟨BA, BB, BR, hbw⟩ := three_blocks (by simpa using hb1)
  have HA := Lib.hid BA
  have HBB := Lib.hid BB
  have HR := Lib.hid BR
  have HB := Lib.hid hbw
  clear BA BB BR hbw hb1
  have e0 := HBB.out.cell 0 rfl
  have e1 := HBB.out.cell 1 rfl
  have e2 := HBB.out.cell 2 rfl
  go_wp2_with fail
  clear e0 e1 e2
  refine (right_any C rb kb _ cb _).mono ?_
  rintro e w2 ⟨rfl, hb2⟩
  rw [hfb]
  replace HA := Lib.hid (HA.out.below hb2 HA.out.lt)
  replace HBB := Lib.hid (HBB.out.below hb2 HBB.out.lt)
  replace HR := Lib.hid (HR.out.below hb2 HR.out.lt)
  replace HB : Hid (Below w.heap.size w w2) := HB.out.trans (hb2.mono HB.out.size)
  clear hb2
  have c0 := HA.out.cell 0 rfl
  have c1 := HA.out.cell 1 rfl
  have d0 := HBB.out.cell 0 rfl
  have d1 := HBB.out.cell 1 rfl
  have HBO : Hid (Blk (w2.alloc (.cells (pcells 0 0 (.slice none 0 0)) 24)) w2.heap.size 24 (pcells 0 0 (.slice none 0 0))) := Blk.new w2 _ _
  have HZ2 : Hid (w.heap.size + 2 < w2.heap.size) := HR.out.lt
  go_wp2_with (first | (refine wpList_store_blk rfl _ _ _ rfl w2.heap.size (pcells ra (ka + kb) (.slice none 0 0)) rfl rfl _ _ HBO.out (by kernel_rfl) rfl (pcells_one _ _ _ _ _) ?_; intro w3 hb3 hg3 hs3; have HS3 := Lib.hid hs3; have HO3 := Lib.hid hb3; have HG3 := Lib.hid hg3; have o0 := HO3.out.cell 0 rfl; have o1 := HO3.out.cell 1 rfl; clear hs3 hb3 hg3) | fail)
  replace HA := Lib.hid (Blk.grown (HA.out.alloc _) HG3.out (by have := HZ2.out; omega))
  replace HBB := Lib.hid (Blk.grown (HBB.out.alloc _) HG3.out (by have := HZ2.out; omega))
  replace HR := Lib.hid (Blk.grown (HR.out.alloc _) HG3.out (by have := HZ2.out; omega))
  replace HB : Hid (Below w.heap.size w w3) := Below.grown (HB.out.alloc (by have := HZ2.out; omega) _) HG3.out (by simp; have := HZ2.out; omega) (fun q hq => by injection hq with hq; have := HZ2.out; omega)
  clear c0 c1 d0 d1 o0 o1
  go_wp2_with fail
  refine (jno_any 7 _).mono ?_
  rintro e wz ⟨rfl, hbz⟩
  have HRZ := Lib.hid (HR.out.below hbz HR.out.lt)
  have HBZ : Hid (Below w.heap.size w wz) := HB.out.trans (hbz.mono HB.out.size)
  clear hbz
  go_wp2_with (first | (refine wpList_store_blk rfl _ _ _ rfl (w.heap.size + 2) (pcells 0 0 (.slice none 0 0)) rfl rfl _ _ HRZ.out (by kernel_rfl) rfl (pcells_one _ _ _ _ _) ?_; intro w9 hb9 hg9 hs9; have HS9 := Lib.hid hs9; have HB9 := Lib.hid hb9; have HG9 := Lib.hid hg9; clear hs9 hb9 hg9) | fail)
  refine bodyPost_ret (v := .tuple #[PoolV 0 0 (.slice none 0 0), .int .i64 7]) (results_ct (a := 9) Try.results15 _ rfl HB9.out Try.underlying24 rfl (by kernel_rfl)) rfl ⟨rfl, HBZ.out.grown HG9.out HBZ.out.size (fun q hq => by injection hq with hq; omega)⟩
end Go.Proofs.Ytmnjgoicppknjaa
