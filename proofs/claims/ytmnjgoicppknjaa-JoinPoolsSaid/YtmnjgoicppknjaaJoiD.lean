/- Pools joined: the reference where nothing is drawn, walked. Printed by joigen2.py. No condition. -/
import Derived.Test.YtmnjgoicppknjaaJoiB
namespace Go.Proofs.Ytmnjgoicppknjaa
open Go.ChangeShapes Go.WideShapes Go.ChangeAt Go.RowKit
set_option linter.unusedVariables false

set_option maxRecDepth 20000 in
set_option maxHeartbeats 2000000 in
theorem jg_bad1 (A C E F : Option Addr) (ra ka rb kb : Int) (na nb nd nw ca cb ce cf : Nat) (w : World) (h : ¬ fright ra ka na) :
    Calls Try.prog 16 #[PoolV ra ka (.slice A na ca), PoolV rb kb (.slice C nb cb), .slice E nd ce, .slice F nw cf] w fun e w' => e = .returned (.tuple #[PoolV 0 0 (.slice none 0 0), .int .i64 1]) ∧ Below w.heap.size w w' := by
  have hfa : decide (fright ra ka na) = false := decide_eq_false h
  clear h
  go_enter Try.func16, Try.ntmps16
  go_wp2_with fail
  refine (rright_any A ra ka _ ca _).mono ?_
  rintro e w1 ⟨rfl, hb1⟩
  rw [hfa]
  obtain ⟨BA, BB, BR, hbw⟩ := three_blocks (by simpa using hb1)
  have HA := Lib.hid BA
  have HBB := Lib.hid BB
  have HR := Lib.hid BR
  have HB := Lib.hid hbw
  clear BA BB BR hbw hb1
  go_wp2_with (first | (refine wpList_store_blk rfl _ _ _ rfl (w.heap.size + 2) (pcells 0 0 (.slice none 0 0)) rfl rfl _ _ HR.out (by kernel_rfl) rfl (pcells_one _ _ _ _ _) ?_; intro w9 hb9 hg9 hs9; have HS9 := Lib.hid hs9; have HB9 := Lib.hid hb9; have HG9 := Lib.hid hg9; clear hs9 hb9 hg9) | fail)
  refine bodyPost_ret (v := .tuple #[PoolV 0 0 (.slice none 0 0), .int .i64 1]) (results_ct (a := 9) Try.results16 _ rfl HB9.out Try.underlying24 rfl (by kernel_rfl)) rfl ⟨rfl, HB.out.grown HG9.out HB.out.size (fun q hq => by injection hq with hq; omega)⟩
set_option maxRecDepth 20000 in
set_option maxHeartbeats 2000000 in
theorem jg_bad2 (A C E F : Option Addr) (ra ka rb kb : Int) (na nb nd nw ca cb ce cf : Nat) (w : World) (h : fright ra ka na) (h2 : ¬ fright rb kb nb) :
    Calls Try.prog 16 #[PoolV ra ka (.slice A na ca), PoolV rb kb (.slice C nb cb), .slice E nd ce, .slice F nw cf] w fun e w' => e = .returned (.tuple #[PoolV 0 0 (.slice none 0 0), .int .i64 1]) ∧ Below w.heap.size w w' := by
  have hfa : decide (fright ra ka na) = true := decide_eq_true h
  have hfb : decide (fright rb kb nb) = false := decide_eq_false h2
  clear h h2
  go_enter Try.func16, Try.ntmps16
  go_wp2_with fail
  refine (rright_any A ra ka _ ca _).mono ?_
  rintro e w1 ⟨rfl, hb1⟩
  rw [hfa]
  obtain ⟨BA, BB, BR, hbw⟩ := three_blocks (by simpa using hb1)
  have HA := Lib.hid BA
  have HBB := Lib.hid BB
  have HR := Lib.hid BR
  have HB := Lib.hid hbw
  clear BA BB BR hbw hb1
  have e0 := HBB.out.cell 0 rfl
  have e1 := HBB.out.cell 1 rfl
  have e2 := HBB.out.cell 2 rfl
  go_wp2_with fail
  clear e0 e1 e2
  refine (rright_any C rb kb _ cb _).mono ?_
  rintro e w2 ⟨rfl, hb2⟩
  rw [hfb]
  replace HA := Lib.hid (HA.out.below hb2 HA.out.lt)
  replace HBB := Lib.hid (HBB.out.below hb2 HBB.out.lt)
  replace HR := Lib.hid (HR.out.below hb2 HR.out.lt)
  replace HB : Hid (Below w.heap.size w w2) := HB.out.trans (hb2.mono HB.out.size)
  clear hb2
  have c0 := HA.out.cell 0 rfl
  have c1 := HA.out.cell 1 rfl
  have d0 := HBB.out.cell 0 rfl
  have d1 := HBB.out.cell 1 rfl
  clear c0 c1 d0 d1
  go_wp2_with (first | (refine wpList_store_blk rfl _ _ _ rfl (w.heap.size + 2) (pcells 0 0 (.slice none 0 0)) rfl rfl _ _ HR.out (by kernel_rfl) rfl (pcells_one _ _ _ _ _) ?_; intro w9 hb9 hg9 hs9; have HS9 := Lib.hid hs9; have HB9 := Lib.hid hb9; have HG9 := Lib.hid hg9; clear hs9 hb9 hg9) | fail)
  refine bodyPost_ret (v := .tuple #[PoolV 0 0 (.slice none 0 0), .int .i64 1]) (results_ct (a := 9) Try.results16 _ rfl HB9.out Try.underlying24 rfl (by kernel_rfl)) rfl ⟨rfl, HB.out.grown HG9.out HB.out.size (fun q hq => by injection hq with hq; omega)⟩
set_option maxRecDepth 20000 in
set_option maxHeartbeats 2000000 in
theorem jg_bad3 (A C E F : Option Addr) (ra ka rb kb : Int) (na nb nd nw ca cb ce cf : Nat) (w : World) (h : fright ra ka na) (h2 : fright rb kb nb) (h3 : ra ≠ rb) :
    Calls Try.prog 16 #[PoolV ra ka (.slice A na ca), PoolV rb kb (.slice C nb cb), .slice E nd ce, .slice F nw cf] w fun e w' => e = .returned (.tuple #[PoolV 0 0 (.slice none 0 0), .int .i64 1]) ∧ Below w.heap.size w w' := by
  have hfa : decide (fright ra ka na) = true := decide_eq_true h
  have hfb : decide (fright rb kb nb) = true := decide_eq_true h2
  have hne : (ra != rb) = true := by simpa using h3
  clear h h2 h3
  go_enter Try.func16, Try.ntmps16
  go_wp2_with fail
  refine (rright_any A ra ka _ ca _).mono ?_
  rintro e w1 ⟨rfl, hb1⟩
  rw [hfa]
  obtain ⟨BA, BB, BR, hbw⟩ := three_blocks (by simpa using hb1)
  have HA := Lib.hid BA
  have HBB := Lib.hid BB
  have HR := Lib.hid BR
  have HB := Lib.hid hbw
  clear BA BB BR hbw hb1
  have e0 := HBB.out.cell 0 rfl
  have e1 := HBB.out.cell 1 rfl
  have e2 := HBB.out.cell 2 rfl
  go_wp2_with fail
  clear e0 e1 e2
  refine (rright_any C rb kb _ cb _).mono ?_
  rintro e w2 ⟨rfl, hb2⟩
  rw [hfb]
  replace HA := Lib.hid (HA.out.below hb2 HA.out.lt)
  replace HBB := Lib.hid (HBB.out.below hb2 HBB.out.lt)
  replace HR := Lib.hid (HR.out.below hb2 HR.out.lt)
  replace HB : Hid (Below w.heap.size w w2) := HB.out.trans (hb2.mono HB.out.size)
  clear hb2
  have c0 := HA.out.cell 0 rfl
  have c1 := HA.out.cell 1 rfl
  have d0 := HBB.out.cell 0 rfl
  have d1 := HBB.out.cell 1 rfl
  go_wp2_with (first | (refine wpList_store_blk rfl _ _ _ rfl (w.heap.size + 2) (pcells 0 0 (.slice none 0 0)) rfl rfl _ _ HR.out (by kernel_rfl) rfl (pcells_one _ _ _ _ _) ?_; intro w9 hb9 hg9 hs9; have HS9 := Lib.hid hs9; have HB9 := Lib.hid hb9; have HG9 := Lib.hid hg9; clear hs9 hb9 hg9) | fail)
  refine bodyPost_ret (v := .tuple #[PoolV 0 0 (.slice none 0 0), .int .i64 1]) (results_ct (a := 9) Try.results16 _ rfl HB9.out Try.underlying24 rfl (by kernel_rfl)) rfl ⟨rfl, HB.out.grown HG9.out HB.out.size (fun q hq => by injection hq with hq; omega)⟩
set_option maxRecDepth 20000 in
set_option maxHeartbeats 2000000 in
theorem jg_bad4 (A C E F : Option Addr) (ra ka rb kb : Int) (na nb nd nw ca cb ce cf : Nat) (w : World) (h : fright ra ka na) (h2 : fright rb kb nb) (h3 : ra = rb) (h4 : 1099511627776 < ka + kb) :
    Calls Try.prog 16 #[PoolV ra ka (.slice A na ca), PoolV rb kb (.slice C nb cb), .slice E nd ce, .slice F nw cf] w fun e w' => e = .returned (.tuple #[PoolV 0 0 (.slice none 0 0), .int .i64 4]) ∧ Below w.heap.size w w' := by
  have hfa : decide (fright ra ka na) = true := decide_eq_true h
  have hfb : decide (fright rb kb nb) = true := decide_eq_true h2
  have hne : (ra != rb) = false := by simpa using h3
  have hw2 : wrap64 (ka + kb) = ka + kb := by unfold fright at h h2; unfold wrap64; omega
  clear h h2 h3
  go_enter Try.func16, Try.ntmps16
  go_wp2_with fail
  refine (rright_any A ra ka _ ca _).mono ?_
  rintro e w1 ⟨rfl, hb1⟩
  rw [hfa]
  obtain ⟨BA, BB, BR, hbw⟩ := three_blocks (by simpa using hb1)
  have HA := Lib.hid BA
  have HBB := Lib.hid BB
  have HR := Lib.hid BR
  have HB := Lib.hid hbw
  clear BA BB BR hbw hb1
  have e0 := HBB.out.cell 0 rfl
  have e1 := HBB.out.cell 1 rfl
  have e2 := HBB.out.cell 2 rfl
  go_wp2_with fail
  clear e0 e1 e2
  refine (rright_any C rb kb _ cb _).mono ?_
  rintro e w2 ⟨rfl, hb2⟩
  rw [hfb]
  replace HA := Lib.hid (HA.out.below hb2 HA.out.lt)
  replace HBB := Lib.hid (HBB.out.below hb2 HBB.out.lt)
  replace HR := Lib.hid (HR.out.below hb2 HR.out.lt)
  replace HB : Hid (Below w.heap.size w w2) := HB.out.trans (hb2.mono HB.out.size)
  clear hb2
  have c0 := HA.out.cell 0 rfl
  have c1 := HA.out.cell 1 rfl
  have d0 := HBB.out.cell 0 rfl
  have d1 := HBB.out.cell 1 rfl
  go_wp2_with (first | (refine wpList_store_blk rfl _ _ _ rfl (w.heap.size + 2) (pcells 0 0 (.slice none 0 0)) rfl rfl _ _ HR.out (by kernel_rfl) rfl (pcells_one _ _ _ _ _) ?_; intro w9 hb9 hg9 hs9; have HS9 := Lib.hid hs9; have HB9 := Lib.hid hb9; have HG9 := Lib.hid hg9; clear hs9 hb9 hg9) | fail)
  refine bodyPost_ret (v := .tuple #[PoolV 0 0 (.slice none 0 0), .int .i64 4]) (results_ct (a := 9) Try.results16 _ rfl HB9.out Try.underlying24 rfl (by kernel_rfl)) rfl ⟨rfl, HB.out.grown HG9.out HB.out.size (fun q hq => by injection hq with hq; omega)⟩
set_option maxRecDepth 20000 in
set_option maxHeartbeats 2000000 in
theorem jg_bad5a (A C E F : Option Addr) (ra ka rb kb : Int) (na nb nd nw ca cb ce cf : Nat) (w : World) (h : fright ra ka na) (h2 : fright rb kb nb) (h3 : ra = rb) (h4 : ¬ 1099511627776 < ka + kb) (h7 : ra < ka + kb) (h5 : (nd : Int) < ra) :
    Calls Try.prog 16 #[PoolV ra ka (.slice A na ca), PoolV rb kb (.slice C nb cb), .slice E nd ce, .slice F nw cf] w fun e w' => e = .returned (.tuple #[PoolV 0 0 (.slice none 0 0), .int .i64 7]) ∧ Below w.heap.size w w' := by
  have hfa : decide (fright ra ka na) = true := decide_eq_true h
  have hfb : decide (fright rb kb nb) = true := decide_eq_true h2
  have hne : (ra != rb) = false := by simpa using h3
  have hw2 : wrap64 (ka + kb) = ka + kb := by unfold fright at h h2; unfold wrap64; omega
  clear h h2 h3
  go_enter Try.func16, Try.ntmps16
  go_wp2_with fail
  refine (rright_any A ra ka _ ca _).mono ?_
  rintro e w1 ⟨rfl, hb1⟩
  rw [hfa]
  obtain ⟨BA, BB, BR, hbw⟩ := three_blocks (by simpa using hb1)
  have HA := Lib.hid BA
  have HBB := Lib.hid BB
  have HR := Lib.hid BR
  have HB := Lib.hid hbw
  clear BA BB BR hbw hb1
  have e0 := HBB.out.cell 0 rfl
  have e1 := HBB.out.cell 1 rfl
  have e2 := HBB.out.cell 2 rfl
  go_wp2_with fail
  clear e0 e1 e2
  refine (rright_any C rb kb _ cb _).mono ?_
  rintro e w2 ⟨rfl, hb2⟩
  rw [hfb]
  replace HA := Lib.hid (HA.out.below hb2 HA.out.lt)
  replace HBB := Lib.hid (HBB.out.below hb2 HBB.out.lt)
  replace HR := Lib.hid (HR.out.below hb2 HR.out.lt)
  replace HB : Hid (Below w.heap.size w w2) := HB.out.trans (hb2.mono HB.out.size)
  clear hb2
  have c0 := HA.out.cell 0 rfl
  have c1 := HA.out.cell 1 rfl
  have d0 := HBB.out.cell 0 rfl
  have d1 := HBB.out.cell 1 rfl
  go_wp2_with (first | (refine wpList_store_blk rfl _ _ _ rfl (w.heap.size + 2) (pcells 0 0 (.slice none 0 0)) rfl rfl _ _ HR.out (by kernel_rfl) rfl (pcells_one _ _ _ _ _) ?_; intro w9 hb9 hg9 hs9; have HS9 := Lib.hid hs9; have HB9 := Lib.hid hb9; have HG9 := Lib.hid hg9; clear hs9 hb9 hg9) | fail)
  refine bodyPost_ret (v := .tuple #[PoolV 0 0 (.slice none 0 0), .int .i64 7]) (results_ct (a := 9) Try.results16 _ rfl HB9.out Try.underlying24 rfl (by kernel_rfl)) rfl ⟨rfl, HB.out.grown HG9.out HB.out.size (fun q hq => by injection hq with hq; omega)⟩
set_option maxRecDepth 20000 in
set_option maxHeartbeats 2000000 in
theorem jg_bad6a (A C E F : Option Addr) (ra ka rb kb : Int) (na nb nd nw ca cb ce cf : Nat) (w : World) (h : fright ra ka na) (h2 : fright rb kb nb) (h3 : ra = rb) (h4 : ¬ 1099511627776 < ka + kb) (h7 : ra < ka + kb) (h5 : ¬ (nd : Int) < ra) (h6 : (nw : Int) < ra) :
    Calls Try.prog 16 #[PoolV ra ka (.slice A na ca), PoolV rb kb (.slice C nb cb), .slice E nd ce, .slice F nw cf] w fun e w' => e = .returned (.tuple #[PoolV 0 0 (.slice none 0 0), .int .i64 7]) ∧ Below w.heap.size w w' := by
  have hfa : decide (fright ra ka na) = true := decide_eq_true h
  have hfb : decide (fright rb kb nb) = true := decide_eq_true h2
  have hne : (ra != rb) = false := by simpa using h3
  have hw2 : wrap64 (ka + kb) = ka + kb := by unfold fright at h h2; unfold wrap64; omega
  clear h h2 h3
  go_enter Try.func16, Try.ntmps16
  go_wp2_with fail
  refine (rright_any A ra ka _ ca _).mono ?_
  rintro e w1 ⟨rfl, hb1⟩
  rw [hfa]
  obtain ⟨BA, BB, BR, hbw⟩ := three_blocks (by simpa using hb1)
  have HA := Lib.hid BA
  have HBB := Lib.hid BB
  have HR := Lib.hid BR
  have HB := Lib.hid hbw
  clear BA BB BR hbw hb1
  have e0 := HBB.out.cell 0 rfl
  have e1 := HBB.out.cell 1 rfl
  have e2 := HBB.out.cell 2 rfl
  go_wp2_with fail
  clear e0 e1 e2
  refine (rright_any C rb kb _ cb _).mono ?_
  rintro e w2 ⟨rfl, hb2⟩
  rw [hfb]
  replace HA := Lib.hid (HA.out.below hb2 HA.out.lt)
  replace HBB := Lib.hid (HBB.out.below hb2 HBB.out.lt)
  replace HR := Lib.hid (HR.out.below hb2 HR.out.lt)
  replace HB : Hid (Below w.heap.size w w2) := HB.out.trans (hb2.mono HB.out.size)
  clear hb2
  have c0 := HA.out.cell 0 rfl
  have c1 := HA.out.cell 1 rfl
  have d0 := HBB.out.cell 0 rfl
  have d1 := HBB.out.cell 1 rfl
  go_wp2_with (first | (refine wpList_store_blk rfl _ _ _ rfl (w.heap.size + 2) (pcells 0 0 (.slice none 0 0)) rfl rfl _ _ HR.out (by kernel_rfl) rfl (pcells_one _ _ _ _ _) ?_; intro w9 hb9 hg9 hs9; have HS9 := Lib.hid hs9; have HB9 := Lib.hid hb9; have HG9 := Lib.hid hg9; clear hs9 hb9 hg9) | fail)
  refine bodyPost_ret (v := .tuple #[PoolV 0 0 (.slice none 0 0), .int .i64 7]) (results_ct (a := 9) Try.results16 _ rfl HB9.out Try.underlying24 rfl (by kernel_rfl)) rfl ⟨rfl, HB.out.grown HG9.out HB.out.size (fun q hq => by injection hq with hq; omega)⟩
set_option maxRecDepth 20000 in
set_option maxHeartbeats 2000000 in
theorem jg_bad5b (A C E F : Option Addr) (ra ka rb kb : Int) (na nb nd nw ca cb ce cf : Nat) (w : World) (h : fright ra ka na) (h2 : fright rb kb nb) (h3 : ra = rb) (h4 : ¬ 1099511627776 < ka + kb) (h7 : ¬ ra < ka + kb) (h5 : (nd : Int) < ka + kb) :
    Calls Try.prog 16 #[PoolV ra ka (.slice A na ca), PoolV rb kb (.slice C nb cb), .slice E nd ce, .slice F nw cf] w fun e w' => e = .returned (.tuple #[PoolV 0 0 (.slice none 0 0), .int .i64 7]) ∧ Below w.heap.size w w' := by
  have hfa : decide (fright ra ka na) = true := decide_eq_true h
  have hfb : decide (fright rb kb nb) = true := decide_eq_true h2
  have hne : (ra != rb) = false := by simpa using h3
  have hw2 : wrap64 (ka + kb) = ka + kb := by unfold fright at h h2; unfold wrap64; omega
  clear h h2 h3
  go_enter Try.func16, Try.ntmps16
  go_wp2_with fail
  refine (rright_any A ra ka _ ca _).mono ?_
  rintro e w1 ⟨rfl, hb1⟩
  rw [hfa]
  obtain ⟨BA, BB, BR, hbw⟩ := three_blocks (by simpa using hb1)
  have HA := Lib.hid BA
  have HBB := Lib.hid BB
  have HR := Lib.hid BR
  have HB := Lib.hid hbw
  clear BA BB BR hbw hb1
  have e0 := HBB.out.cell 0 rfl
  have e1 := HBB.out.cell 1 rfl
  have e2 := HBB.out.cell 2 rfl
  go_wp2_with fail
  clear e0 e1 e2
  refine (rright_any C rb kb _ cb _).mono ?_
  rintro e w2 ⟨rfl, hb2⟩
  rw [hfb]
  replace HA := Lib.hid (HA.out.below hb2 HA.out.lt)
  replace HBB := Lib.hid (HBB.out.below hb2 HBB.out.lt)
  replace HR := Lib.hid (HR.out.below hb2 HR.out.lt)
  replace HB : Hid (Below w.heap.size w w2) := HB.out.trans (hb2.mono HB.out.size)
  clear hb2
  have c0 := HA.out.cell 0 rfl
  have c1 := HA.out.cell 1 rfl
  have d0 := HBB.out.cell 0 rfl
  have d1 := HBB.out.cell 1 rfl
  go_wp2_with (first | (refine wpList_store_blk rfl _ _ _ rfl (w.heap.size + 2) (pcells 0 0 (.slice none 0 0)) rfl rfl _ _ HR.out (by kernel_rfl) rfl (pcells_one _ _ _ _ _) ?_; intro w9 hb9 hg9 hs9; have HS9 := Lib.hid hs9; have HB9 := Lib.hid hb9; have HG9 := Lib.hid hg9; clear hs9 hb9 hg9) | fail)
  refine bodyPost_ret (v := .tuple #[PoolV 0 0 (.slice none 0 0), .int .i64 7]) (results_ct (a := 9) Try.results16 _ rfl HB9.out Try.underlying24 rfl (by kernel_rfl)) rfl ⟨rfl, HB.out.grown HG9.out HB.out.size (fun q hq => by injection hq with hq; omega)⟩
set_option maxRecDepth 20000 in
set_option maxHeartbeats 2000000 in
theorem jg_bad6b (A C E F : Option Addr) (ra ka rb kb : Int) (na nb nd nw ca cb ce cf : Nat) (w : World) (h : fright ra ka na) (h2 : fright rb kb nb) (h3 : ra = rb) (h4 : ¬ 1099511627776 < ka + kb) (h7 : ¬ ra < ka + kb) (h5 : ¬ (nd : Int) < ka + kb) (h6 : (nw : Int) < ka + kb) :
    Calls Try.prog 16 #[PoolV ra ka (.slice A na ca), PoolV rb kb (.slice C nb cb), .slice E nd ce, .slice F nw cf] w fun e w' => e = .returned (.tuple #[PoolV 0 0 (.slice none 0 0), .int .i64 7]) ∧ Below w.heap.size w w' := by
  have hfa : decide (fright ra ka na) = true := decide_eq_true h
  have hfb : decide (fright rb kb nb) = true := decide_eq_true h2
  have hne : (ra != rb) = false := by simpa using h3
  have hw2 : wrap64 (ka + kb) = ka + kb := by unfold fright at h h2; unfold wrap64; omega
  clear h h2 h3
  go_enter Try.func16, Try.ntmps16
  go_wp2_with fail
  refine (rright_any A ra ka _ ca _).mono ?_
  rintro e w1 ⟨rfl, hb1⟩
  rw [hfa]
  obtain ⟨BA, BB, BR, hbw⟩ := three_blocks (by simpa using hb1)
  have HA := Lib.hid BA
  have HBB := Lib.hid BB
  have HR := Lib.hid BR
  have HB := Lib.hid hbw
  clear BA BB BR hbw hb1
  have e0 := HBB.out.cell 0 rfl
  have e1 := HBB.out.cell 1 rfl
  have e2 := HBB.out.cell 2 rfl
  go_wp2_with fail
  clear e0 e1 e2
  refine (rright_any C rb kb _ cb _).mono ?_
  rintro e w2 ⟨rfl, hb2⟩
  rw [hfb]
  replace HA := Lib.hid (HA.out.below hb2 HA.out.lt)
  replace HBB := Lib.hid (HBB.out.below hb2 HBB.out.lt)
  replace HR := Lib.hid (HR.out.below hb2 HR.out.lt)
  replace HB : Hid (Below w.heap.size w w2) := HB.out.trans (hb2.mono HB.out.size)
  clear hb2
  have c0 := HA.out.cell 0 rfl
  have c1 := HA.out.cell 1 rfl
  have d0 := HBB.out.cell 0 rfl
  have d1 := HBB.out.cell 1 rfl
  go_wp2_with (first | (refine wpList_store_blk rfl _ _ _ rfl (w.heap.size + 2) (pcells 0 0 (.slice none 0 0)) rfl rfl _ _ HR.out (by kernel_rfl) rfl (pcells_one _ _ _ _ _) ?_; intro w9 hb9 hg9 hs9; have HS9 := Lib.hid hs9; have HB9 := Lib.hid hb9; have HG9 := Lib.hid hg9; clear hs9 hb9 hg9) | fail)
  refine bodyPost_ret (v := .tuple #[PoolV 0 0 (.slice none 0 0), .int .i64 7]) (results_ct (a := 9) Try.results16 _ rfl HB9.out Try.underlying24 rfl (by kernel_rfl)) rfl ⟨rfl, HB.out.grown HG9.out HB.out.size (fun q hq => by injection hq with hq; omega)⟩
end Go.Proofs.Ytmnjgoicppknjaa
