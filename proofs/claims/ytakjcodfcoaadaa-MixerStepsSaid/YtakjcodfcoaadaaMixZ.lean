/- MixerSteps: the law's function, walked. No condition. -/
import Derived.Test.YtakjcodfcoaadaaMixQ
import Derived.Test.YtakjcodfcoaadaaMixBk
import Derived.Test.YtakjcodfcoaadaaMixS
namespace Go.Proofs.Ytakjcodfcoaadaa
open Go.ChangeShapes Go.WideShapes Go.ChangeAt Go.RowKit
set_option linter.unusedVariables false

set_option maxHeartbeats 4000000 in
theorem mixsteps_aux (m a b s : Mx) (o o2 n : BitVec 64) (w : World)
    (h1 : ∀ w, Calls Try.prog 12 #[MV m] w fun e w' => e = .returned (.tuple #[W64 o, MV a]) ∧ Below w.heap.size w w')
    (h2 : ∀ w, Calls Try.prog 13 #[MV m] w fun e w' => e = .returned (.tuple #[W64 o, MV a]) ∧ Below w.heap.size w w')
    (h3 : ∀ w, Calls Try.prog 14 #[MV m] w fun e w' => e = .returned (MV b) ∧ Below w.heap.size w w')
    (h4 : ∀ w, Calls Try.prog 13 #[MV b] w fun e w' => e = .returned (.tuple #[W64 o2, MV m]) ∧ Below w.heap.size w w')
    (h5 : ∀ w, Calls Try.prog 15 #[W64 n] w fun e w' => e = .returned (MV s) ∧ Below w.heap.size w w')
    (h6 : ∀ w, Calls Try.prog 16 #[W64 n] w fun e w' => e = .returned (MV s) ∧ Below w.heap.size w w') :
    Calls Try.prog 4 #[MV m, W64 n] w fun e w' => e = .returned (.bool true) ∧ Below w.heap.size w w' := by
  have H1 := Lib.hid h1
  have H2 := Lib.hid h2
  have H3 := Lib.hid h3
  have H4 := Lib.hid h4
  have H5 := Lib.hid h5
  have H6 := Lib.hid h6
  clear h1 h2 h3 h4 h5 h6
  have heq := int4_eq
  have HK0 := Lib.hid (Blk.new w 26 (mcells m))
  go_enter Try.func4, Try.ntmps4
  go_wp2_with fail
  refine (H1.out _).mono ?_
  rintro e w1 ⟨rfl, hw1⟩
  have HW1 := Lib.hid hw1
  clear hw1
  go_wp2_with (first | (refine wpList_store_blk rfl _ _ _ rfl w1.heap.size (mcells a) rfl rfl _ #[.int .u64 0, .int .u64 0, .int .u64 0, .int .u64 0] (Blk.new _ _ _) (by kernel_rfl) rfl (mcells_one _) ?_; intro w2 hb2 hg2 hs2; have HS2 := Lib.hid hs2; have HB2 := Lib.hid hb2; have HG2 := Lib.hid hg2; clear hs2 hb2 hg2) | (refine wpList_load_blk rfl _ _ rfl w.heap.size rfl _ _ _ (HK0.out.thru HW1.out HG2.out) Try.underlying26 rfl (by kernel_rfl) ?_) | fail)
  refine (H2.out _).mono ?_
  rintro e w3 ⟨rfl, hw3⟩
  have HW3 := Lib.hid hw3
  clear hw3
  have HK2 := Lib.hid (HK0.out.thru HW1.out HG2.out)
  go_wp2_with (first | (refine wpList_store_blk rfl _ _ _ rfl w3.heap.size (mcells a) rfl rfl _ #[.int .u64 0, .int .u64 0, .int .u64 0, .int .u64 0] (Blk.new _ _ _) (by kernel_rfl) rfl (mcells_one _) ?_; intro w4 hb4 hg4 hs4; have HS4 := Lib.hid hs4; have HB4 := Lib.hid hb4; have HG4 := Lib.hid hg4; clear hs4 hb4 hg4) | (refine wpList_load_blk rfl _ _ rfl w.heap.size rfl _ _ _ (HK2.out.thru HW3.out HG4.out) Try.underlying26 rfl (by kernel_rfl) ?_) | fail)
  refine (H3.out _).mono ?_
  rintro e w5 ⟨rfl, hw5⟩
  have HW5 := Lib.hid hw5
  clear hw5
  have HK4 := Lib.hid (HK2.out.thru HW3.out HG4.out)
  have HA4 := Lib.hid (HB2.out.thru HW3.out HG4.out)
  go_wp2_with fail
  refine (H4.out _).mono ?_
  rintro e w6 ⟨rfl, hw6⟩
  have HW6 : Hid (Below w4.heap.size w4 w6) := HW5.out.trans (hw6.mono HW5.out.size)
  clear hw6
  go_wp2_with (first | (refine wpList_store_blk rfl _ _ _ rfl w6.heap.size (mcells m) rfl rfl _ #[.int .u64 0, .int .u64 0, .int .u64 0, .int .u64 0] (Blk.new _ _ _) (by kernel_rfl) rfl (mcells_one _) ?_; intro w7 hb7 hg7 hs7; have HS7 := Lib.hid hs7; have HB7 := Lib.hid hb7; have HG7 := Lib.hid hg7; clear hs7 hb7 hg7; have c0 := (HB7.out).cell 0 (u := W64 m.1) rfl; have c1 := (HB7.out).cell 1 (u := W64 m.2.1) rfl; have c2 := (HB7.out).cell 2 (u := W64 m.2.2.1) rfl; have c3 := (HB7.out).cell 3 (u := W64 m.2.2.2) rfl; have d0 := (HK4.out.thru HW6.out HG7.out).cell 0 (u := W64 m.1) rfl; have d1 := (HK4.out.thru HW6.out HG7.out).cell 1 (u := W64 m.2.1) rfl; have d2 := (HK4.out.thru HW6.out HG7.out).cell 2 (u := W64 m.2.2.1) rfl; have d3 := (HK4.out.thru HW6.out HG7.out).cell 3 (u := W64 m.2.2.2) rfl; have e0 := (HA4.out.thru HW6.out HG7.out).cell 0 (u := W64 a.1) rfl; have e1 := (HA4.out.thru HW6.out HG7.out).cell 1 (u := W64 a.2.1) rfl; have e2 := (HA4.out.thru HW6.out HG7.out).cell 2 (u := W64 a.2.2.1) rfl; have e3 := (HA4.out.thru HW6.out HG7.out).cell 3 (u := W64 a.2.2.2) rfl; have f0 := (HB4.out.thru HW6.out HG7.out).cell 0 (u := W64 a.1) rfl; have f1 := (HB4.out.thru HW6.out HG7.out).cell 1 (u := W64 a.2.1) rfl; have f2 := (HB4.out.thru HW6.out HG7.out).cell 2 (u := W64 a.2.2.1) rfl; have f3 := (HB4.out.thru HW6.out HG7.out).cell 3 (u := W64 a.2.2.2) rfl) | fail)
  refine (H5.out _).mono ?_
  rintro e w8 ⟨rfl, hw8⟩
  have HW8 := Lib.hid hw8
  clear hw8
  go_wp2_with fail
  refine (H6.out _).mono ?_
  rintro e w9 ⟨rfl, hw9⟩
  have HW9 := Lib.hid hw9
  clear hw9
  go_wp2_with fail
  go_ret
  have b2 : Below w.heap.size w w2 := below_thru ((Below.refl _ _).alloc (Nat.le_refl _) _) HW1.out HG2.out (by simp)
  have b4 : Below w.heap.size w w4 := below_thru b2 HW3.out HG4.out b2.size
  have b7 : Below w.heap.size w w7 := below_thru b4 HW6.out HG7.out b4.size
  have b8 := b7.trans (HW8.out.mono b7.size)
  exact ⟨rfl, b8.trans (HW9.out.mono b8.size)⟩
theorem MixerSteps_walk (m : Mx) (a1 : Int) (W : World) (_s0 : True) (w1 : (Lit.int .u64 a1).wf = true) :
    Calls Try.prog 4 #[MV m, .int .u64 a1] W fun e w' => e = .returned (.bool true) ∧ Below W.heap.size W w' := by
  have w2 : 0 ≤ a1 ∧ a1 ≤ 18446744073709551615 := by
    simp [Lit.wf] at w1
    exact w1
  obtain ⟨n, rfl⟩ := wv_of a1 w2.1 (by omega)
  have h4 := mstep_at (mback m)
  rw [mback_next] at h4
  exact mixsteps_aux m _ _ (seedM fun k => bmix (sword n (k + 1))) _ _ n W (step_at m) (mstep_at m) (back_at m) h4 (seed_any n _ fun _ => rfl) (mseed_any n _ fun _ => rfl)
end Go.Proofs.Ytakjcodfcoaadaa
