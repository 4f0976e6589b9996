/- Package stats, the middle: Both, Median, and the law's own search, walked. No condition but the slice's own size. -/
import Derived.Test.YtmnjgoicppknjaaMidW
namespace Go.Proofs.Ytmnjgoicppknjaa
open Go.ChangeShapes Go.WideShapes Go.ChangeAt Go.RowKit
set_option linter.unusedVariables false

def prt (zs : List Int) : Prop := zs.length ≤ 400 ∧ sall zs
instance (zs : List Int) : Decidable (prt zs) := by unfold prt; infer_instance
/-- What Both answers. -/
def bothR (x y : List Int) : Int × Int := if prt x then (if prt y then (if x.length = y.length then ((x.length : Int) * xsum x y x.length - ssum x * ssum y, 0) else (0, 1)) else (0, 2)) else (0, 2)
/-- What Median answers. -/
def medR (zs : List Int) : Int × Int := if prt zs then (if zs.length = 0 then (0, 3) else (pat (isort zs) ((zs.length - 1) / 2) + pat (isort zs) (zs.length / 2), 0)) else (0, 2)
theorem sof_ok {zs : List Int} (h : prt zs) : sof zs = (((zs.length : Int), ssum zs, ssq zs), 0) := if_pos h
theorem sof_no {zs : List Int} (h : ¬ prt zs) : sof zs = ((0, 0, 0), 2) := if_neg h
set_option maxRecDepth 20000 in
set_option maxHeartbeats 2000000 in
theorem both_any (A C : Option Addr) (x y : List Int) (c d : Nat) (w : World) (hx : Seg w w.heap.size A (x.map (.int .i64))) (hy : Seg w w.heap.size C (y.map (.int .i64))) :
    Calls Try.prog 101 #[.slice A x.length c, .slice C y.length d] w fun e w' => e = .returned (.tuple #[.int .i64 (bothR x y).1, .int .i64 (bothR x y).2]) ∧ Below w.heap.size w w' := by
  have HX := Lib.hid hx
  have HY := Lib.hid hy
  clear hx hy
  go_enter Try.func101, Try.ntmps101
  go_wp2_with fail
  refine (sof_any A x c _ HX.out).mono ?_
  rintro e w1 ⟨rfl, hb1⟩
  by_cases px : prt x
  · rw [sof_ok px]
    have HB1 := Lib.hid hb1
    clear hb1
    dsimp only
    go_wp2_with fail
    have HB1a : Hid (Below w.heap.size w (w1.alloc (.cells (mcs x.length (ssum x) (ssq x)) tM))) := HB1.out.alloc HB1.out.size _
    refine (sof_any C y d _ ((HY.out.below HB1a.out).more HB1a.out.size)).mono ?_
    rintro e w2 ⟨rfl, hb2⟩
    have B6 : Hid (Blk w2 w1.heap.size tM (mcs x.length (ssum x) (ssq x))) := (Blk.new w1 _ _).below hb2 (by simp)
    have HB2 : Hid (Below w.heap.size w w2) := HB1a.out.trans (hb2.mono HB1a.out.size)
    clear hb2
    by_cases py : prt y
    · rw [sof_ok py]
      dsimp only
      have HB3 : Hid (Below w.heap.size w (w2.alloc (.cells (mcs y.length (ssum y) (ssq y)) tM))) := HB2.out.alloc HB2.out.size _
      have HB3' : Hid (Below w2.heap.size w2 (w2.alloc (.cells (mcs y.length (ssum y) (ssq y)) tM))) := (Below.refl _ _).alloc (Nat.le_refl _) _
      have PX := Lib.hid px
      have PY := Lib.hid py
      by_cases hl : x.length = y.length
      · have HR : Hid (bothR x y = ((x.length : Int) * xsum x y x.length - ssum x * ssum y, 0)) := by unfold bothR Hid; rw [if_pos px, if_pos py, if_pos hl]
        have hne : ((x.length : Int) != (y.length : Int)) = false := by rw [hl]; simp
        have HL := Lib.hid hl
        have E6 := Lib.hid (B6.out.alloc (.cells (mcs y.length (ssum y) (ssq y)) tM))
        have E8 := Lib.hid (Blk.new w2 tM (mcs y.length (ssum y) (ssq y)))
        clear px py hl
        go_wp2_with fail
        generalize hw3 : w2.alloc (.cells (mcs y.length (ssum y) (ssq y)) tM) = w3 at *
        clear hw3
        go_loopw [9, 34] (fun s9 s34 wr => ∃ k m : Nat, k ≤ x.length ∧ s9 = .int .i64 (xsum x y k) ∧ s34 = .int .i64 k ∧ wr = w3.drewN m) (fun _ s34 _ => x.length - (intOf s34).toNat)
        case atStart => exact ⟨0, 0, Nat.zero_le _, rfl, rfl, by first | rfl | simp⟩
        case round =>
          obtain ⟨k, m, hk, rfl, rfl, rfl⟩ := hrel
          by_cases hlt : k < x.length
          · have i1 : (k : Int) < (x.length : Int) := by omega
            have i2 : (k : Int) < (y.length : Int) := by have := HL.out; omega
            have i3 := PX.out.1
            obtain ⟨ax, rfl, _, x1⟩ := (HX.out.below HB3.out).pat hlt
            obtain ⟨ay, rfl, _, y1⟩ := (HY.out.below HB3.out).pat (k := k) (by omega)
            have b1 := sall_pat PX.out.2 k
            have b2 := sall_pat PY.out.2 k
            have b3 := xsum_bd PX.out.2 PY.out.2 k
            have b4 := mul_bd (a := pat x k) (b := pat y k) 1048576 1048576 (by omega) (by omega)
            have hst : Hid (xsum x y (k + 1) = xsum x y k + pat x k * pat y k) := rfl
            have v1 : IntKind.i64.wrap (pat x k * pat y k) = pat x k * pat y k := IntWalk.i64_in _ (by omega)
            have v2 : IntKind.i64.wrap (xsum x y k + pat x k * pat y k) = xsum x y k + pat x k * pat y k := IntWalk.i64_in _ (by omega)
            have u1 : wrap64 (pat x k * pat y k) = pat x k * pat y k := by unfold wrap64; omega
            have u2 : wrap64 (xsum x y k + pat x k * pat y k) = xsum x y k + pat x k * pat y k := by unfold wrap64; omega
            clear b1 b2 b3 b4
            generalize pat x k = p1 at *
            generalize pat y k = p2 at *
            generalize xsum x y k = P at *
            generalize hR : p1 * p2 = R at *
            go_wp2_with fail
            go_quiet (fail)
            go_wp2_with fail
            go_roundw
            case rel => exact ⟨k + 1, _, by omega, by rw [hst.out], by go_num, rfl⟩
            case measure => simp [intOf]; omega
          · obtain rfl : k = x.length := by omega
            have q0 := E6.out.cell 0 rfl
            have q1 := E6.out.cell 1 rfl
            have q2 := E8.out.cell 1 rfl
            have i3 := PX.out.1
            have i4 := PY.out.1
            have b3 := xsum_bd PX.out.2 PY.out.2 x.length
            have b4 := sbound x PX.out.2
            have b5 := sbound y PY.out.2
            have b6 := mul_bd (a := (x.length : Int)) (b := xsum x y x.length) 400 439804651110400 (by omega) (by omega)
            have b7 := mul_bd (a := ssum x) (b := ssum y) 419430400 419430400 (by omega) (by omega)
            have u1 : wrap64 ((x.length : Int) * xsum x y x.length) = (x.length : Int) * xsum x y x.length := by unfold wrap64; omega
            have u2 : wrap64 (ssum x * ssum y) = ssum x * ssum y := by unfold wrap64; omega
            have u3 : wrap64 ((x.length : Int) * xsum x y x.length - ssum x * ssum y) = (x.length : Int) * xsum x y x.length - ssum x * ssum y := by unfold wrap64; omega
            clear b3 b4 b5 b6 b7
            generalize hP : xsum x y x.length = P at *
            generalize hSX : ssum x = X at *
            generalize hSY : ssum y = Y at *
            generalize hM : (x.length : Int) * P = M at *
            generalize hQ : X * Y = Q at *
            go_wp2_with fail
            go_ret2
            exact ⟨by rw [HR.out]; show Ending.returned (.tuple #[.int .i64 (wrap64 (M - Q)), .int .i64 0]) = .returned (.tuple #[.int .i64 (M - Q), .int .i64 0]); rw [u3], below_drewN HB3.out m⟩
      · have HR : Hid (bothR x y = (0, 1)) := by unfold bothR Hid; rw [if_pos px, if_pos py, if_neg hl]
        have hne : ((x.length : Int) != (y.length : Int)) = true := by simp; omega
        clear px py hl
        go_wp2_with fail
        go_ret2
        exact ⟨by rw [HR.out]; rfl, HB3.out⟩
    · have HR : Hid (bothR x y = (0, 2)) := by unfold bothR Hid; rw [if_pos px, if_neg py]
      rw [sof_no py]
      dsimp only
      clear px py
      go_wp2_with fail
      go_ret2
      exact ⟨by rw [HR.out]; rfl, HB2.out.alloc HB2.out.size _⟩
  · have HR : Hid (bothR x y = (0, 2)) := by unfold bothR Hid; rw [if_neg px]
    rw [sof_no px]
    have HB1 := Lib.hid hb1
    clear hb1 px
    dsimp only
    go_wp2_with fail
    go_ret2
    exact ⟨by rw [HR.out]; rfl, HB1.out.alloc HB1.out.size _⟩
set_option maxRecDepth 20000 in
theorem values_any (A : Option Addr) (n c : Nat) (w : World) :
    Calls Try.prog 175 #[.slice A n c] w fun e w' => e = .returned (.func (.func 205) #[] #[.pointer (some ⟨w.heap.size, 0, none⟩)]) ∧ w' = w.alloc (.cells #[.slice A n c] 22) := by
  go_enter Try.func175, Try.ntmps175
  go_wp2_with fail
  go_ret
  exact ⟨rfl, rfl⟩
set_option maxRecDepth 20000 in
set_option maxHeartbeats 2000000 in
theorem median_any (A : Option Addr) (x : List Int) (c : Nat) (w : World) (hx : Seg w w.heap.size A (x.map (.int .i64))) :
    Calls Try.prog 100 #[.slice A x.length c] w fun e w' => e = .returned (.tuple #[.int .i64 (medR x).1, .int .i64 (medR x).2]) ∧ Below w.heap.size w w' := by
  have HX := Lib.hid hx
  clear hx
  go_enter Try.func100, Try.ntmps100
  go_wp2_with fail
  refine (sof_any A x c _ HX.out).mono ?_
  rintro e w1 ⟨rfl, hb1⟩
  have HB1 := Lib.hid hb1
  clear hb1
  by_cases px : prt x
  · rw [sof_ok px]
    dsimp only
    have HB2 : Hid (Below w.heap.size w (w1.alloc (.cells (mcs x.length (ssum x) (ssq x)) tM))) := HB1.out.alloc HB1.out.size _
    by_cases h0 : x.length = 0
    · have HR : Hid (medR x = (0, 3)) := by unfold medR Hid; rw [if_pos px, if_pos h0]
      have he : ((x.length : Int) == 0) = true := by simp [h0]
      clear px h0
      go_wp2_with fail
      go_ret2
      exact ⟨by rw [HR.out]; rfl, HB2.out⟩
    · have HR : Hid (medR x = (pat (isort x) ((x.length - 1) / 2) + pat (isort x) (x.length / 2), 0)) := by unfold medR Hid; rw [if_pos px, if_neg h0]
      have he : ((x.length : Int) == 0) = false := by simp [h0]
      have PX := Lib.hid px
      have H0 : Hid (0 < x.length) := by unfold Hid; omega
      clear px h0
      go_wp2_with fail
      generalize hw2 : w1.alloc (.cells (mcs x.length (ssum x) (ssq x)) tM) = w2 at *
      clear hw2
      refine (values_any A _ c _).mono ?_
      rintro e w3 ⟨rfl, rfl⟩
      have HB3 : Hid (Below w.heap.size w (w2.alloc (.cells #[.slice A x.length c] 22))) := HB2.out.alloc HB2.out.size _
      have HSO := Lib.hid (sorted_any w2.heap.size (.slice A x.length c) x (by have := PX.out.1; omega) H0.out (w2.alloc (.cells #[.slice A x.length c] 22)) (by simp) (cell_new1 _ _ _) (mints_of ((HX.out.below HB3.out).more HB3.out.size) H0.out))
      go_wp2_with fail
      refine HSO.out.mono ?_
      rintro e w4 ⟨⟨A4, c4, rfl, hs4⟩, hb4⟩
      have HB4 : Hid (Below w.heap.size w w4) := HB3.out.trans (hb4.mono HB3.out.size)
      have hsl := isort_len x
      have h0 := H0.out
      obtain ⟨a4, rfl, _, z1⟩ := Seg.pat hs4 (k := (x.length - 1) / 2) (by omega)
      obtain ⟨a4', e1, _, z2⟩ := Seg.pat hs4 (k := x.length / 2) (by omega)
      injection e1 with e1; subst e1
      clear hsl hs4 hb4 HSO
      have sp : sall (isort x) := fun v hv => PX.out.2 v ((isort_perm x).mem_iff.1 hv)
      have HB5 := Lib.hid sp
      clear sp
      obtain ⟨P1, hP1⟩ : ∃ v, v = pat (isort x) ((x.length - 1) / 2) := ⟨_, rfl⟩
      obtain ⟨P2, hP2⟩ : ∃ v, v = pat (isort x) (x.length / 2) := ⟨_, rfl⟩
      rw [← hP1] at z1
      rw [← hP2] at z2
      have b1 : -1048576 ≤ P1 ∧ P1 ≤ 1048576 := by rw [hP1]; exact sall_pat HB5.out _
      have b2 : -1048576 ≤ P2 ∧ P2 ≤ 1048576 := by rw [hP2]; exact sall_pat HB5.out _
      have HRN : Hid (medR x = (P1 + P2, 0)) := by rw [hP1, hP2]; exact HR.out
      clear hP1 hP2 HR
      have h4 := PX.out.1
      obtain ⟨K1, hK1⟩ : ∃ k, k = (x.length - 1) / 2 := ⟨_, rfl⟩
      obtain ⟨K2, hK2⟩ : ∃ k, k = x.length / 2 := ⟨_, rfl⟩
      rw [← hK1] at z1
      rw [← hK2] at z2
      have k1 : ((x.length : Int) - 1) / 2 = (K1 : Int) := by omega
      have k2 : (x.length : Int) / 2 = (K2 : Int) := by omega
      have k3 : Int.tdiv ((x.length : Int) - 1) 2 = (K1 : Int) := by rw [Int.tdiv_eq_ediv_of_nonneg (by omega)]; omega
      have k4 : Int.tdiv (x.length : Int) 2 = (K2 : Int) := by rw [Int.tdiv_eq_ediv_of_nonneg (by omega)]; omega
      have j1 : (K1 : Int) < (x.length : Int) := by omega
      have j2 : (K2 : Int) < (x.length : Int) := by omega
      have v1 : IntKind.i64.wrap ((x.length : Int) - 1) = (x.length : Int) - 1 := IntWalk.i64_in _ (by omega)
      have v2 : IntKind.i64.wrap (K1 : Int) = (K1 : Int) := IntWalk.i64_in _ (by omega)
      have v3 : IntKind.i64.wrap (K2 : Int) = (K2 : Int) := IntWalk.i64_in _ (by omega)
      have u1 : wrap64 ((x.length : Int) - 1) = (x.length : Int) - 1 := by unfold wrap64; omega
      have u2 : wrap64 (K1 : Int) = (K1 : Int) := by unfold wrap64; omega
      have u3 : wrap64 (K2 : Int) = (K2 : Int) := by unfold wrap64; omega
      have v4 : IntKind.i64.wrap (P1 + P2) = P1 + P2 := IntWalk.i64_in _ (by omega)
      have u4 : wrap64 (P1 + P2) = P1 + P2 := by unfold wrap64; omega
      clear b1 b2 hK1 hK2
      go_wp2_with fail
      skip --LOOKM
      go_quiet (fail)
      go_wp2_with fail
      go_ret2
      exact ⟨by rw [HRN.out]; rfl, below_drewN HB4.out _⟩
  · have HR : Hid (medR x = (0, 2)) := by unfold medR Hid; rw [if_neg px]
    rw [sof_no px]
    dsimp only
    clear px
    go_wp2_with fail
    go_ret2
    exact ⟨by rw [HR.out]; rfl, HB1.out.alloc HB1.out.size _⟩
end Go.Proofs.Ytmnjgoicppknjaa
