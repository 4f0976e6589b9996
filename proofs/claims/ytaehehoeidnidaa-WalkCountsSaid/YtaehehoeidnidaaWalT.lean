/- The law WalkCounts, walked: it is true. No condition. -/
import Derived.Test.YtaehehoeidnidaaWalS
import Derived.Laws.EntriesVeiled
namespace Go.Proofs.Ytaehehoeidnidaa
open Go.ChangeShapes Go.WideShapes Go.ChangeAt Go.RowKit Go.Maps
set_option linter.unusedVariables false

def boxW (w : World) (a0 a1 a2 a3 : Int) : World := (((w.alloc (.cells #[.int .i64 a0] 3)).alloc (.cells #[.int .i64 a1] 3)).alloc (.cells #[.int .i64 a2] 3)).alloc (.cells #[.int .i64 a3] 3)
theorem boxW_below (w : World) (a0 a1 a2 a3 : Int) : Below w.heap.size w (boxW w a0 a1 a2 a3) :=
  ((((Below.refl _ w).alloc (Nat.le_refl _) _).alloc (by simp) _).alloc (by simp; omega) _).alloc (by simp; omega) _
theorem boxW_st (w : World) (a0 a1 a2 a3 : Int) : BoxSt (boxW w a0 a1 a2 a3) w.heap.size a0 a1 a2 a3 := by
  have p0 := Blk.new w 3 #[.int .i64 a0]
  have p1 := Blk.new (w.alloc (.cells #[.int .i64 a0] 3)) 3 #[.int .i64 a1]
  have p2 := Blk.new ((w.alloc (.cells #[.int .i64 a0] 3)).alloc (.cells #[.int .i64 a1] 3)) 3 #[.int .i64 a2]
  have p3 := Blk.new (((w.alloc (.cells #[.int .i64 a0] 3)).alloc (.cells #[.int .i64 a1] 3)).alloc (.cells #[.int .i64 a2] 3)) 3 #[.int .i64 a3]
  have s1 : (w.alloc (.cells #[.int .i64 a0] 3)).heap.size = w.heap.size + 1 := by simp
  have s2 : ((w.alloc (.cells #[.int .i64 a0] 3)).alloc (.cells #[.int .i64 a1] 3)).heap.size = w.heap.size + 1 + 1 := by simp
  have s3 : (((w.alloc (.cells #[.int .i64 a0] 3)).alloc (.cells #[.int .i64 a1] 3)).alloc (.cells #[.int .i64 a2] 3)).heap.size = w.heap.size + 1 + 1 + 1 := by simp
  rw [s1] at p1
  rw [s2] at p2
  rw [s3] at p3
  exact ⟨(((p0.alloc _).alloc _).alloc _).cell 0 rfl, ((p1.alloc _).alloc _).cell 0 rfl, (p2.alloc _).cell 0 rfl, p3.cell 0 rfl, p3.lt⟩
set_option maxRecDepth 100000 in
set_option maxHeartbeats 8000000 in
theorem WalkCounts_walk (a0 a1 a2 a3 : Int) (w : World) (_w0 : (Lit.int .i64 a0).wf = true) (_w1 : (Lit.int .i64 a1).wf = true) (_w2 : (Lit.int .i64 a2).wf = true) (_w3 : (Lit.int .i64 a3).wf = true) :
    Calls Try.prog 4 #[.int .i64 a0, .int .i64 a1, .int .i64 a2, .int .i64 a3] w fun e w' => e = .returned (.bool true) ∧ Below w.heap.size w w' := by
  clear _w0 _w1 _w2 _w3
  obtain ⟨q1, hq1⟩ : ∃ q, q = (wrB a0 [a2]) := ⟨_, rfl⟩
  obtain ⟨x1, hx1⟩ : ∃ x : Int, x = (if q1 = true then 0 else ffr a0.toNat a2) := ⟨_, rfl⟩
  obtain ⟨y1, hy1⟩ : ∃ y : Int, y = (if q1 = true then 2 else 0) := ⟨_, rfl⟩
  have K1 := Lib.hid (show ∀ w : World, Calls Try.prog 15 #[.int .i64 a0, .int .i64 a2] w (fun e w' => e = .returned (.tuple #[.int .i64 x1, .int .i64 y1]) ∧ Below w.heap.size w w') from fun w => by rw [hx1, hy1, hq1]; exact wfree_any a0 a2 w)
  have T1 := Lib.hid (show ∀ (w : World) (g Ba : Nat), BoxSt w g a0 a1 a2 a3 → w.cell? ⟨Ba, 0, none⟩ = some (.func (.func 21) #[] #[]) → Calls Try.prog 20 #[.int .i64 x1, .int .i64 y1, .bool q1, .func (.func 23) #[] #[.pointer (some ⟨g, 0, none⟩), .pointer (some ⟨Ba, 0, none⟩), .pointer (some ⟨g + 1 + 1, 0, none⟩)]] w fun e w2 => e = .returned (.bool true) ∧ Below w.heap.size w w2 from fun w g Ba s ca => by rw [hx1, hy1, hq1]; exact told_1 s ca)
  have Q1 := Lib.hid (show ∀ w : World, Calls Try.prog 22 #[.int .i64 a0, .slice (some ⟨w.heap.size, 0, none⟩) 1 1] (w.alloc (.cells #[.int .i64 a2] 3)) (fun e w' => e = .returned (.bool q1) ∧ (w.alloc (.cells #[.int .i64 a2] 3)) = w') from fun w => by rw [hq1]; exact qwrong_any a0 (some ⟨w.heap.size, 0, none⟩) [a2] 1 _ (seg_lit w [a2] rfl) (by simp))
  clear hx1 hy1 hq1
  obtain ⟨q2, hq2⟩ : ∃ q, q = (wrB a0 [a1, a2]) := ⟨_, rfl⟩
  obtain ⟨x2, hx2⟩ : ∃ x : Int, x = (if q2 = true then 0 else aboveV a0.toNat a1 a2) := ⟨_, rfl⟩
  obtain ⟨y2, hy2⟩ : ∃ y : Int, y = (if q2 = true then 2 else 0) := ⟨_, rfl⟩
  have K2 := Lib.hid (show ∀ w : World, Calls Try.prog 16 #[.int .i64 a0, .int .i64 a1, .int .i64 a2] w (fun e w' => e = .returned (.tuple #[.int .i64 x2, .int .i64 y2]) ∧ Below w.heap.size w w') from fun w => by rw [hx2, hy2, hq2]; exact above_any a0 a1 a2 w)
  have T2 := Lib.hid (show ∀ (w : World) (g : Nat), BoxSt w g a0 a1 a2 a3 → Calls Try.prog 20 #[.int .i64 x2, .int .i64 y2, .bool q2, .func (.func 25) #[] #[.pointer (some ⟨g, 0, none⟩), .pointer (some ⟨g + 1, 0, none⟩), .pointer (some ⟨g + 1 + 1, 0, none⟩)]] w fun e w2 => e = .returned (.bool true) ∧ Below w.heap.size w w2 from fun w g s => by rw [hx2, hy2, hq2]; exact told_2 s)
  have Q2 := Lib.hid (show ∀ w : World, Calls Try.prog 22 #[.int .i64 a0, .slice (some ⟨w.heap.size, 0, none⟩) 2 2] (w.alloc (.cells #[.int .i64 a1, .int .i64 a2] 3)) (fun e w' => e = .returned (.bool q2) ∧ (w.alloc (.cells #[.int .i64 a1, .int .i64 a2] 3)) = w') from fun w => by rw [hq2]; exact qwrong_any a0 (some ⟨w.heap.size, 0, none⟩) [a1, a2] 2 _ (seg_lit w [a1, a2] rfl) (by simp))
  clear hx2 hy2 hq2
  obtain ⟨q3, hq3⟩ : ∃ q, q = (wrB a0 [a1, a2, a3]) := ⟨_, rfl⟩
  obtain ⟨x3, hx3⟩ : ∃ x : Int, x = (if q3 = true then 0 else betV a0.toNat a1 a2 a3) := ⟨_, rfl⟩
  obtain ⟨y3, hy3⟩ : ∃ y : Int, y = (if q3 = true then 2 else 0) := ⟨_, rfl⟩
  have K3 := Lib.hid (show ∀ w : World, Calls Try.prog 17 #[.int .i64 a0, .int .i64 a1, .int .i64 a2, .int .i64 a3] w (fun e w' => e = .returned (.tuple #[.int .i64 x3, .int .i64 y3]) ∧ Below w.heap.size w w') from fun w => by rw [hx3, hy3, hq3]; exact between_any a0 a1 a2 a3 w)
  have T3 := Lib.hid (show ∀ (w : World) (g : Nat), BoxSt w g a0 a1 a2 a3 → Calls Try.prog 20 #[.int .i64 x3, .int .i64 y3, .bool q3, .func (.func 27) #[] #[.pointer (some ⟨g, 0, none⟩), .pointer (some ⟨g + 1, 0, none⟩), .pointer (some ⟨g + 1 + 1 + 1, 0, none⟩), .pointer (some ⟨g + 1 + 1, 0, none⟩)]] w fun e w2 => e = .returned (.bool true) ∧ Below w.heap.size w w2 from fun w g s => by rw [hx3, hy3, hq3]; exact told_3 s)
  have Q3 := Lib.hid (show ∀ w : World, Calls Try.prog 22 #[.int .i64 a0, .slice (some ⟨w.heap.size, 0, none⟩) 3 3] (w.alloc (.cells #[.int .i64 a1, .int .i64 a2, .int .i64 a3] 3)) (fun e w' => e = .returned (.bool q3) ∧ (w.alloc (.cells #[.int .i64 a1, .int .i64 a2, .int .i64 a3] 3)) = w') from fun w => by rw [hq3]; exact qwrong_any a0 (some ⟨w.heap.size, 0, none⟩) [a1, a2, a3] 3 _ (seg_lit w [a1, a2, a3] rfl) (by simp))
  clear hx3 hy3 hq3
  obtain ⟨q4, hq4⟩ : ∃ q, q = (wrB a0 []) := ⟨_, rfl⟩
  obtain ⟨x4, hx4⟩ : ∃ x : Int, x = (if q4 = true then 0 else firstV a0.toNat) := ⟨_, rfl⟩
  obtain ⟨y4, hy4⟩ : ∃ y : Int, y = (if q4 = true then 2 else 0) := ⟨_, rfl⟩
  have K4 := Lib.hid (show ∀ w : World, Calls Try.prog 18 #[.int .i64 a0] w (fun e w' => e = .returned (.tuple #[.int .i64 x4, .int .i64 y4]) ∧ Below w.heap.size w w') from fun w => by rw [hx4, hy4, hq4]; exact first_any a0 w)
  have T4 := Lib.hid (show ∀ (w : World) (g : Nat), BoxSt w g a0 a1 a2 a3 → Calls Try.prog 20 #[.int .i64 x4, .int .i64 y4, .bool q4, .func (.func 29) #[] #[.pointer (some ⟨g, 0, none⟩)]] w fun e w2 => e = .returned (.bool true) ∧ Below w.heap.size w w2 from fun w g s => by rw [hx4, hy4, hq4]; exact told_4 s)
  have Q4 := Lib.hid (show ∀ w : World, Calls Try.prog 22 #[.int .i64 a0, .slice none 0 0] w (fun e w' => e = .returned (.bool q4) ∧ w = w') from fun w => by rw [hq4]; exact qwrong_any a0 none [] 0 w Seg.nil (by simp))
  clear hx4 hy4 hq4
  obtain ⟨q5, hq5⟩ : ∃ q, q = (catB a0) := ⟨_, rfl⟩
  obtain ⟨x5, hx5⟩ : ∃ x : Int, x = (if q5 = true then 0 else aboveV (2 * a0.toNat) 1 1) := ⟨_, rfl⟩
  obtain ⟨y5, hy5⟩ : ∃ y : Int, y = (if q5 = true then 2 else 0) := ⟨_, rfl⟩
  have K5 := Lib.hid (show ∀ w : World, Calls Try.prog 19 #[.int .i64 a0] w (fun e w' => e = .returned (.tuple #[.int .i64 x5, .int .i64 y5]) ∧ Below w.heap.size w w') from fun w => by rw [hx5, hy5, hq5]; exact catalan_any a0 w)
  have T5 := Lib.hid (show ∀ (w : World) (g : Nat), BoxSt w g a0 a1 a2 a3 → Calls Try.prog 20 #[.int .i64 x5, .int .i64 y5, .bool q5, .func (.func 31) #[] #[.pointer (some ⟨g, 0, none⟩)]] w fun e w2 => e = .returned (.bool true) ∧ Below w.heap.size w w2 from fun w g s => by rw [hx5, hy5, hq5]; exact told_5 s)
  have Q5 := Lib.hid hq5
  clear hx5 hy5 hq5
  have S0 := Lib.hid (boxW_st w a0 a1 a2 a3)
  have B0 := Lib.hid (boxW_below w a0 a1 a2 a3)
  go_enter Try.func4, Try.ntmps4
  go_wp2_with fail
  change Calls _ _ _ (boxW w a0 a1 a2 a3) _
  generalize boxW w a0 a1 a2 a3 = wz at *
  refine (K1.out wz).mono ?_
  rintro e w1 ⟨rfl, hb⟩
  have S1 := Lib.hid (S0.out.below hb)
  have B1 := Lib.hid (B0.out.trans (hb.mono B0.out.size))
  clear hb
  have c0 := S1.out.c0
  have c1 := S1.out.c1
  have c2 := S1.out.c2
  have c3 := S1.out.c3
  go_wp2_with fail
  refine (K2.out w1).mono ?_
  rintro e w2 ⟨rfl, hb⟩
  have S2 := Lib.hid (S1.out.below hb)
  have B2 := Lib.hid (B1.out.trans (hb.mono B1.out.size))
  clear hb c0 c1 c2 c3
  have c0 := S2.out.c0
  have c1 := S2.out.c1
  have c2 := S2.out.c2
  have c3 := S2.out.c3
  go_wp2_with fail
  refine (K3.out w2).mono ?_
  rintro e w3 ⟨rfl, hb⟩
  have S3 := Lib.hid (S2.out.below hb)
  have B3 := Lib.hid (B2.out.trans (hb.mono B2.out.size))
  clear hb c0 c1 c2 c3
  have c0 := S3.out.c0
  have c1 := S3.out.c1
  have c2 := S3.out.c2
  have c3 := S3.out.c3
  go_wp2_with fail
  refine (K4.out w3).mono ?_
  rintro e w4 ⟨rfl, hb⟩
  have S4 := Lib.hid (S3.out.below hb)
  have B4 := Lib.hid (B3.out.trans (hb.mono B3.out.size))
  clear hb c0 c1 c2 c3
  have c0 := S4.out.c0
  have c1 := S4.out.c1
  have c2 := S4.out.c2
  have c3 := S4.out.c3
  go_wp2_with fail
  refine (K5.out w4).mono ?_
  rintro e w5 ⟨rfl, hb⟩
  have S5 := Lib.hid (S4.out.below hb)
  have B5 := Lib.hid (B4.out.trans (hb.mono B4.out.size))
  clear hb c0 c1 c2 c3
  have c0 := S5.out.c0
  have c1 := S5.out.c1
  have c2 := S5.out.c2
  have c3 := S5.out.c3
  have hbf := Blk.new w5 37 #[.nilFunc]
  have HBF := Lib.hid hbf
  have cN : (w5.alloc (.cells #[.nilFunc] 37)).cell? ⟨w5.heap.size, 0, none⟩ = some .nilFunc := hbf.cell 0 rfl
  have fN := hbf.frozen 0
  clear hbf
  go_upto_region 8 with (fail)
  obtain ⟨wa, hwa⟩ : ∃ wa, wa = w5.alloc (.cells #[.func (.func 21) #[] #[]] 37) := ⟨_, rfl⟩
  have ca : wa.cell? ⟨w5.heap.size, 0, none⟩ = some (.func (.func 21) #[] #[]) := by rw [hwa]; exact (Blk.new w5 37 #[.func (.func 21) #[] #[]]).cell 0 rfl
  have hba : Below w5.heap.size w5 wa := by rw [hwa]; exact (Below.refl _ _).alloc (Nat.le_refl _) _
  have hla : w5.heap.size < wa.heap.size := by rw [hwa]; simp
  have HCA := Lib.hid ca
  have HLA := Lib.hid hla
  have SA := Lib.hid (S5.out.below hba)
  have BA := Lib.hid (B5.out.trans (hba.mono B5.out.size))
  rw [← hwa]
  clear c0 c1 c2 c3 cN fN ca hba hla hwa
  have c0 := SA.out.c0
  have c1 := SA.out.c1
  have c2 := SA.out.c2
  have c3 := SA.out.c3
  have hbu : Below wa.heap.size wa (wa.alloc (.cells #[.int .i64 a2] 3)) := (Below.refl _ _).alloc (Nat.le_refl _) _
  have SU := Lib.hid (SA.out.below hbu)
  have BU := Lib.hid (BA.out.trans (hbu.mono BA.out.size))
  have CU := Lib.hid (cell_keep HCA.out HLA.out hbu)
  have LU := Lib.hid (Nat.lt_of_lt_of_le HLA.out hbu.size)
  clear hbu
  go_wp2_with fail
  refine (Q1.out wa).mono ?_
  rintro e u1 ⟨rfl, rfl⟩
  go_wp2_with fail
  refine (T1.out _ w.heap.size w5.heap.size SU.out CU.out).mono ?_
  rintro e v1 ⟨rfl, hb⟩
  have SV1 := Lib.hid (SU.out.below hb)
  have BV1 := Lib.hid (BU.out.trans (hb.mono BU.out.size))
  have HC1 := Lib.hid (cell_keep CU.out LU.out hb)
  have HL1 := Lib.hid (Nat.lt_of_lt_of_le LU.out hb.size)
  clear c0 c1 c2 c3 hb SU BU CU LU
  have c0 := SV1.out.c0
  have c1 := SV1.out.c1
  have c2 := SV1.out.c2
  have c3 := SV1.out.c3
  have hbu : Below v1.heap.size v1 (v1.alloc (.cells #[.int .i64 a1, .int .i64 a2] 3)) := (Below.refl _ _).alloc (Nat.le_refl _) _
  have SU := Lib.hid (SV1.out.below hbu)
  have BU := Lib.hid (BV1.out.trans (hbu.mono BV1.out.size))
  have CU := Lib.hid (cell_keep HC1.out HL1.out hbu)
  have LU := Lib.hid (Nat.lt_of_lt_of_le HL1.out hbu.size)
  clear hbu
  go_wp2_with fail
  refine (Q2.out v1).mono ?_
  rintro e u2 ⟨rfl, rfl⟩
  go_wp2_with fail
  refine (T2.out _ w.heap.size SU.out).mono ?_
  rintro e v2 ⟨rfl, hb⟩
  have SV2 := Lib.hid (SU.out.below hb)
  have BV2 := Lib.hid (BU.out.trans (hb.mono BU.out.size))
  have HC2 := Lib.hid (cell_keep CU.out LU.out hb)
  have HL2 := Lib.hid (Nat.lt_of_lt_of_le LU.out hb.size)
  clear c0 c1 c2 c3 hb SU BU CU LU
  have c0 := SV2.out.c0
  have c1 := SV2.out.c1
  have c2 := SV2.out.c2
  have c3 := SV2.out.c3
  have hbu : Below v2.heap.size v2 (v2.alloc (.cells #[.int .i64 a1, .int .i64 a2, .int .i64 a3] 3)) := (Below.refl _ _).alloc (Nat.le_refl _) _
  have SU := Lib.hid (SV2.out.below hbu)
  have BU := Lib.hid (BV2.out.trans (hbu.mono BV2.out.size))
  have CU := Lib.hid (cell_keep HC2.out HL2.out hbu)
  have LU := Lib.hid (Nat.lt_of_lt_of_le HL2.out hbu.size)
  clear hbu
  go_wp2_with fail
  refine (Q3.out v2).mono ?_
  rintro e u3 ⟨rfl, rfl⟩
  go_wp2_with fail
  refine (T3.out _ w.heap.size SU.out).mono ?_
  rintro e v3 ⟨rfl, hb⟩
  have SV3 := Lib.hid (SU.out.below hb)
  have BV3 := Lib.hid (BU.out.trans (hb.mono BU.out.size))
  have HC3 := Lib.hid (cell_keep CU.out LU.out hb)
  have HL3 := Lib.hid (Nat.lt_of_lt_of_le LU.out hb.size)
  clear c0 c1 c2 c3 hb SU BU CU LU
  have c0 := SV3.out.c0
  have c1 := SV3.out.c1
  have c2 := SV3.out.c2
  have c3 := SV3.out.c3
  have SU := SV3
  have BU := BV3
  have CU := HC3
  have LU := HL3
  go_wp2_with fail
  refine (Q4.out v3).mono ?_
  rintro e u4 ⟨rfl, rfl⟩
  go_wp2_with fail
  refine (T4.out _ w.heap.size SU.out).mono ?_
  rintro e v4 ⟨rfl, hb⟩
  have SV4 := Lib.hid (SU.out.below hb)
  have BV4 := Lib.hid (BU.out.trans (hb.mono BU.out.size))
  have HC4 := Lib.hid (cell_keep CU.out LU.out hb)
  have HL4 := Lib.hid (Nat.lt_of_lt_of_le LU.out hb.size)
  clear c0 c1 c2 c3 hb SU BU CU LU
  have c0 := SV4.out.c0
  have c1 := SV4.out.c1
  have c2 := SV4.out.c2
  have c3 := SV4.out.c3
  rcases (by omega : a0 < 0 ∨ (¬ a0 < 0 ∧ 28 < a0) ∨ (¬ a0 < 0 ∧ ¬ 28 < a0)) with g | ⟨g, g2⟩ | ⟨g, g2⟩
  · have hq : q5 = true := by rw [Q5.out]; unfold catB; rw [decide_eq_true g]; rfl
    have b1 : decide (a0 < 0) = true := decide_eq_true g
    have TT := T5.out v4 w.heap.size SV4.out
    rw [hq] at TT
    have HTT := Lib.hid TT
    clear g hq TT
    go_wp2_with fail
    refine HTT.out.mono ?_
    rintro e v5 ⟨rfl, hb⟩
    have BV5 := Lib.hid (BV4.out.trans (hb.mono BV4.out.size))
    clear hb
    go_wp2_with fail
    go_ret
    exact ⟨rfl, BV5.out⟩
  · have hq : q5 = true := by rw [Q5.out]; unfold catB; rw [decide_eq_true g2]; simp
    have b1 : decide (a0 < 0) = false := decide_eq_false g
    have b2 : decide (28 < a0) = true := decide_eq_true g2
    have TT := T5.out v4 w.heap.size SV4.out
    rw [hq] at TT
    have HTT := Lib.hid TT
    clear g g2 hq TT
    go_wp2_with fail
    refine HTT.out.mono ?_
    rintro e v5 ⟨rfl, hb⟩
    have BV5 := Lib.hid (BV4.out.trans (hb.mono BV4.out.size))
    clear hb
    go_wp2_with fail
    go_ret
    exact ⟨rfl, BV5.out⟩
  · have hq : q5 = false := by rw [Q5.out]; unfold catB; rw [decide_eq_false g, decide_eq_false g2]; rfl
    have b1 : decide (a0 < 0) = false := decide_eq_false g
    have b2 : decide (28 < a0) = false := decide_eq_false g2
    have TT := T5.out v4 w.heap.size SV4.out
    rw [hq] at TT
    have HTT := Lib.hid TT
    clear g g2 hq TT
    go_wp2_with fail
    refine HTT.out.mono ?_
    rintro e v5 ⟨rfl, hb⟩
    have BV5 := Lib.hid (BV4.out.trans (hb.mono BV4.out.size))
    clear hb
    go_wp2_with fail
    go_ret
    exact ⟨rfl, BV5.out⟩
end Go.Proofs.Ytaehehoeidnidaa
