/- CoinTells: the law's function, walked. No condition. -/
import Derived.Test.YtmcbkjepjijfjaaCoiO
import Derived.Lib.SmallJoins
namespace Go.Proofs.Ytmcbkjepjijfjaa
open Go.ChangeShapes Go.WideShapes Go.ChangeAt Go.RowKit
set_option linter.unusedVariables false

set_option maxRecDepth 100000 in
set_option maxHeartbeats 2000000 in
theorem coin_law (t : List Bool) (l : List Int) (a b : Int) (A C : Option Addr) (c d : Nat) (w : World) (hp : Seg w w.heap.size A (t.map .bool)) (hq : Seg w w.heap.size C (l.map (.int .i64))) (K : Bool) (r1 : Bool × Int × Int) (r2 r3 : Int × Int × Int)
    (h1 : ∀ u, Seg u u.heap.size A (t.map .bool) → Calls Try.prog 49 #[.slice A t.length c, FracV a b] u fun e w' => e = C3 r1 ∧ Below u.heap.size u w')
    (h2 : ∀ u, Seg u u.heap.size A (t.map .bool) → Calls Try.prog 50 #[.slice A t.length c, FracV a b] u fun e w' => e = C3 r1 ∧ Below u.heap.size u w')
    (h3 : ∀ u, Seg u u.heap.size A (t.map .bool) → Calls Try.prog 51 #[.slice A t.length c, FracV a b] u fun e w' => e = N3 r2 ∧ Below u.heap.size u w')
    (h4 : ∀ u, Seg u u.heap.size A (t.map .bool) → Calls Try.prog 52 #[.slice A t.length c, FracV a b] u fun e w' => e = N3 r2 ∧ Below u.heap.size u w')
    (h5 : ∀ u, Seg u u.heap.size A (t.map .bool) → Seg u u.heap.size C (l.map (.int .i64)) → Calls Try.prog 53 #[.slice A t.length c, .slice C l.length d] u fun e w' => e = N3 r3 ∧ Below u.heap.size u w')
    (h6 : ∀ u, Seg u u.heap.size A (t.map .bool) → Seg u u.heap.size C (l.map (.int .i64)) → Calls Try.prog 54 #[.slice A t.length c, .slice C l.length d] u fun e w' => e = N3 r3 ∧ Below u.heap.size u w')
    (h7 : ∀ u, Calls Try.prog 55 #[FracV a b] u fun e w' => e = .returned (.bool K) ∧ Below u.heap.size u w')
    (h8 : ∀ u, Calls Try.prog 56 #[FracV a b] u fun e w' => e = .returned (.bool K) ∧ Below u.heap.size u w') :
    Calls Try.prog 9 #[.slice A t.length c, FracV a b, .slice C l.length d] w fun e w' => e = .returned (.bool true) ∧ Below w.heap.size w w' := by
  obtain ⟨y1, u1, e1⟩ := r1
  obtain ⟨y2, u2, e2⟩ := r2
  obtain ⟨y3, u3, e3⟩ := r3
  have HP0 := Lib.hid hp
  have HQ0 := Lib.hid hq
  have H1 := Lib.hid h1
  have H2 := Lib.hid h2
  have H3 := Lib.hid h3
  have H4 := Lib.hid h4
  have H5 := Lib.hid h5
  have H6 := Lib.hid h6
  have H7 := Lib.hid h7
  have H8 := Lib.hid h8
  clear hp hq h1 h2 h3 h4 h5 h6 h7 h8
  go_enter Try.func9, Try.ntmps9
  go_wp2_with fail
  have HB0 : Hid (Below w.heap.size w (w.alloc (.cells #[.int .i64 a, .int .i64 b] 62))) := (Below.refl _ _).alloc (Nat.le_refl _) _
  have HK0 : Hid (Blk (w.alloc (.cells #[.int .i64 a, .int .i64 b] 62)) w.heap.size 62 #[.int .i64 a, .int .i64 b]) := Blk.new w _ _
  have HP1 := Lib.hid (HP0.out.on HB0.out)
  have HQ1 := Lib.hid (HQ0.out.on HB0.out)
  generalize w.alloc (.cells #[.int .i64 a, .int .i64 b] 62) = w0 at *
  have e_load : True := trivial
  clear e_load
  refine (H1.out _ HP1.out).mono ?_
  rintro e w1 ⟨rfl, hb⟩
  have HB1 : Hid (Below w.heap.size w w1) := HB0.out.trans (hb.mono HB0.out.size)
  have HK1 : Hid (Blk w1 w.heap.size 62 #[.int .i64 a, .int .i64 b]) := HK0.out.below hb HK0.out.lt
  have HP2 := Lib.hid (HP1.out.on hb)
  have HQ2 := Lib.hid (HQ1.out.on hb)
  clear hb
  go_wp2_with (first | (refine wpList_load_blk rfl _ _ rfl w.heap.size rfl _ _ _ HK1.out Try.underlying62 rfl (by kernel_rfl) ?_) | fail)
  refine (H2.out _ HP2.out).mono ?_
  rintro e w2 ⟨rfl, hb⟩
  have HB2 : Hid (Below w.heap.size w w2) := HB1.out.trans (hb.mono HB1.out.size)
  have HK2 : Hid (Blk w2 w.heap.size 62 #[.int .i64 a, .int .i64 b]) := HK1.out.below hb HK1.out.lt
  have HP3 := Lib.hid (HP2.out.on hb)
  have HQ3 := Lib.hid (HQ2.out.on hb)
  clear hb
  go_wp2_with (first | (refine wpList_load_blk rfl _ _ rfl w.heap.size rfl _ _ _ HK2.out Try.underlying62 rfl (by kernel_rfl) ?_) | fail)
  refine (H3.out _ HP3.out).mono ?_
  rintro e w3 ⟨rfl, hb⟩
  have HB3 : Hid (Below w.heap.size w w3) := HB2.out.trans (hb.mono HB2.out.size)
  have HK3 : Hid (Blk w3 w.heap.size 62 #[.int .i64 a, .int .i64 b]) := HK2.out.below hb HK2.out.lt
  have HP4 := Lib.hid (HP3.out.on hb)
  have HQ4 := Lib.hid (HQ3.out.on hb)
  clear hb
  go_wp2_with (first | (refine wpList_load_blk rfl _ _ rfl w.heap.size rfl _ _ _ HK3.out Try.underlying62 rfl (by kernel_rfl) ?_) | fail)
  refine (H4.out _ HP4.out).mono ?_
  rintro e w4 ⟨rfl, hb⟩
  have HB4 : Hid (Below w.heap.size w w4) := HB3.out.trans (hb.mono HB3.out.size)
  have HK4 : Hid (Blk w4 w.heap.size 62 #[.int .i64 a, .int .i64 b]) := HK3.out.below hb HK3.out.lt
  have HP5 := Lib.hid (HP4.out.on hb)
  have HQ5 := Lib.hid (HQ4.out.on hb)
  clear hb
  go_wp2_with (first | (refine wpList_load_blk rfl _ _ rfl w.heap.size rfl _ _ _ HK4.out Try.underlying62 rfl (by kernel_rfl) ?_) | fail)
  refine (H5.out _ HP5.out HQ5.out).mono ?_
  rintro e w5 ⟨rfl, hb⟩
  have HB5 : Hid (Below w.heap.size w w5) := HB4.out.trans (hb.mono HB4.out.size)
  have HK5 : Hid (Blk w5 w.heap.size 62 #[.int .i64 a, .int .i64 b]) := HK4.out.below hb HK4.out.lt
  have HP6 := Lib.hid (HP5.out.on hb)
  have HQ6 := Lib.hid (HQ5.out.on hb)
  clear hb
  go_wp2_with (first | (refine wpList_load_blk rfl _ _ rfl w.heap.size rfl _ _ _ HK5.out Try.underlying62 rfl (by kernel_rfl) ?_) | fail)
  refine (H6.out _ HP6.out HQ6.out).mono ?_
  rintro e w6 ⟨rfl, hb⟩
  have HB6 : Hid (Below w.heap.size w w6) := HB5.out.trans (hb.mono HB5.out.size)
  have HK6 : Hid (Blk w6 w.heap.size 62 #[.int .i64 a, .int .i64 b]) := HK5.out.below hb HK5.out.lt
  have HP7 := Lib.hid (HP6.out.on hb)
  have HQ7 := Lib.hid (HQ6.out.on hb)
  clear hb
  go_wp2_with (first | (refine wpList_load_blk rfl _ _ rfl w.heap.size rfl _ _ _ HK6.out Try.underlying62 rfl (by kernel_rfl) ?_) | fail)
  have b0 : (K == K) = true := by simp
  have b1 : (y1 == y1) = true := by simp
  have b2 : (u1 == u1) = true := by simp
  have b3 : (e1 == e1) = true := by simp
  have b4 : (y2 == y2) = true := by simp
  have b5 : (u2 == u2) = true := by simp
  have b6 : (e2 == e2) = true := by simp
  have b7 : (y3 == y3) = true := by simp
  have b8 : (u3 == u3) = true := by simp
  have b9 : (e3 == e3) = true := by simp
  refine wp_region_plan [(0, 1), (2, 1), (1, 2), (3, 2), (4, 0), (5, 0), (6, 0), (7, 0), (8, 0), (9, 0), (10, 0), (11, 0), (12, 0), (13, 0), (14, 0), (15, 0), (16, 0), (17, 0), (18, 0), (19, 0), (20, 0), (21, 0), (22, 0), (23, 0), (24, 0), (25, 0), (26, 0), (27, 0), (28, 0), (29, 0), (30, 0), (31, 0), (32, 0), (33, 0), (34, 0), (35, 0), (36, 0), (37, 0), (38, 0), (39, 0), (40, 0), (41, 0), (42, 0), (43, 0), (44, 0), (45, 0), (46, 0), (47, 0), (48, 0), (49, 0), (50, 0)] (fun w' => Blk w' w.heap.size 62 #[.int .i64 a, .int .i64 b] ∧ Below w.heap.size w w') (by kernel_rfl) (by kernel_rfl) (fun _ d _ _ _ h => by cases d <;> exact h) ⟨HK6.out.drew, Below.drew HB6.out⟩ ?_
  iterate 2 (refine plan1 (v := FracV a b) rfl rfl (by rfl) ?_ ?_; exact fun w' hS => exec_load_blk2 _ _ rfl _ rfl _ _ _ _ hS.1 Try.underlying62 rfl (by kernel_rfl); simp only [List.setIfInBounds_toArray, List.set_cons_zero, List.set_cons_succ])
  refine plan2 rfl rfl fun K' hK' => ?_
  go_simp
  refine (H7.out _).mono ?_
  rintro e w7 ⟨rfl, hb⟩
  have HB7 : Hid (Below w.heap.size w w7) := HB6.out.trans ((show Below w6.heap.size w6 w7 from (Below.drew (Below.refl _ _)).trans hb).mono HB6.out.size)
  have HK7 : Hid (Blk w7 w.heap.size 62 #[.int .i64 a, .int .i64 b]) := HK6.out.drew.below hb HK6.out.lt
  dsimp only
  refine hK' _ _ ⟨HK7.out, HB7.out⟩ ?_
  clear hK' K' hb
  refine plan2 rfl rfl fun K' hK' => ?_
  go_simp
  refine (H8.out _).mono ?_
  rintro e w8 ⟨rfl, hb⟩
  have HB8 : Hid (Below w.heap.size w w8) := HB7.out.trans (hb.mono HB7.out.size)
  have HK8 : Hid (Blk w8 w.heap.size 62 #[.int .i64 a, .int .i64 b]) := HK7.out.below hb HK7.out.lt
  dsimp only
  refine hK' _ _ ⟨HK8.out, HB8.out⟩ ?_
  clear hK' K' hb
  iterate 46 ((refine plan0 (v := ?_) rfl rfl (by rfl) ?_ ?_); rotate_left; (intro w'; go_simp; with_reducible rfl); simp only [List.setIfInBounds_toArray, List.set_cons_zero, List.set_cons_succ])
  iterate 1 ((refine plan0 (v := ?_) rfl rfl (by rfl) ?_ ?_); rotate_left; (intro w'; go_simp; with_reducible rfl))
  refine planEnd ?_
  go_wp2_with fail
  go_ret
  exact ⟨rfl, HB8.out⟩
end Go.Proofs.Ytmcbkjepjijfjaa
