/- The reference's PRight walked. No condition. -/
import Derived.Test.YtakjcodfcoaadabBigL
import Derived.Test.YtakjcodfcoaadabBigH
import Derived.Test.YtakjcodfcoaadabBigY
import Derived.Test.YtakjcodfcoaadabBigT
import Derived.Test.YtakjcodfcoaadabStaR
namespace Go.Proofs.Ytakjcodfcoaadab
open Go.ChangeShapes Go.WideShapes Go.ChangeAt Go.RowKit
set_option linter.unusedVariables false

theorem bp4 : bp 4 = 340282366920938463463374607431768211456 := rfl
theorem fits4 {z : Int} (h : z.natAbs < 340282366920938463463374607431768211456) : Fits z 4 := by unfold Fits; rw [bp4]; exact h
theorem cmpAbsZ_any (gx ox gy oy : Nat) (x y : Int) (w : World) (hx : IntZ w gx ox x) (hy : IntZ w gy oy y) :
    Calls Try.prog 48 #[.pointer (some ⟨gx, ox, none⟩), .pointer (some ⟨gy, oy, none⟩)] w fun e w' => e = .returned (.int .i64 (cmpN x.natAbs y.natAbs)) ∧ ∃ m, w' = w.drewN m := by
  obtain ⟨bx, xs, ax, zx⟩ := hx
  obtain ⟨by_, ys, ay, zy⟩ := hy
  rw [zx.abs, zy.abs]
  exact cmpAbs_any gx ox gy oy bx by_ xs ys w ax ay zx.1 zx.2.1 zy.1 zy.2.1
/-- Three numbers, to be read. -/
def Three (w : World) (a b c : Nat) (x y z : Int) : Prop := IntZ w a 0 x ∧ IntZ w b 0 y ∧ IntZ w c 0 z
theorem Three.below {w w' : World} {a b c : Nat} {x y z : Int} (h : Three w a b c x y z) (hb : Below w.heap.size w w') : Three w' a b c x y z := ⟨h.1.below hb, h.2.1.below hb, h.2.2.below hb⟩
theorem Three.alloc {w : World} {a b c : Nat} {x y z : Int} (h : Three w a b c x y z) (o : Obj) : Three (w.alloc o) a b c x y z := ⟨h.1.alloc o, h.2.1.alloc o, h.2.2.alloc o⟩
theorem Three.drewN {w : World} {a b c : Nat} {x y z : Int} (h : Three w a b c x y z) (n : Nat) : Three (w.drewN n) a b c x y z := ⟨h.1.drewN n, h.2.1.drewN n, h.2.2.drewN n⟩
/-- An operation onto a new number. -/
theorem new_put {w w' : World} {z : Int} {x y : Value} (h : PutZ (w.alloc (.cells #[x, y] tI)) w' w.heap.size z) : NewZ w w' w.heap.size z := h.new

set_option maxRecDepth 20000 in
set_option maxHeartbeats 4000000 in
theorem pright_any (N S Q : Int) (w : World) (hS : -9223372036854775808 ≤ S ∧ S ≤ 9223372036854775807) (hQ : -9223372036854775808 ≤ Q ∧ Q ≤ 9223372036854775807) :
    Calls Try.prog 14 #[MomV N S Q] w fun e w' => e = .returned (.bool (decide (mok N S Q))) ∧ Below w.heap.size w w' := by
  by_cases h0 : N < 0
  · have hf : Hid (decide (mok N S Q) = false) := decide_eq_false (fun h => by obtain ⟨a, b, c, d, e, f, _⟩ := h; omega)
    go_enter Try.func14, Try.ntmps14
    go_wp2
    go_ret
    exact ⟨ret_mb hf.out.symm, (Below.refl _ _).alloc (Nat.le_refl _) _⟩
  by_cases h1 : 1024 < N
  · have hf : Hid (decide (mok N S Q) = false) := decide_eq_false (fun h => by obtain ⟨a, b, c, d, e, f, _⟩ := h; omega)
    go_enter Try.func14, Try.ntmps14
    go_wp2
    go_ret
    exact ⟨ret_mb hf.out.symm, (Below.refl _ _).alloc (Nat.le_refl _) _⟩
  go_enter Try.func14, Try.ntmps14
  have HN : Hid (0 ≤ N ∧ N ≤ 1024) := ⟨by omega, by omega⟩
  go_wp2_with fail
  have B0 := Blk.new w 24 #[.int .i64 N, .int .i64 S, .int .i64 Q]
  have c0 := B0.cell 0 (u := .int .i64 N) rfl
  have c1 := B0.cell 1 (u := .int .i64 S) rfl
  have c2 := B0.cell 2 (u := .int .i64 Q) rfl
  have HLT := Lib.hid B0.lt
  clear B0 h0 h1
  generalize hw0 : w.alloc (.cells #[.int .i64 N, .int .i64 S, .int .i64 Q] 24) = w0 at *
  have HB0 : Hid (Below w.heap.size w w0) := by unfold Hid; rw [← hw0]; exact (Below.refl _ _).alloc (Nat.le_refl _) _
  clear hw0
  refine wp_region_plan [(0, 0), (1, 1), (3, 0), (4, 1), (6, 0), (7, 1), (2, 2), (5, 2), (8, 2), (9, 0), (10, 0), (11, 0)] (fun w' => w'.cell? ⟨w.heap.size, 0, none⟩ = some (.int .i64 N) ∧ w'.cell? ⟨w.heap.size, 1, none⟩ = some (.int .i64 S) ∧ w'.cell? ⟨w.heap.size, 2, none⟩ = some (.int .i64 Q) ∧ Below w0.heap.size w0 w') (by kernel_rfl) (by kernel_rfl) (fun _ d _ _ _ h => by cases d <;> exact h) ⟨c0, c1, c2, Below.drew (Below.refl _ _)⟩ ?_
  iterate 6 ((first | (refine plan0 (v := ?_) rfl rfl (by rfl) ?_ ?_) | (refine plan1 (v := ?_) rfl rfl (by rfl) ?_ ?_)); rotate_left; (first | (intro w'; go_simp; with_reducible rfl) | (intro w' hS; obtain ⟨h1, h2, h3, h4⟩ := hS; go_simp; with_reducible rfl)); simp only [List.setIfInBounds_toArray, List.set_cons_zero, List.set_cons_succ])
  have HLT0 : Hid (w.heap.size < w0.heap.size) := HLT.out
  have HC : Hid (∀ w' : World, Below w0.heap.size w0 w' → w'.cell? ⟨w.heap.size, 0, none⟩ = some (.int .i64 N) ∧ w'.cell? ⟨w.heap.size, 1, none⟩ = some (.int .i64 S) ∧ w'.cell? ⟨w.heap.size, 2, none⟩ = some (.int .i64 Q) ∧ Below w0.heap.size w0 w') := fun w' hb => ⟨(hb.cell (p := ⟨w.heap.size, 0, none⟩) HLT0.out).trans c0, (hb.cell (p := ⟨w.heap.size, 1, none⟩) HLT0.out).trans c1, (hb.cell (p := ⟨w.heap.size, 2, none⟩) HLT0.out).trans c2, hb⟩
  clear c0 c1 c2
  refine plan2 rfl rfl fun K' hK' => ?_
  go_simp
  refine (newInt_any N _ (by have := HN.out; omega) (by have := HN.out; omega)).mono ?_
  rintro e w1 ⟨rfl, hn1⟩
  have H1 := Lib.hid hn1
  clear hn1
  have HB1 : Hid (Below w0.heap.size w0 w1) := (Below.drew (Below.refl _ _)).trans H1.out.2.2.1
  dsimp only
  refine hK' _ _ (HC.out _ HB1.out) ?_
  clear hK' K'
  refine plan2 rfl rfl fun K' hK' => ?_
  go_simp
  refine (newInt_any S _ hS.1 hS.2).mono ?_
  rintro e w2 ⟨rfl, hn2⟩
  have H2 := Lib.hid hn2
  clear hn2
  have HB2 : Hid (Below w0.heap.size w0 w2) := HB1.out.trans (H2.out.2.2.1.mono HB1.out.size)
  dsimp only
  refine hK' _ _ (HC.out _ HB2.out) ?_
  clear hK' K'
  refine plan2 rfl rfl fun K' hK' => ?_
  go_simp
  refine (newInt_any Q _ hQ.1 hQ.2).mono ?_
  rintro e w3 ⟨rfl, hn3⟩
  have H3 := Lib.hid hn3
  clear hn3
  have HB3 : Hid (Below w0.heap.size w0 w3) := HB2.out.trans (H3.out.2.2.1.mono HB2.out.size)
  dsimp only
  refine hK' _ _ (HC.out _ HB3.out) ?_
  clear hK' K'
  iterate 3 ((refine plan0 (v := ?_) rfl rfl (by rfl) ?_ ?_); rotate_left; (intro w'; go_simp; with_reducible rfl); simp only [List.setIfInBounds_toArray, List.set_cons_zero, List.set_cons_succ])
  refine planEnd ?_
  have HT : Hid (Three w3 w0.heap.size w1.heap.size w2.heap.size N S Q) := ⟨(H1.out.1.below H2.out.2.2.1).below H3.out.2.2.1, H2.out.1.below H3.out.2.2.1, H3.out.1⟩
  have HBW : Hid (Below w.heap.size w w3) := HB0.out.trans (HB3.out.mono (Nat.le_of_lt HLT0.out))
  clear HC H1 H2 H3 HB1 HB2 HB3 HB0 HLT HLT0
  generalize w0.heap.size = ga at *
  generalize w1.heap.size = gb at *
  generalize w2.heap.size = gc at *
  go_wp2_with fail
  refine (lsh_any w3.heap.size ga 0 20 N 4 _ (newBlk _ _ _) (HT.out.1.alloc _) (fits4 (by have := HN.out; omega)) (by decide) (by decide)).mono ?_
  rintro e w4 ⟨rfl, hp⟩
  have H4 := Lib.hid hp.new
  clear hp
  have HT4 := Lib.hid (HT.out.below H4.out.2.2.1)
  have HW4 : Hid (Below w.heap.size w w4) := HBW.out.trans (H4.out.2.2.1.mono HBW.out.size)
  have HP20 : Hid (N * ((2 ^ 20 : Nat) : Int) = N * 1048576) := by unfold Hid; omega
  go_wp2_with fail
  refine (cmpAbsZ_any gb 0 w3.heap.size 0 S (N * ((2 ^ 20 : Nat) : Int)) w4 HT4.out.2.1 H4.out.1).mono ?_
  rintro e w5 ⟨rfl, m5, rfl⟩
  by_cases c1 : N * 1048576 < S.natAbs
  · have hf : Hid (decide (mok N S Q) = false) := decide_eq_false (fun h => by obtain ⟨a, b, c, d, e, f, _⟩ := h; omega)
    rw [cmpN_gt (by have := HP20.out; have := HN.out; omega)]
    clear c1
    go_wp2_with fail
    go_ret
    exact ⟨ret_mb hf.out.symm, below_drewN HW4.out _⟩
  have d1 : cmpN S.natAbs (N * ((2 ^ 20 : Nat) : Int)).natAbs ≤ 0 := by
    have := HP20.out; have := HN.out
    unfold cmpN; split
    · decide
    · rw [if_neg (by omega)]; decide
  have d1' : decide (0 < cmpN S.natAbs (N * ((2 ^ 20 : Nat) : Int)).natAbs) = false := decide_eq_false (by omega)
  have HC1 : Hid (¬ N * 1048576 < S.natAbs) := c1
  clear c1
  generalize cmpN S.natAbs (N * ((2 ^ 20 : Nat) : Int)).natAbs = v1 at *
  go_wp2_with fail
  refine (sign_any gc 0 Q _ (HT4.out.2.2.drewN _)).mono ?_
  rintro e w6 ⟨rfl, rfl⟩
  clear d1 d1'
  by_cases c2 : Q < 0
  · have hf : Hid (decide (mok N S Q) = false) := decide_eq_false (fun h => by obtain ⟨a, b, c, d, e, f, _⟩ := h; omega)
    have hs : sgn Q = -1 := by unfold sgn; rw [if_neg (by omega), if_pos c2]
    rw [hs]
    clear c2 hs
    go_wp2_with fail
    go_ret
    exact ⟨ret_mb hf.out.symm, below_drewN HW4.out _⟩
  have d2 : 0 ≤ sgn Q := by unfold sgn; split <;> first | decide | (rw [if_neg c2]; decide)
  have HC2 := Lib.hid c2
  clear c2
  have d2' : decide (sgn Q < 0) = false := decide_eq_false (by omega)
  generalize sgn Q = v2 at *
  go_wp2_with fail
  clear d2 d2'
  refine (lsh_any (w4.drewN m5).heap.size ga 0 40 N 4 _ (newBlk _ _ _) ((HT4.out.1.drewN _).alloc _) (fits4 (by have := HN.out; omega)) (by decide) (by decide)).mono ?_
  rintro e w7 ⟨rfl, hp⟩
  have H7 := Lib.hid hp.new
  clear hp
  have HT7 := Lib.hid ((HT4.out.drewN m5).below H7.out.2.2.1)
  have HW7 : Hid (Below w.heap.size w w7) := (below_drewN HW4.out m5).trans (H7.out.2.2.1.mono HW4.out.size)
  have HP40 : Hid (N * ((2 ^ 40 : Nat) : Int) = N * 1048576 * 1048576) := by unfold Hid; omega
  go_wp2_with fail
  refine (cmp_any gc 0 (w4.drewN m5).heap.size 0 Q (N * ((2 ^ 40 : Nat) : Int)) w7 HT7.out.2.2 H7.out.1).mono ?_
  rintro e w8 ⟨rfl, m8, rfl⟩
  by_cases c3 : N * 1048576 * 1048576 < Q
  · have hf : Hid (decide (mok N S Q) = false) := decide_eq_false (fun h => by obtain ⟨a, b, c, d, e, f, _⟩ := h; omega)
    have hs : cmpZ Q (N * ((2 ^ 40 : Nat) : Int)) = 1 := by unfold cmpZ; have := HP40.out; rw [if_neg (by omega), if_pos (by omega)]
    rw [hs]
    clear c3 hs
    go_wp2_with fail
    go_ret
    exact ⟨ret_mb hf.out.symm, below_drewN HW7.out _⟩
  have d3 : cmpZ Q (N * ((2 ^ 40 : Nat) : Int)) ≤ 0 := by
    have := HP40.out
    unfold cmpZ; split
    · decide
    · rw [if_neg (by omega)]; decide
  have d3' : decide (0 < cmpZ Q (N * ((2 ^ 40 : Nat) : Int))) = false := decide_eq_false (by omega)
  have HC3 := Lib.hid c3
  clear c3
  generalize cmpZ Q (N * ((2 ^ 40 : Nat) : Int)) = v3 at *
  go_wp2_with fail
  clear d3 d3'
  refine (sub_any (w7.drewN m8).heap.size gb 0 gc 0 S Q 4 _ (newBlk _ _ _) ((HT7.out.2.1.drewN _).alloc _) ((HT7.out.2.2.drewN _).alloc _) (fits4 (by omega)) (fits4 (by omega)) (by decide)).mono ?_
  rintro e w9 ⟨rfl, hp⟩
  have H9 := Lib.hid hp.new
  clear hp
  have HT9 := Lib.hid ((HT7.out.drewN m8).below H9.out.2.2.1)
  have HW9 : Hid (Below w.heap.size w w9) := (below_drewN HW7.out m8).trans (H9.out.2.2.1.mono HW7.out.size)
  go_wp2_with fail
  refine (mul_any w9.heap.size gb 0 gb 0 S S 4 _ (newBlk _ _ _) (HT9.out.2.1.alloc _) (HT9.out.2.1.alloc _) (fits4 (by omega)) (fits4 (by omega)) (by decide)).mono ?_
  rintro e w10 ⟨rfl, hp⟩
  have H10 := Lib.hid hp.new
  clear hp
  have HT10 := Lib.hid (HT9.out.below H10.out.2.2.1)
  have HD10 := Lib.hid (H9.out.1.below H10.out.2.2.1)
  have HW10 : Hid (Below w.heap.size w w10) := HW9.out.trans (H10.out.2.2.1.mono HW9.out.size)
  go_wp2_with fail
  refine (mul_any w10.heap.size ga 0 gc 0 N Q 4 _ (newBlk _ _ _) (HT10.out.1.alloc _) (HT10.out.2.2.alloc _) (fits4 (by have := HN.out; omega)) (fits4 (by omega)) (by decide)).mono ?_
  rintro e w11 ⟨rfl, hp⟩
  have H11 := Lib.hid hp.new
  clear hp
  have HD11 := Lib.hid (HD10.out.below H11.out.2.2.1)
  have HS11 := Lib.hid (H10.out.1.below H11.out.2.2.1)
  have HW11 : Hid (Below w.heap.size w w11) := HW10.out.trans (H11.out.2.2.1.mono HW10.out.size)
  go_wp2_with fail
  refine (cmp_any w9.heap.size 0 w10.heap.size 0 (S * S) (N * Q) w11 HS11.out H11.out.1).mono ?_
  rintro e w12 ⟨rfl, m12, rfl⟩
  by_cases c4 : S * S ≤ N * Q
  · have d4 : cmpZ (S * S) (N * Q) ≤ 0 := by
      unfold cmpZ; split
      · decide
      · rw [if_neg (by omega)]; decide
    have d4' : decide (cmpZ (S * S) (N * Q) ≤ 0) = true := decide_eq_true d4
    have HC4 := Lib.hid c4
    clear c4
    generalize cmpZ (S * S) (N * Q) = v4 at *
    go_wp2_with fail
    refine (bit0_any (w7.drewN m8).heap.size 0 (S - Q) _ (HD11.out.drewN _)).mono ?_
    rintro e w13 ⟨rfl, rfl⟩
    by_cases c5 : (S - Q) % 2 = 0
    · have hf : Hid (decide (mok N S Q) = true) := decide_eq_true (by
        have a1 := HN.out; have a2 := HC1.out; have a3 := HC2.out; have a4 := HC3.out
        exact ⟨by omega, by omega, by omega, by omega, by omega, by omega, HC4.out, c5⟩)
      rw [show (S - Q).natAbs % 2 = 0 by omega]
      clear c5
      go_wp2_with fail
      go_ret
      exact ⟨ret_mb hf.out.symm, below_drewN HW11.out _⟩
    · have hf : Hid (decide (mok N S Q) = false) := decide_eq_false (fun h => c5 h.2.2.2.2.2.2.2)
      rw [show (S - Q).natAbs % 2 = 1 by omega]
      clear c5
      go_wp2_with fail
      go_ret
      exact ⟨ret_mb hf.out.symm, below_drewN HW11.out _⟩
  · have hf : Hid (decide (mok N S Q) = false) := decide_eq_false (fun h => c4 h.2.2.2.2.2.2.1)
    have hs : cmpZ (S * S) (N * Q) = 1 := by unfold cmpZ; rw [if_neg (by omega), if_pos (by omega)]
    rw [hs]
    clear c4 hs
    go_wp2_with fail
    go_ret
    exact ⟨ret_mb hf.out.symm, below_drewN HW11.out _⟩
end Go.Proofs.Ytakjcodfcoaadab
