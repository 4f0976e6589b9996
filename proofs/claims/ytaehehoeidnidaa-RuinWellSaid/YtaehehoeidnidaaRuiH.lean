/- Package ruin: the law on Wrong and Well, walked. No condition. -/
import Derived.Test.YtaehehoeidnidaaRuiG
namespace Go.Proofs.Ytaehehoeidnidaa
open Go.ChangeShapes Go.WideShapes Go.ChangeAt Go.RowKit
set_option linter.unusedVariables false

theorem well_is {win lose top has : Int} {r : (Int × Int) × Int} (h : wellV win lose top has = r) (w : World) :
    Calls Try.prog 12 #[.int .i64 win, .int .i64 lose, .int .i64 top, .int .i64 has] w fun e w' => e = .returned (.tuple #[FracV r.1.1 r.1.2, .int .i64 r.2]) ∧ Below w.heap.size w w' := by
  subst h; exact well_any win lose top has w
set_option maxRecDepth 20000 in
set_option maxHeartbeats 4000000 in
theorem law_bad (win lose top has : Int) (w : World) (h : wbad win lose top) :
    Calls Try.prog 3 #[.int .i64 win, .int .i64 lose, .int .i64 top, .int .i64 has] w fun e w' => e = .returned (.bool true) ∧ Below w.heap.size w w' := by
  have hf : wellV win lose top has = ((0, 0), 2) := if_pos h
  have HW := Lib.hid (well_is hf)
  have HR := Lib.hid (fun u => wrong_bad win lose top u h)
  clear hf
  unfold wbad at h
  rcases (by omega : win < 1 ∨ (¬ win < 1 ∧ 9 < win) ∨ (¬ win < 1 ∧ ¬ 9 < win ∧ lose < 1) ∨ (¬ win < 1 ∧ ¬ 9 < win ∧ ¬ lose < 1 ∧ 9 < lose) ∨ (¬ win < 1 ∧ ¬ 9 < win ∧ ¬ lose < 1 ∧ ¬ 9 < lose ∧ top < 1) ∨ (¬ win < 1 ∧ ¬ 9 < win ∧ ¬ lose < 1 ∧ ¬ 9 < lose ∧ ¬ top < 1 ∧ 16 < top)) with h1 | ⟨h0, h1⟩ | ⟨h0, h1, h2⟩ | ⟨h0, h1, h2, h3⟩ | ⟨h0, h1, h2, h3, h4⟩ | ⟨h0, h1, h2, h3, h4, h5⟩
  all_goals
    clear h
    go_enter Try.func3, Try.ntmps3
    go_wp2_with fail
    refine (HW.out _).mono ?_
    rintro e w1 ⟨rfl, hb⟩
    have HB1 := Lib.hid hb
    have HK1 := Lib.hid (Blk.new w1 tF (fcs 0 0))
    clear hb
    go_wp2_with (first | (refine wpList_store_blk rfl _ _ _ rfl w1.heap.size (fcs _ _) rfl rfl tF (fcs 0 0) HK1.out (by kernel_rfl) rfl (fcs_one _ _) ?_; intro w2 hb2 hg2 hs2; have c0 := hb2.cell 0 (u := .int .i64 0) rfl; have c1 := hb2.cell 1 (u := .int .i64 0) rfl; have HG2 := Lib.hid hg2; clear hs2 hb2 hg2) | fail)
    refine (HR.out _).mono ?_
    rintro e w3 ⟨rfl, rfl⟩
    go_wp2_with fail
    go_ret
    exact ⟨rfl, (rb_alloc HB1.out _).grown HG2.out (by simp; exact Nat.le_succ_of_le HB1.out.size) (fun k hk => by injection hk with hk; have := HB1.out.size; omega)⟩
set_option maxRecDepth 20000 in
set_option maxHeartbeats 4000000 in
theorem law_none (win lose top has : Int) (w : World) (hb : ¬ wbad win lose top) (hn : has < 0 ∨ top < has) :
    Calls Try.prog 3 #[.int .i64 win, .int .i64 lose, .int .i64 top, .int .i64 has] w fun e w' => e = .returned (.bool true) ∧ Below w.heap.size w w' := by
  have hf : wellV win lose top has = ((0, 0), 3) := by unfold wellV; rw [if_neg hb, if_pos hn]
  have HW := Lib.hid (well_is hf)
  have HR := Lib.hid (fun u => wrong_ok win lose top u hb)
  clear hf
  unfold wbad at hb
  obtain ⟨b0, b1, b2, b3, b4, b5⟩ : ¬ win < 1 ∧ ¬ 9 < win ∧ ¬ lose < 1 ∧ ¬ 9 < lose ∧ ¬ top < 1 ∧ ¬ 16 < top := by omega
  clear hb
  rcases (by omega : has < 0 ∨ (¬ has < 0 ∧ top < has)) with h1 | ⟨h0, h1⟩
  all_goals
    clear hn
    go_enter Try.func3, Try.ntmps3
    go_wp2_with fail
    refine (HW.out _).mono ?_
    rintro e w1 ⟨rfl, hb⟩
    have HB1 := Lib.hid hb
    have HK1 := Lib.hid (Blk.new w1 tF (fcs 0 0))
    clear hb
    go_wp2_with (first | (refine wpList_store_blk rfl _ _ _ rfl w1.heap.size (fcs _ _) rfl rfl tF (fcs 0 0) HK1.out (by kernel_rfl) rfl (fcs_one _ _) ?_; intro w2 hb2 hg2 hs2; have c0 := hb2.cell 0 (u := .int .i64 0) rfl; have c1 := hb2.cell 1 (u := .int .i64 0) rfl; have HG2 := Lib.hid hg2; clear hs2 hb2 hg2) | fail)
    refine (HR.out _).mono ?_
    rintro e w3 ⟨rfl, rfl⟩
    go_wp2_with fail
    refine (HR.out _).mono ?_
    rintro e w4 ⟨rfl, rfl⟩
    go_wp2_with fail
    go_ret
    exact ⟨rfl, (rb_alloc HB1.out _).grown HG2.out (by simp; exact Nat.le_succ_of_le HB1.out.size) (fun k hk => by injection hk with hk; have := HB1.out.size; omega)⟩
set_option maxRecDepth 20000 in
set_option maxHeartbeats 4000000 in
theorem law_ok (win lose top has : Int) (w : World) (hb : ¬ wbad win lose top) (hn : ¬ (has < 0 ∨ top < has)) :
    Calls Try.prog 3 #[.int .i64 win, .int .i64 lose, .int .i64 top, .int .i64 has] w fun e w' => e = .returned (.bool true) ∧ Below w.heap.size w w' := by
  have HR := Lib.hid (fun u => wrong_ok win lose top u hb)
  have hv : (wellV win lose top has).2 = 0 := by unfold wellV; rw [if_neg hb, if_neg hn]
  have hr : ∀ u, Calls Try.prog 14 #[.int .i64 win, .int .i64 lose, .int .i64 top, .int .i64 has] u fun e w' => e = .returned (FracV (wellV win lose top has).1.1 (wellV win lose top has).1.2) ∧ Below u.heap.size u w' := fun u => by
    unfold wbad at hb
    have := rwell_any win.toNat lose.toNat top.toNat has.toNat u (by omega) (by omega) (by omega) (by omega) (by omega) (by omega) (by omega)
    rwa [show ((win.toNat : Nat) : Int) = win by omega, show ((lose.toNat : Nat) : Int) = lose by omega, show ((top.toNat : Nat) : Int) = top by omega, show ((has.toNat : Nat) : Int) = has by omega] at this
  have hw := well_is (rfl : wellV win lose top has = wellV win lose top has)
  rw [hv] at hw
  generalize (wellV win lose top has).1 = X at *
  obtain ⟨a, b⟩ := X
  have HW := Lib.hid hw
  have HRW := Lib.hid hr
  clear hw hr hv
  unfold wbad at hb
  obtain ⟨b0, b1, b2, b3, b4, b5, b6, b7⟩ : ¬ win < 1 ∧ ¬ 9 < win ∧ ¬ lose < 1 ∧ ¬ 9 < lose ∧ ¬ top < 1 ∧ ¬ 16 < top ∧ ¬ has < 0 ∧ ¬ top < has := by omega
  clear hb hn
  go_enter Try.func3, Try.ntmps3
  go_wp2_with fail
  refine (HW.out _).mono ?_
  rintro e w1 ⟨rfl, hb⟩
  have HB1 := Lib.hid hb
  have HK1 := Lib.hid (Blk.new w1 tF (fcs 0 0))
  clear hb
  go_wp2_with (first | (refine wpList_store_blk rfl _ _ _ rfl w1.heap.size (fcs _ _) rfl rfl tF (fcs 0 0) HK1.out (by kernel_rfl) rfl (fcs_one _ _) ?_; intro w2 hb2 hg2 hs2; have c0 := hb2.cell 0 (u := .int .i64 a) rfl; have c1 := hb2.cell 1 (u := .int .i64 b) rfl; have HG2 := Lib.hid hg2; clear hs2 hb2 hg2) | fail)
  refine (HR.out _).mono ?_
  rintro e w3 ⟨rfl, rfl⟩
  go_wp2_with fail
  refine (HR.out _).mono ?_
  rintro e w4 ⟨rfl, rfl⟩
  have lt0 := block_lt c0
  have lt1 := block_lt c1
  have H4 : Hid (Below w.heap.size w w4) := (rb_alloc HB1.out _).grown HG2.out (by simp; exact Nat.le_succ_of_le HB1.out.size) (fun k hk => by injection hk with hk; have := HB1.out.size; omega)
  have HKEEP : Hid (∀ w', Below w4.heap.size w4 w' → w'.cell? ⟨w1.heap.size, 0, none⟩ = some (.int .i64 a) ∧ w'.cell? ⟨w1.heap.size, 1, none⟩ = some (.int .i64 b) ∧ Below w4.heap.size w4 w') := fun w' h => ⟨(h.cell lt0).trans c0, (h.cell lt1).trans c1, h⟩
  have HD : Hid (Below w4.heap.size w4 w4.drew) := rb_drew (Below.refl _ _)
  clear lt0 lt1
  go_wp2_with fail
  go_region_held3 (fun w' => w'.cell? ⟨w1.heap.size, 0, none⟩ = some (.int .i64 a) ∧ w'.cell? ⟨w1.heap.size, 1, none⟩ = some (.int .i64 b) ∧ Below w4.heap.size w4 w')
    (first
      | exact HKEEP.out _ HD.out
      | (go_split_ands; refine HKEEP.out _ ?_; exact HX.out))
    (first
      | (go_at_call 14; go_split_ands; refine (HRW.out _).mono ?_; rintro e u1 ⟨rfl, hp⟩; have HX := Lib.hid (rb_go HD.out hp); clear hp))
  --LOOK2
  all_goals go_wp2_with fail
  all_goals go_ret
  all_goals exact ⟨rfl, H4.out.trans (HX.out.mono H4.out.size)⟩
theorem RuinWell_walk (a0 a1 a2 a3 : Int) (w : World) (_w0 : (Lit.int .i64 a0).wf = true) (_w1 : (Lit.int .i64 a1).wf = true) (_w2 : (Lit.int .i64 a2).wf = true) (_w3 : (Lit.int .i64 a3).wf = true) :
    Calls Try.prog 3 #[.int .i64 a0, .int .i64 a1, .int .i64 a2, .int .i64 a3] w fun e w' => e = .returned (.bool true) ∧ Below w.heap.size w w' := by
  by_cases hb : wbad a0 a1 a2
  · exact law_bad a0 a1 a2 a3 w hb
  · by_cases hn : a3 < 0 ∨ a2 < a3
    · exact law_none a0 a1 a2 a3 w hb hn
    · exact law_ok a0 a1 a2 a3 w hb hn
end Go.Proofs.Ytaehehoeidnidaa
