/- What is not chosen, walked. No condition. -/
import Derived.Test.YtmcbkjepjijfjaaComR
import Derived.Test.YtmcbkjepjijfjaaBase2
namespace Go.Proofs.Ytmcbkjepjijfjaa
open Go.ChangeShapes Go.WideShapes Go.ChangeAt Go.RowKit
set_option linter.unusedVariables false

theorem rest_bad (n : Int) (zs : List Int) (A : Option Addr) (c B : Nat) (w : World) (hs : Seg w B A (zs.map (.int .i64))) (hm : zs.length ≤ 9223372036854775807) (hr : eright n zs = false) :
    Calls Try.prog 14 #[.int .i64 n, .slice A zs.length c] w fun e w' => e = .returned (.tuple #[.slice none 0 0, .int .i64 1]) ∧ w = w' := by
  go_enter Try.func14, Try.ntmps14
  go_wp2_with fail
  have h := cright_any n zs A c B w hs hm
  rw [hr] at h
  refine h.mono ?_
  rintro e w' ⟨rfl, rfl⟩
  clear h
  go_wp2_with fail
  go_ret2
  exact ⟨rfl, rfl⟩
/-- Rest's answer. -/
def RestOut (w w' : World) (e : Ending) (l : List Int) : Prop :=
  ∃ A c, e = .returned (.tuple #[.slice A l.length c, .int .i64 0]) ∧ l.length ≤ c ∧ Seg w' w'.heap.size A (l.map (.int .i64)) ∧ Below w.heap.size w w'
theorem seg_tail {w : World} {B cj m : Nat} {ad : Addr} {ys : List Int} (h : Seg w B (some ad) (ys.map (.int .i64))) (hm : ys.length = m) (hc : m ≤ cj) : Seg w B (if cj = 1 then some ad else some { block := ad.block, off := ad.off + 1 }) ((ys.drop 1).map (.int .i64)) := by
  by_cases e : cj = 1
  · have : ys.drop 1 = [] := List.drop_eq_nil_of_le (by omega)
    rw [this]; exact Seg.nil
  · rw [if_neg e, List.map_drop]; exact h.cut 1
set_option maxRecDepth 20000 in
set_option maxHeartbeats 4000000 in
theorem rest_ok (n : Nat) (zs : List Int) (A : Option Addr) (c : Nat) (w : World) (hs : Seg w w.heap.size A (zs.map (.int .i64))) (hm : zs.length ≤ 9223372036854775807) (hc : zs.length ≤ c) (hr : eright n zs = true) (hn : n ≤ 60) :
    Calls Try.prog 14 #[.int .i64 n, .slice A zs.length c] w fun e w' => RestOut w w' e (ro zs n) := by
  have hcr := cright_any n zs A c _ w hs hm
  rw [hr] at hcr
  have HCR := Lib.hid hcr
  have HS := Lib.hid hs
  clear hcr hr hs
  go_enter Try.func14, Try.ntmps14
  go_wp2_with fail
  refine HCR.out.mono ?_
  rintro e w' ⟨rfl, rfl⟩
  go_wp2_with fail
  go_loopw [1, 6, 13] (fun s1 s6 s13 wr => ∃ (x m : Nat) (Aj : Option Addr) (cj : Nat), x ≤ n ∧ s13 = .int .i64 x ∧ rj zs x + m = zs.length ∧ s1 = .slice Aj m cj ∧ m ≤ cj ∧ Seg wr w.heap.size Aj ((zs.drop (rj zs x)).map (.int .i64)) ∧ Own wr w.heap.size 3 s6 ((ro zs x).map (.int .i64)) ∧ Below w.heap.size w wr) (fun _ _ s13 _ => n - (intOf s13).toNat)
  case atStart => exact ⟨0, zs.length, A, c, Nat.zero_le _, rfl, Nat.zero_add _, rfl, hc, HS.out, Own.none_, Below.refl _ _⟩
  case round =>
    obtain ⟨x, m, Aj, cj, hx, rfl, hrm, rfl, hmc, hseg, hown, hbel⟩ := hrel
    have HSG := Lib.hid hseg
    have HOW := Lib.hid hown
    have HB := Lib.hid hbel
    clear hseg hown hbel
    by_cases hlt : x < n
    · have i1 : (x : Int) < (n : Int) := by omega
      have hol := ro_len zs x
      by_cases hm0 : 0 < m
      · have i2 : 0 < (m : Int) := by omega
        obtain ⟨ad, rfl, _, hcell⟩ := HSG.out.int (k := 0) (by simp; omega)
        rw [show ad.add 0 = ad by simp [Addr.add]] at hcell
        have hz : zat zs (rj zs x) = (zs.drop (rj zs x))[0]'(by simp; omega) := by rw [List.getElem_drop, zat_get (by omega)]; rfl
        rw [← hz] at hcell
        by_cases he : zat zs (rj zs x) = x
        · have HR : Hid (rj zs (x + 1) = rj zs x + 1) := if_pos ⟨by omega, he⟩
          have HO : Hid (ro zs (x + 1) = ro zs x) := if_pos ⟨by omega, he⟩
          have b1 : (zat zs (rj zs x) == (x : Int)) = true := by simp [he]
          clear hz he
          have HL : Hid ((zs.drop (rj zs x)).length = m) := by unfold Hid; rw [List.length_drop]; omega
          generalize zat zs (rj zs x) = z at *
          go_wp2_with fail
          go_roundw
          case rel =>
            refine ⟨x + 1, m - 1, _, cj - 1, by omega, by go_num, by rw [HR.out]; omega, rfl, by omega, ?_, by rw [HO.out]; exact HOW.out, HB.out⟩
            rw [HR.out, ← List.drop_drop]
            exact seg_tail HSG.out HL.out hmc
          case measure => simp [intOf]; omega
        · have HR : Hid (rj zs (x + 1) = rj zs x) := if_neg (fun h => he h.2)
          have HO : Hid (ro zs (x + 1) = ro zs x ++ [(x : Int)]) := if_neg (fun h => he h.2)
          have b1 : (zat zs (rj zs x) == (x : Int)) = false := by simpa using he
          have HSZ := Lib.hid HB.out.size
          clear hz he
          generalize zat zs (rj zs x) = z at *
          go_wp2_with (first
            | (at_builtin; go_must (refine wpList_push _ rfl _ _ 22 3 8 elem_ints rfl w.heap.size _ _ rfl (Own.alloc' HOW.out _) (.int .i64 x) ⟨wr.heap.size, 0, none⟩ 1 rfl (cell_new1 _ _ _) rfl (by rw [List.length_map]; omega) (by rw [List.length_map]; unfold maxLen; omega) (by simp; exact Nat.le_succ_of_le HSZ.out) ?_); intro v3 w3 hown3 hbel3; have HO3 := Lib.hid hown3; have HB3 := Lib.hid hbel3; clear hown3 hbel3)
            | fail)
          go_roundw
          case rel =>
            refine ⟨x + 1, m, _, cj, by omega, by go_num, by rw [HR.out]; exact hrm, rfl, hmc, ?_, ?_, ?_⟩
            · rw [HR.out]; exact (HSG.out.alloc HSZ.out _).below HB3.out
            · have h := HO3.out
              rw [HO.out, List.map_append]; exact h
            · exact (HB.out.alloc HSZ.out _).trans HB3.out
          case measure => simp [intOf]; omega
      · have HR : Hid (rj zs (x + 1) = rj zs x) := if_neg (fun h => by omega)
        have HO : Hid (ro zs (x + 1) = ro zs x ++ [(x : Int)]) := if_neg (fun h => by omega)
        have HSZ := Lib.hid HB.out.size
        have i2 : ¬ 0 < (m : Int) := by omega
        go_wp2_with (first
          | (at_builtin; go_must (refine wpList_push _ rfl _ _ 22 3 8 elem_ints rfl w.heap.size _ _ rfl (Own.alloc' HOW.out _) (.int .i64 x) ⟨wr.heap.size, 0, none⟩ 1 rfl (cell_new1 _ _ _) rfl (by rw [List.length_map]; omega) (by rw [List.length_map]; unfold maxLen; omega) (by simp; exact Nat.le_succ_of_le HSZ.out) ?_); intro v3 w3 hown3 hbel3; have HO3 := Lib.hid hown3; have HB3 := Lib.hid hbel3; clear hown3 hbel3)
          | fail)
        go_roundw
        case rel =>
          refine ⟨x + 1, m, _, cj, by omega, by go_num, by rw [HR.out]; exact hrm, rfl, hmc, ?_, ?_, ?_⟩
          · rw [HR.out]; exact (HSG.out.alloc HSZ.out _).below HB3.out
          · have h := HO3.out
            rw [HO.out, List.map_append]; exact h
          · exact (HB.out.alloc HSZ.out _).trans HB3.out
        case measure => simp [intOf]; omega
    · have i1 : ¬ (x : Int) < (n : Int) := by omega
      have hxn : Hid (x = n) := by unfold Hid; omega
      obtain ⟨A2, c2, rfl, hc2, hsg⟩ := HOW.out.res
      have HC2 := Lib.hid hc2
      have HSG2 := Lib.hid hsg
      clear hc2 hsg
      go_wp2_with fail
      go_ret2
      refine ⟨A2, c2, ?_, ?_, ?_, HB.out⟩
      · rw [← hxn.out]; rfl
      · rw [← hxn.out]; have := HC2.out; rwa [List.length_map] at this
      · rw [← hxn.out]; exact HSG2.out
end Go.Proofs.Ytmcbkjepjijfjaa
