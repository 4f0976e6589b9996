/- Drawing one number behind the other, by the reference, walked. No condition. -/
import Derived.Test.YtmcbkjepjijfjaaTapD
namespace Go.Proofs.Ytmcbkjepjijfjaa
open Go.ChangeShapes Go.WideShapes Go.ChangeAt Go.RowKit
set_option linter.unusedVariables false

set_option maxRecDepth 20000 in
set_option maxHeartbeats 4000000 in
theorem bmany_any (t : List Bool) (l : List Int) (A C : Option Addr) (c d : Nat) (w : World) (hs : Seg w w.heap.size A (t.map .bool)) (hl : Seg w w.heap.size C (l.map (.int .i64))) (hc : t.length ≤ c) (hm : (t.length : Int) ≤ 9223372036854775000) (hml : l.length < 17592186044416) (R : List Int × Int × Int) (hR : Hid (pmany t l 0 [] = R)) :
    Calls Try.prog 34 #[.slice A t.length c, .slice C l.length d] w fun e w' => ManyOut w w' e R := by
  have HS := Lib.hid hs
  have HL := Lib.hid hl
  clear hs hl
  go_enter Try.func34, Try.ntmps34
  go_wp2_with fail
  go_loopw [7, 8, 17] (fun s7 s8 s17 wr => ∃ (j U m' c' : Nat) (A' : Option Addr) (out : List Int), j ≤ l.length ∧ s17 = .int .i64 j ∧ U + m' = t.length ∧ s8 = .slice A' m' c' ∧ m' ≤ c' ∧ Seg wr w.heap.size A' ((t.drop U).map .bool) ∧ out.length ≤ j ∧ Own wr w.heap.size 3 s7 (out.map (.int .i64)) ∧ Hid (pmany t (l.drop j) U out = R) ∧ Below w.heap.size w wr) (fun _ _ s17 _ => l.length - (intOf s17).toNat)
  case atStart => exact ⟨0, 0, t.length, c, A, [], Nat.zero_le _, rfl, Nat.zero_add _, rfl, hc, HS.out, Nat.zero_le _, Own.none_, hR, Below.refl _ _⟩
  case round =>
    obtain ⟨j, U, m', c', A', out, hj, rfl, hU, rfl, hmc, hsg, hol, hown, hp, hbel⟩ := hrel
    have HOW := Lib.hid hown
    have HB := Lib.hid hbel
    have HSZ := Lib.hid hbel.size
    have HSU := Lib.hid hsg
    clear hown hbel hsg
    by_cases hlt : j < l.length
    · have i1 : (j : Int) < (l.length : Int) := by omega
      obtain ⟨ad2, rfl, _, hcell⟩ := (HL.out.below HB.out).int hlt
      have hq := pmany_cons t l j U out hlt
      have hub := pbelow_used (t.drop U) l[j]
      have HLEN : Hid ((t.drop U).length = m') := by unfold Hid; rw [List.length_drop]; omega
      have hbw := bbelow_any (t.drop U) A' c' _ l[j] wr HSU.out (by rw [HLEN.out]; omega)
      rw [HLEN.out] at hub hbw
      have HQ : Hid (R = _) := hp.out.symm.trans hq
      clear hq hp
      obtain ⟨⟨x, u, e⟩, hr⟩ : ∃ r, r = pbelow (t.drop U) l[j] := ⟨_, rfl⟩
      rw [← hr] at HQ hbw hub
      clear hr
      have HBW := Lib.hid hbw
      clear hbw
      generalize l[j] = m at *
      obtain ⟨V, rfl⟩ : ∃ V : Nat, u = V := ⟨u.toNat, by have := hub.1; simp at this; omega⟩
      have hVU : V ≤ m' := by have := hub.2; simp at this; omega
      clear hub
      have HQE : Hid (e ≠ 0 → R = ([], 0, e)) := fun h => by rw [HQ.out, if_pos h]
      have HQO : Hid (e = 0 → pmany t (l.drop (j + 1)) (U + V) (out ++ [x]) = R) := fun h => by rw [HQ.out, if_neg (fun h2 => h2 h)]; rfl
      clear HQ
      go_wp2_with fail
      refine HBW.out.mono ?_
      rintro r w' ⟨rfl, rfl⟩
      by_cases he : e = 0
      · subst he
        have HR := Lib.hid (HQO.out rfl)
        have i2 : (V : Int) ≤ (m' : Int) := by omega
        have i3 : (V : Int) ≤ (c' : Int) := by omega
        go_wp2_with fail
        cases A' with
        | none =>
          have hm0 : m' = 0 := by
            rcases Nat.eq_zero_or_pos m' with h | h
            · exact h
            · obtain ⟨_, h2, _⟩ := HSU.out.bool (show 0 < (t.drop U).length by rw [HLEN.out]; exact h)
              cases h2
          have HM0 := Lib.hid hm0
          clear hm0
          refine wp_region_plan [(0, 0), (1, 0), (4, 0), (5, 0), (6, 0), (2, 2), (3, 2), (7, 0), (8, 0)] (fun _ => True) (by kernel_rfl) (by kernel_rfl) (fun _ d _ _ _ h => by cases d <;> exact h) trivial ?_
          iterate 5 ((refine plan0 (v := ?_) rfl rfl (by rfl) ?_ ?_); rotate_left; (intro w'; go_simp; with_reducible rfl); simp only [List.setIfInBounds_toArray, List.set_cons_zero, List.set_cons_succ])
          refine plan2 rfl rfl fun K' hK' => ?_
          go_simp
          refine hK' _ _ trivial ?_
          clear hK' K'
          refine plan2 rfl rfl fun K' hK' => ?_
          refine wp_push _ _ _ 22 3 8 elem_ints rfl w.heap.size _ (out.map (.int .i64)) rfl (Own.alloc' (w := wr.drew) HOW.out _) (.int .i64 x) ⟨wr.heap.size, 0, none⟩ 1 rfl (cell_new1 _ _ _) rfl (by rw [List.length_map]; omega) (by rw [List.length_map]; unfold maxLen; omega) (by simp; exact Nat.le_succ_of_le HSZ.out) ?_
          intro v3 w3 hown3 hbel3
          have HO3 := Lib.hid hown3
          have HB4 := Lib.hid hbel3
          have HB3 : Hid (Below w.heap.size w w3) := ((Below.drew HB.out).alloc HSZ.out _).trans hbel3
          refine hK' _ _ trivial ?_
          clear hK' K' hown3 hbel3
          iterate 2 ((refine plan0 (v := ?_) rfl rfl (by rfl) ?_ ?_); rotate_left; (intro w'; go_simp; with_reducible rfl))
          refine planEnd ?_
          go_wp2_with fail
          go_roundw
          case rel =>
            refine ⟨j + 1, U + V, m' - V, _, _, out ++ [x], by omega, by go_num, by omega, rfl, by omega, by rw [← List.drop_drop, show (t.drop U).drop V = [] from List.drop_eq_nil_of_le (by rw [HLEN.out, HM0.out]; omega)]; exact Seg.nil, by simp; omega, ?_, HR, HB3.out⟩
            rw [List.map_append]; exact HO3.out
          case measure => simp [intOf]; omega
        | some ad =>
          refine wp_region_plan [(0, 0), (1, 0), (4, 0), (5, 0), (6, 0), (2, 2), (3, 2), (7, 0), (8, 0)] (fun _ => True) (by kernel_rfl) (by kernel_rfl) (fun _ d _ _ _ h => by cases d <;> exact h) trivial ?_
          iterate 5 ((refine plan0 (v := ?_) rfl rfl (by rfl) ?_ ?_); rotate_left; (intro w'; go_simp; with_reducible rfl); simp only [List.setIfInBounds_toArray, List.set_cons_zero, List.set_cons_succ])
          refine plan2 rfl rfl fun K' hK' => ?_
          go_simp
          refine hK' _ _ trivial ?_
          clear hK' K'
          refine plan2 rfl rfl fun K' hK' => ?_
          refine wp_push _ _ _ 22 3 8 elem_ints rfl w.heap.size _ (out.map (.int .i64)) rfl (Own.alloc' (w := wr.drew) HOW.out _) (.int .i64 x) ⟨wr.heap.size, 0, none⟩ 1 rfl (cell_new1 _ _ _) rfl (by rw [List.length_map]; omega) (by rw [List.length_map]; unfold maxLen; omega) (by simp; exact Nat.le_succ_of_le HSZ.out) ?_
          intro v3 w3 hown3 hbel3
          have HO3 := Lib.hid hown3
          have HB4 := Lib.hid hbel3
          have HB3 : Hid (Below w.heap.size w w3) := ((Below.drew HB.out).alloc HSZ.out _).trans hbel3
          refine hK' _ _ trivial ?_
          clear hK' K' hown3 hbel3
          iterate 2 ((refine plan0 (v := ?_) rfl rfl (by rfl) ?_ ?_); rotate_left; (intro w'; go_simp; with_reducible rfl))
          refine planEnd ?_
          go_wp2_with fail
          go_roundw
          case rel =>
            refine ⟨j + 1, U + V, m' - V, _, _, out ++ [x], by omega, by go_num, by omega, rfl, by omega, by rw [← List.drop_drop]; exact (((seg_drop (u := V) HSU.out (by rw [HLEN.out]; exact hmc)).drew).alloc HSZ.out _).below HB4.out, by simp; omega, ?_, HR, HB3.out⟩
            rw [List.map_append]; exact HO3.out
          case measure => simp [intOf]; omega
      · have HR := Lib.hid (HQE.out he)
        have d1 : (e != 0) = true := by simpa using he
        clear he
        go_wp2_with fail
        refine bodyPost_ret (v := .tuple #[.slice none 0 0, .int .i64 0, .int .i64 e]) (by simp [results, Try.results34, go_sem]) rfl ⟨none, 0, by rw [HR.out]; rfl, by rw [HR.out]; exact Seg.nil, HB.out⟩
    · have i1 : ¬ (j : Int) < (l.length : Int) := by omega
      have HE : Hid (R = (out, (U : Int), 0)) := by
        unfold Hid
        rw [← hp.out, List.drop_eq_nil_of_le (by omega)]; rfl
      obtain ⟨A3, c3, rfl, hc3, hsg⟩ := HOW.out.res
      have HSG := Lib.hid hsg
      clear hsg hc3
      have i2 : (t.length : Int) - (m' : Int) = (U : Int) := by omega
      rw [List.length_map]
      go_wp2_with fail
      refine bodyPost_ret (v := .tuple #[.slice A3 out.length c3, .int .i64 U, .int .i64 0]) (by simp [results, Try.results34, go_sem]) rfl ⟨A3, c3, by rw [HE.out], by rw [HE.out]; exact HSG.out, HB.out⟩
end Go.Proofs.Ytmcbkjepjijfjaa
