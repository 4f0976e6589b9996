/- Orders: whether a list is one, walked twice. No condition. -/
import Derived.Test.YtkffakekakhgdaaPerM
import Derived.BigQuiet
import Derived.IntWalk
namespace Go.Proofs.Ytkffakekakhgdaa
open Go.ChangeShapes Go.WideShapes Go.ChangeAt Go.RowKit
set_option linter.unusedVariables false

set_option maxRecDepth 20000 in
set_option maxHeartbeats 4000000 in
theorem pright_any (p : List Int) (A : Option Addr) (c : Nat) (w : World) (hs : Seg w w.heap.size A (p.map (.int .i64))) (hm : p.length ≤ 9223372036854775807) :
    Calls Try.prog 56 #[.slice A p.length c] w fun e w' => e = .returned (.bool (permB p)) ∧ Below w.heap.size w w' := by
  have HS := Lib.hid hs
  clear hs
  by_cases hl : 20 < p.length
  · have HP : Hid (permB p = false) := by unfold Hid permB; rw [decide_eq_false (by omega)]; rfl
    have i1 : (20 : Int) < (p.length : Int) := by omega
    go_enter Try.func56, Try.ntmps56
    go_wp2_with fail
    go_ret
    exact ⟨by rw [HP.out]; rfl, Below.refl _ _⟩
  · have HP : Hid (permB p = pokc p p.length) := by unfold Hid permB; rw [decide_eq_true (by omega)]; rfl
    have i1 : ¬ (20 : Int) < (p.length : Int) := by omega
    have hmk := run_make_row' (P := Try.prog) 66 4 (.bool false) 1 Try.underlying66 (by kernel_rfl) rfl .i64 .i64 p.length (by omega) (by omega)
    go_enter Try.func56, Try.ntmps56
    go_wp2_with fail
    clear hmk
    go_loopw [14] (fun s14 wr => ∃ j : Nat, j ≤ p.length ∧ s14 = .int .i64 j ∧ Hid (pokc p j = true) ∧ wr.rowIs w.heap.size 4 p.length (fun x => .bool (decide ((x : Int) ∈ p.take j))) ∧ Below w.heap.size w wr) (fun s14 _ => p.length - (intOf s14).toNat)
    case atStart => exact ⟨0, Nat.zero_le _, rfl, rfl, (World.rowIs_made w (.bool false) p.length 4).congr (fun i hi => by simp), (Below.refl _ _).alloc (Nat.le_refl _) _⟩
    case round =>
      obtain ⟨j, hj, rfl, hok, hrow, hbel⟩ := hrel
      have HR := Lib.hid hrow
      have HB := Lib.hid hbel
      clear hrow hbel
      by_cases hlt : j < p.length
      · have i2 : (j : Int) < (p.length : Int) := by omega
        obtain ⟨ad, rfl, _, hcell⟩ := (HS.out.below HB.out).pat hlt
        have HST : Hid (pokc p (j + 1) = (pokc p j && (decide (0 ≤ pat p j) && decide (pat p j < p.length) && !decide (pat p j ∈ p.take j)))) := rfl
        have HNO : Hid (pokc p (j + 1) = false → pokc p p.length = false) := fun h => by
          rw [Bool.eq_false_iff, Ne, pokc_iff] at h ⊢
          exact fun h2 => h fun k hk => h2 k (by omega)
        have HTK : Hid (p.take (j + 1) = p.take j ++ [pat p j]) := pat_take hlt
        generalize pat p j = x at *
        by_cases h1 : x < 0
        · have HF : Hid (pokc p p.length = false) := HNO.out (by rw [HST.out, hok.out, decide_eq_false (show ¬ 0 ≤ x by omega)]; rfl)
          go_wp2_with fail
          go_ret
          exact ⟨by rw [HP.out, HF.out]; rfl, HB.out⟩
        · by_cases h2 : (p.length : Int) ≤ x
          · have HF : Hid (pokc p p.length = false) := HNO.out (by rw [HST.out, hok.out, decide_eq_false (show ¬ x < p.length by omega)]; simp)
            go_wp2_with fail
            go_ret
            exact ⟨by rw [HP.out, HF.out]; rfl, HB.out⟩
          · obtain ⟨X, rfl⟩ : ∃ X : Nat, x = X := ⟨x.toNat, by omega⟩
            have hX : X < p.length := by omega
            have hc := HR.out.cell hX
            have hf := HR.out.frozen X
            have i3 : (X : Int) < (p.length : Int) := by omega
            by_cases h3 : (X : Int) ∈ p.take j
            · have HF : Hid (pokc p p.length = false) := HNO.out (by rw [HST.out, hok.out, decide_eq_true h3]; simp)
              rw [decide_eq_true h3] at hc
              clear h3
              go_wp2_with fail
              go_ret
              exact ⟨by rw [HP.out, HF.out]; rfl, HB.out⟩
            · have HT : Hid (pokc p (j + 1) = true) := by unfold Hid; rw [HST.out, hok.out, decide_eq_false h3, decide_eq_true (show (0 : Int) ≤ X by omega), decide_eq_true (show (X : Int) < p.length by omega)]; rfl
              rw [decide_eq_false h3] at hc
              clear h3
              go_wp2_with fail
              go_roundw
              case rel =>
                refine ⟨j + 1, by omega, by go_num, HT, (HR.out.set X _).congr (fun i hi => ?_), HB.out.setCell (Nat.le_refl _) _⟩
                by_cases e : i = X
                · subst e; rw [if_pos rfl, HTK.out, decide_eq_true (by simp)]
                · rw [if_neg e, HTK.out]
                  congr 1
                  rw [Bool.eq_iff_iff, decide_eq_true_eq, decide_eq_true_eq]
                  simp
                  omega
              case measure => simp [intOf]; omega
      · have i2 : ¬ (j : Int) < (p.length : Int) := by omega
        have HJ : Hid (j = p.length) := by unfold Hid; omega
        go_wp2_with fail
        go_ret
        exact ⟨by rw [HP.out, ← HJ.out, hok.out]; rfl, HB.out⟩
end Go.Proofs.Ytkffakekakhgdaa
