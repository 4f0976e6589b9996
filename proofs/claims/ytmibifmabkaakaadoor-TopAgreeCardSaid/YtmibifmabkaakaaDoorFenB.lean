/- Sums by a tree: what may be, the tree made, walked. No condition. -/
import Derived.Test.YtmibifmabkaakaaDoorFenW
namespace Go.Proofs.YtmibifmabkaakaaDoor
open Go.ChangeShapes Go.WideShapes Go.ChangeAt Go.RowKit
set_option linter.unusedVariables false

set_option maxRecDepth 20000 in
set_option maxHeartbeats 2000000 in
theorem fwrong_any (l : List Int) (A : Option Addr) (c : Nat) (w : World) (hs : Seg w w.heap.size A (l.map (.int .i64))) (hm : l.length ≤ 9223372036854775807) :
    Calls Tryd.prog 66 #[.slice A l.length c] w fun e w' => e = .returned (.bool (!wokB l)) ∧ w = w' := by
  have HS := Lib.hid hs
  clear hs
  by_cases hl : 400 < l.length
  · have HP : Hid (wokB l = false) := by unfold Hid wokB; rw [decide_eq_false (by omega)]; rfl
    have i1 : (400 : Int) < (l.length : Int) := by omega
    go_enter Tryd.func66, Tryd.ntmps66
    go_wp2_with fail
    go_ret
    exact ⟨by rw [HP.out]; rfl, rfl⟩
  · have HP : Hid (wokB l = wokc l l.length) := by unfold Hid wokB; rw [decide_eq_true (by omega)]; rfl
    have i1 : ¬ (400 : Int) < (l.length : Int) := by omega
    go_enter Tryd.func66, Tryd.ntmps66
    go_wp2_with fail
    go_loop [10] (fun s10 => ∃ j : Nat, j ≤ l.length ∧ s10 = .int .i64 j ∧ Hid (wokc l j = true)) (fun s10 => l.length - (intOf s10).toNat)
    case atStart => exact ⟨0, Nat.zero_le _, rfl, rfl⟩
    case round =>
      obtain ⟨j, hj, rfl, hok⟩ := hrel
      by_cases hlt : j < l.length
      · have i2 : (j : Int) < (l.length : Int) := by omega
        obtain ⟨ad, rfl, _, hcell⟩ := HS.out.pat hlt
        have HST : Hid (wokc l (j + 1) = (wokc l j && (decide (0 ≤ pat l j) && decide (pat l j ≤ 1073741824)))) := rfl
        have HNO : Hid (wokc l (j + 1) = false → wokc l l.length = false) := fun h => wokc_no hlt h
        generalize pat l j = x at *
        by_cases h1 : x < 0
        · have HF : Hid (wokc l l.length = false) := HNO.out (by rw [HST.out, hok.out, decide_eq_false (show ¬ 0 ≤ x by omega)]; rfl)
          go_wp2_with fail
          go_ret
          exact ⟨by rw [HP.out, HF.out]; rfl, rfl⟩
        · by_cases h2 : 1073741824 < x
          · have HF : Hid (wokc l l.length = false) := HNO.out (by rw [HST.out, hok.out, decide_eq_false (show ¬ x ≤ 1073741824 by omega)]; simp)
            go_wp2_with fail
            go_ret
            exact ⟨by rw [HP.out, HF.out]; rfl, rfl⟩
          · have HT : Hid (wokc l (j + 1) = true) := by unfold Hid; rw [HST.out, hok.out, decide_eq_true (show 0 ≤ x by omega), decide_eq_true (show x ≤ 1073741824 by omega)]; rfl
            go_wp2_with fail
            go_round
            case rel => exact ⟨j + 1, by omega, by go_num, HT⟩
            case measure => simp [intOf]; omega
      · have i2 : ¬ (j : Int) < (l.length : Int) := by omega
        have HJ : Hid (j = l.length) := by unfold Hid; omega
        go_wp2_with fail
        go_ret
        exact ⟨by rw [HP.out, ← HJ.out, hok.out]; rfl, rfl⟩
theorem preUp_tree {l : List Int} {T : Nat → Int} (h : Tree (preUp l l.length) T l.length) : Tree (pre l) T l.length := by
  have e : ∀ i, i ≤ l.length → preUp l l.length i = pre l i := fun i hi => by unfold preUp; rw [show min i l.length = i by omega]
  obtain ⟨h0, h1, h2⟩ := h
  refine ⟨rfl, fun i hi hn => ?_, fun i hi => ?_⟩
  · rw [h1 i hi hn, e i hn, e (i - lb i) (by omega)]
  · have := h2 i hi; rw [e i hi] at this; exact this
theorem preUp_bd {l : List Int} (h : wokB l = true) {j : Nat} (hj : j ≤ l.length) (i : Nat) : 0 ≤ preUp l j i ∧ preUp l j i ≤ 429496729600 := pre_le h (by omega)
/-- What build leaves. -/
def BuildOut (l : List Int) (w w' : World) (e : Ending) : Prop :=
  e = .returned (.slice (some ⟨w.heap.size, 0, none⟩) (l.length + 1) (l.length + 1)) ∧ (∃ T, Tree (pre l) T l.length ∧ w'.rowIs w.heap.size 3 (l.length + 1) (fun i => .int .i64 (T i))) ∧ Below w.heap.size w w'
set_option maxRecDepth 20000 in
set_option maxHeartbeats 2000000 in
theorem build_any (l : List Int) (A : Option Addr) (c : Nat) (w : World) (hs : Seg w w.heap.size A (l.map (.int .i64))) (hok : wokB l = true) :
    Calls Tryd.prog 67 #[.slice A l.length c] w fun e w' => BuildOut l w w' e := by
  have HS := Lib.hid hs
  have hl := (wok_at hok).1
  have HW := Lib.hid (wok_at hok).2
  have HPB : Hid (∀ j, j ≤ l.length → ∀ i, 0 ≤ preUp l j i ∧ preUp l j i ≤ 429496729600) := fun j hj i => preUp_bd hok hj i
  obtain ⟨M, hM⟩ : ∃ M, l.length + 1 = M := ⟨_, rfl⟩
  have i0 : (l.length : Int) + 1 = (M : Int) := by omega
  have hmk := run_make_row' (P := Tryd.prog) 106 3 (.int .i64 0) 8 Tryd.underlying106 (by kernel_rfl) rfl .i64 .i64 M (by omega) (by omega)
  have HADD : Hid (∀ (S T : Nat → Int) (k : Nat) (b : Int) (u : World), k < l.length → -1073741824 ≤ b → b ≤ 1073741824 → u.rowIs w.heap.size 3 M (fun i => .int .i64 (T i)) → Tree S T l.length → (∀ i, i ≤ l.length → 0 ≤ addS S k b i ∧ addS S k b i ≤ 429496729600) →
      Calls Tryd.prog 89 #[.slice (some ⟨w.heap.size, 0, none⟩) M M, .int .i64 k, .int .i64 b] u fun e w' => e = .returned (.tuple #[]) ∧ (∃ T', Tree (addS S k b) T' l.length ∧ w'.rowIs w.heap.size 3 M (fun i => .int .i64 (T' i))) ∧ u.grownBy w' (some w.heap.size)) := by
    intro S T k b u h1 h2 h3 h4 h5 h6
    rw [← hM] at h4 ⊢
    exact tadd_any S T l.length k w.heap.size b u hl h1 h2 h3 h4 h5 h6
  unfold BuildOut
  rw [hM]
  have HM := Lib.hid hM
  clear hs hok hM
  go_enter Tryd.func67, Tryd.ntmps67
  go_wp2_with fail
  clear hmk i0
  go_loopw [12] (fun s12 wr => ∃ j : Nat, j ≤ l.length ∧ s12 = .int .i64 j ∧ (∃ T, Tree (preUp l j) T l.length ∧ wr.rowIs w.heap.size 3 M (fun i => .int .i64 (T i))) ∧ Below w.heap.size w wr) (fun s12 _ => l.length - (intOf s12).toNat)
  case atStart => exact ⟨0, Nat.zero_le _, rfl, ⟨fun _ => 0, ⟨rfl, fun i _ _ => by simp [preUp, pre], fun i _ => by simp [preUp, pre]⟩, World.rowIs_made w (.int .i64 0) M 3⟩, (Below.refl _ _).alloc (Nat.le_refl _) _⟩
  case round =>
    obtain ⟨j, hj, rfl, ⟨T, htr, hrow⟩, hbel⟩ := hrel
    have HT := Lib.hid htr
    have HR := Lib.hid hrow
    have HB := Lib.hid hbel
    clear htr hrow hbel
    by_cases hlt : j < l.length
    · have i2 : (j : Int) < (l.length : Int) := by omega
      obtain ⟨ad, rfl, _, hcell⟩ := (HS.out.below HB.out).pat hlt
      have hx := HW.out j hlt
      have hstp := preUp_step l j
      have HA := Lib.hid (HADD.out (preUp l j) T j (pat l j) wr hlt (by omega) (by omega) HR.out HT.out (by rw [hstp]; exact fun i _ => HPB.out (j + 1) hlt i))
      rw [hstp] at HA
      clear hstp hx
      generalize pat l j = x at *
      go_wp2_with fail
      refine HA.out.mono ?_
      rintro e w2 ⟨rfl, ⟨T', ht', hr'⟩, hg'⟩
      have HT2 := Lib.hid ht'
      have HR2 := Lib.hid hr'
      have HB2 : Hid (Below w.heap.size w w2) := HB.out.grown hg' HB.out.size (fun q hq => by injection hq with hq; omega)
      clear ht' hr' hg'
      go_wp2_with fail
      go_roundw
      case rel => exact ⟨j + 1, by omega, by go_num, ⟨T', HT2.out, HR2.out⟩, HB2.out⟩
      case measure => simp [intOf]; omega
    · have i2 : ¬ (j : Int) < (l.length : Int) := by omega
      have HJ : Hid (j = l.length) := by unfold Hid; omega
      go_wp2_with fail
      go_ret
      have h := HT.out
      rw [HJ.out] at h
      exact ⟨rfl, ⟨T, preUp_tree h, HR.out⟩, HB.out⟩
end Go.Proofs.YtmibifmabkaakaaDoor
