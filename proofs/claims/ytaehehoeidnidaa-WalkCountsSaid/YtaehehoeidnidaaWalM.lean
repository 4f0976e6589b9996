/- The law WalkCounts: the closures that say what may be. No condition. -/
import Derived.Test.YtaehehoeidnidaaWalK
namespace Go.Proofs.Ytaehehoeidnidaa
open Go.ChangeShapes Go.WideShapes Go.ChangeAt Go.RowKit Go.Maps
set_option linter.unusedVariables false

theorem ent_2 : ∀ args w, (callFunc 21 args).run Try.prog w = .ok (.enter 21 args) w := by
  intro args w; go_simp
theorem ent_4_1 : ∀ args w, (callFunc 26 args).run Try.prog w = .ok (.enter 26 args) w := by
  intro args w; go_simp
theorem ent_5_1 : ∀ args w, (callFunc 28 args).run Try.prog w = .ok (.enter 28 args) w := by
  intro args w; go_simp
theorem ent_6_1 : ∀ args w, (callFunc 30 args).run Try.prog w = .ok (.enter 30 args) w := by
  intro args w; go_simp
theorem ent_7_1 : ∀ args w, (callFunc 32 args).run Try.prog w = .ok (.enter 32 args) w := by
  intro args w; go_simp
set_option maxRecDepth 20000 in
theorem may_all (s : Nat) (h : Int) (w : World) : Calls Try.prog 21 (#[.int .i64 s, .int .i64 h] ++ #[]) w fun e w2 => e = .returned (.bool (mAll s h)) ∧ w = w2 := by
  change Calls _ _ #[.int .i64 s, .int .i64 h] _ _
  go_enter Try.func21, Try.ntmps21
  go_wp2_with fail
  go_ret
  exact ⟨rfl, rfl⟩
set_option maxRecDepth 20000 in
theorem may_pos (s : Nat) (h : Int) (w : World) : Calls Try.prog 26 (#[.int .i64 s, .int .i64 h] ++ #[]) w fun e w2 => e = .returned (.bool (mPos s h)) ∧ w = w2 := by
  change Calls _ _ #[.int .i64 s, .int .i64 h] _ _
  go_enter Try.func26, Try.ntmps26
  go_wp2_with fail
  go_ret
  exact ⟨rfl, rfl⟩
set_option maxRecDepth 20000 in
theorem may_nn (s : Nat) (h : Int) (w : World) : Calls Try.prog 32 (#[.int .i64 s, .int .i64 h] ++ #[]) w fun e w2 => e = .returned (.bool (mNn s h)) ∧ w = w2 := by
  change Calls _ _ #[.int .i64 s, .int .i64 h] _ _
  go_enter Try.func32, Try.ntmps32
  go_wp2_with fail
  go_ret
  exact ⟨rfl, rfl⟩
set_option maxRecDepth 20000 in
theorem may_in (B : Nat) (T : Int) (s : Nat) (h : Int) (w : World) (hc : w.cell? ⟨B, 0, none⟩ = some (.int .i64 T)) : Calls Try.prog 28 (#[.int .i64 s, .int .i64 h] ++ #[.pointer (some ⟨B, 0, none⟩)]) w fun e w2 => e = .returned (.bool (mIn T s h)) ∧ w = w2 := by
  change Calls _ _ #[.int .i64 s, .int .i64 h, .pointer (some ⟨B, 0, none⟩)] _ _
  by_cases g : 0 < h
  · have HV : Hid (mIn T s h = decide (h < T)) := by unfold Hid mIn; rw [decide_eq_true g]; rfl
    have b1 : decide (0 < h) = true := decide_eq_true g
    clear g
    go_enter Try.func28, Try.ntmps28
    go_wp2_with fail
    go_ret
    exact ⟨by rw [HV.out]; rfl, rfl⟩
  · have HV : Hid (mIn T s h = false) := by unfold Hid mIn; rw [decide_eq_false g]; rfl
    have b1 : decide (0 < h) = false := decide_eq_false g
    clear g
    go_enter Try.func28, Try.ntmps28
    go_wp2_with fail
    go_ret
    exact ⟨by rw [HV.out]; rfl, rfl⟩
set_option maxRecDepth 20000 in
theorem may_first (B n : Nat) (s : Nat) (h : Int) (w : World) (hc : w.cell? ⟨B, 0, none⟩ = some (.int .i64 n)) : Calls Try.prog 30 (#[.int .i64 s, .int .i64 h] ++ #[.pointer (some ⟨B, 0, none⟩)]) w fun e w2 => e = .returned (.bool (mFirst n s h)) ∧ w = w2 := by
  change Calls _ _ #[.int .i64 s, .int .i64 h, .pointer (some ⟨B, 0, none⟩)] _ _
  by_cases g : h = 0
  · by_cases g2 : s = 0
    · subst g; subst g2
      have HV : Hid (mFirst n 0 0 = true) := by unfold Hid mFirst; simp
      go_enter Try.func30, Try.ntmps30
      go_wp2_with fail
      go_ret
      exact ⟨by rw [HV.out]; rfl, rfl⟩
    · subst g
      by_cases g3 : s = n
      · have HV : Hid (mFirst n s 0 = true) := by unfold Hid mFirst; simp [g3]
        have b2 : ((s : Int) == 0) = false := by simp; omega
        have b3 : ((s : Int) == (n : Int)) = true := by simp; omega
        have b4 : (s == 0) = false := by simp; omega
        have b5 : (s == n) = true := by simp; omega
        clear g2 g3
        go_enter Try.func30, Try.ntmps30
        go_wp2_with fail
        go_ret
        exact ⟨by rw [HV.out]; rfl, rfl⟩
      · have HV : Hid (mFirst n s 0 = false) := by unfold Hid mFirst; simp [g2, g3]
        have b2 : ((s : Int) == 0) = false := by simp; omega
        have b3 : ((s : Int) == (n : Int)) = false := by simp; omega
        have b4 : (s == 0) = false := by simp; omega
        have b5 : (s == n) = false := by simp; omega
        clear g2 g3
        go_enter Try.func30, Try.ntmps30
        go_wp2_with fail
        go_ret
        exact ⟨by rw [HV.out]; rfl, rfl⟩
  · have HV : Hid (mFirst n s h = true) := by unfold Hid mFirst; simp [g]
    have b1 : (h != 0) = true := by simpa using g
    clear g
    go_enter Try.func30, Try.ntmps30
    go_wp2_with fail
    go_ret
    exact ⟨by rw [HV.out]; rfl, rfl⟩
end Go.Proofs.Ytaehehoeidnidaa
