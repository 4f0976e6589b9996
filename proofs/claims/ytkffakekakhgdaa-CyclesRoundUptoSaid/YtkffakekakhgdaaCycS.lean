/- The law's sameRounds: two slices of the same rows are told the same. No condition but the size. -/
import Derived.Test.YtkffakekakhgdaaCycH
import Derived.Test.YtkffakekakhgdaaSeqE
namespace Go.Proofs.Ytkffakekakhgdaa
open Go.ChangeShapes Go.WideShapes Go.ChangeAt Go.RowKit
set_option linter.unusedVariables false

set_option maxRecDepth 20000 in
set_option maxHeartbeats 4000000 in
theorem srow_any (l : List Int) (A C : Option Addr) (c d : Nat) (w : World) (h1 : Seg w w.heap.size A (l.map (.int .i64))) (h2 : Seg w w.heap.size C (l.map (.int .i64))) (hl : l.length ≤ 9223372036854775807) :
    Calls Try.prog 64 #[.slice A l.length c, .slice C l.length d] w fun e w' => e = .returned (.bool true) ∧ ∃ n, w' = w.drewN n := by
  have HE := Lib.hid (eq_same l A C c d w h1 h2 hl)
  clear h1 h2 hl
  go_enter Try.func64, Try.ntmps64
  go_wp2_with fail
  refine HE.out.mono ?_
  rintro e w1 ⟨rfl, n, rfl⟩
  go_wp2_with fail
  go_ret
  exact ⟨rfl, n, rfl⟩
set_option maxRecDepth 20000 in
set_option maxHeartbeats 4000000 in
theorem eqrows_any (R : List (List Int)) (A C : Option Addr) (c d : Nat) (w : World) (h1 : RowsR w w.heap.size A R) (h2 : RowsR w w.heap.size C R) (hm : R.length ≤ 1000000000) (hr : ∀ r ∈ R, r.length ≤ 1000000000) :
    Calls Try.prog 63 #[.slice A R.length c, .slice C R.length d, .func (.func 64) #[] #[]] w fun e w' => e = .returned (.bool true) ∧ Below w.heap.size w w' := by
  have H1 := Lib.hid h1
  have H2 := Lib.hid h2
  have HR := Lib.hid hr
  have b0 : ((R.length : Int) != (R.length : Int)) = false := by simp
  have HM : Hid (R.length ≤ 1000000000) := hm
  obtain ⟨M, hM⟩ : ∃ M, M = R.length := ⟨_, rfl⟩
  have HMR := Lib.hid hM
  rw [← hM] at HM b0 ⊢
  clear h1 h2 hm hr hM
  go_enter Try.func63, Try.ntmps63
  go_wp2_with fail
  go_loopw [17] (fun s17 wx => ∃ k : Nat, k ≤ M ∧ s17 = .int .i64 k ∧ Hid (Below w.heap.size w wx)) (fun s17 _ => M - (intOf s17).toNat)
  case atStart => exact ⟨0, Nat.zero_le _, rfl, Below.refl _ _⟩
  case round =>
    obtain ⟨k, hk, rfl, HBB⟩ := hrel
    by_cases hlt : k < M
    · have i1 : (k : Int) < (M : Int) := by omega
      have hkR : k < R.length := by rw [← HMR.out]; exact hlt
      obtain ⟨ad, A1, c1, rfl, _, hc1, hs1⟩ := (H1.out.on HBB.out) k hkR
      obtain ⟨cd, A2, c2, rfl, _, hc2, hs2⟩ := (H2.out.on HBB.out) k hkR
      have hrl := HR.out _ (List.getElem_mem hkR)
      have HC := Lib.hid (srow_any R[k] A1 A2 c1 c2 wr hs1 hs2 (by omega))
      generalize (R[k]).length = N at *
      have uk : Hid (wrap64 ((k : Int) + 1) = ((k + 1 : Nat) : Int)) := by have := HM.out; unfold Hid wrap64; omega
      have HK := Lib.hid hlt
      clear hs1 hs2 hrl hkR hlt hk
      go_wp2_with (first
        | (go_at_call 64; refine HC.out.mono ?_; rintro e w' ⟨rfl, n, rfl⟩)
        | fail)
      go_roundw
      case rel => exact ⟨k + 1, HK.out, by first | rfl | rw [uk.out], below_drewN HBB.out _⟩
      case measure => (try rw [uk.out]); have := HK.out; simp [intOf]; omega
    · have hke : k = M := by omega
      have i1 : ¬ (k : Int) < (M : Int) := by omega
      clear hk hlt hke b0
      go_wp2_with fail
      go_ret
      exact ⟨rfl, HBB.out⟩
set_option maxRecDepth 20000 in
set_option maxHeartbeats 4000000 in
theorem same_any (R : List (List Int)) (A C : Option Addr) (c d : Nat) (w : World) (h1 : RowsR w w.heap.size A R) (h2 : RowsR w w.heap.size C R) (hm : R.length ≤ 1000000000) (hr : ∀ r ∈ R, r.length ≤ 1000000000) :
    Calls Try.prog 32 #[.slice A R.length c, .slice C R.length d] w fun e w' => e = .returned (.bool true) ∧ Below w.heap.size w w' := by
  have HE := Lib.hid (eqrows_any R A C c d w h1 h2 hm hr)
  clear h1 h2 hm hr
  go_enter Try.func32, Try.ntmps32
  go_wp2_with fail
  refine HE.out.mono ?_
  rintro e w1 ⟨rfl, hb⟩
  have HB := Lib.hid hb
  clear hb
  go_wp2_with fail
  go_ret
  exact ⟨rfl, HB.out⟩
end Go.Proofs.Ytkffakekakhgdaa
