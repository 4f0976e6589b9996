/- Package quant: Count, walked. No condition but that each is right by itself. -/
import Derived.Test.YtaehehoeidnidaaQuaM
import Derived.Test.YtaehehoeidnidaaHeld
namespace Go.Proofs.Ytaehehoeidnidaa
open Go.ChangeShapes Go.WideShapes Go.ChangeAt Go.RowKit
set_option linter.unusedVariables false

theorem qw64 {x : Int} (h1 : -9223372036854775808 ≤ x) (h2 : x ≤ 9223372036854775807) : wrap64 x = x := by unfold wrap64; omega
theorem qk64 {k : Nat} (h : k < 9223372036854775807) : wrap64 ((k : Int) + 1) = ((k + 1 : Nat) : Int) := by unfold wrap64; omega
set_option maxRecDepth 20000 in
set_option maxHeartbeats 2000000 in
theorem count_gen (A : Option Addr) (ps : List Rk) (c : Nat) (w : World) (hs : Seg w w.heap.size A (flat3 ps)) (hl : ps.length ≤ 400) (h1 : ∀ k, k ≤ ps.length → 0 ≤ qsum (ps.take k) ∧ qsum (ps.take k) ≤ 439804651110400) :
    Calls Try.prog 90 #[.slice A ps.length c] w fun e w' => e = .returned (.int .i64 (qsum ps)) ∧ Below w.heap.size w w' := by
  have HS := Lib.hid hs
  have HL := Lib.hid hl
  have HQ := Lib.hid h1
  clear hs hl h1
  go_enter Try.func90, Try.ntmps90
  go_wp2_with fail
  go_loopw [3, 8] (fun s4 s8 wx => ∃ (k : Nat), k ≤ ps.length ∧ s4 = .int .i64 (qsum (ps.take k)) ∧ s8 = .int .i64 k ∧ Hid (Below w.heap.size w wx)) (fun _ s8 _ => ps.length - (intOf s8).toNat)
  case atStart => exact ⟨0, Nat.zero_le _, rfl, rfl, Below.refl _ _⟩
  case round =>
    obtain ⟨k, hk, rfl, rfl, hb⟩ := hrel
    by_cases hlt : k < ps.length
    · have i1 : (k : Int) < (ps.length : Int) := by omega
      obtain ⟨ad, rfl, _, c0, c1, c2⟩ := HS.out.trip hlt
      have d0 := (hb.out.cell (block_lt c0)).trans c0
      have d1 := (hb.out.cell (block_lt c1)).trans c1
      have d2 := (hb.out.cell (block_lt c2)).trans c2
      have hv := HQ.out (k + 1) (by omega)
      have hsn := qsum_take hlt
      obtain ⟨V, hV⟩ : ∃ V, V = qsum (ps.take (k + 1)) := ⟨_, rfl⟩
      rw [← hV] at hv hsn
      have g3 : wrap64 V = V := qw64 (by omega) (by omega)
      have g2 : qsum (ps.take k) + (kat ps k).2.1 = V := hsn.symm
      have uk : Hid (wrap64 ((k : Int) + 1) = ((k + 1 : Nat) : Int)) := qk64 (by have := HL.out; omega)
      have HK := Lib.hid (And.intro hk hlt)
      have HV := Lib.hid hV
      clear c0 c1 c2 hv hsn hV hk hlt
      go_wp2_with fail
      go_roundw
      case rel => exact ⟨k + 1, by have := HK.out; omega, by first | rfl | rw [← HV.out, g3] | rw [← HV.out], by first | rfl | rw [uk.out], by first | exact hb.out.alloc hb.out.size _ | trivial⟩
      case measure => (try rw [uk.out]); have := HK.out; simp [intOf]; omega
    · obtain rfl : k = ps.length := by omega
      rw [List.take_length]
      go_wp2_with fail
      go_ret
      exact ⟨rfl, hb.out⟩
theorem count_any (A : Option Addr) (ps : List Rk) (c : Nat) (w : World) (hs : Seg w w.heap.size A (flat3 ps)) (hl : ps.length ≤ 400) (h1 : ∀ k, k < ps.length → Q1 ps k) :
    Calls Try.prog 90 #[.slice A ps.length c] w fun e w' => e = .returned (.int .i64 (qsum ps)) ∧ Below w.heap.size w w' :=
  count_gen A ps c w hs hl fun k hk => by have := qsum_bound h1 k hk; omega
end Go.Proofs.Ytaehehoeidnidaa
