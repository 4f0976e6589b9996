/- Package dice and the reference: Right and TRight, walked. No condition but the list's own length. -/
import Derived.Test.YtaehehoeidnidaaDicM
import Derived.IntWalk
namespace Go.Proofs.Ytaehehoeidnidaa
open Go.ChangeShapes Go.WideShapes Go.ChangeAt Go.RowKit
set_option linter.unusedVariables false

theorem dw64 {x : Int} (h1 : -9223372036854775808 ≤ x) (h2 : x ≤ 9223372036854775807) : wrap64 x = x := by unfold wrap64; omega
theorem dk64 {k : Nat} (h : k < 9223372036854775807) : wrap64 ((k : Int) + 1) = ((k + 1 : Nat) : Int) := by unfold wrap64; omega
theorem Seg.dk {w : World} {B : Nat} {A : Option Addr} {l : List Int} (h : Seg w B A (l.map (.int .i64))) {k : Nat} (hk : k < l.length) : ∃ ad, A = some ad ∧ ad.block < B ∧ w.cell? (ad.add k) = some (.int .i64 (Proofs.Ytaehehoeidnidaa.dk l k)) := by
  rw [dk_get hk]; exact h.int hk
set_option maxRecDepth 20000 in
set_option maxHeartbeats 2000000 in
theorem dright_any (A : Option Addr) (l : List Int) (c : Nat) (w : World) (hs : Seg w w.heap.size A (l.map (.int .i64))) (hm : l.length ≤ 9223372036854775807) :
    Calls Try.prog 76 #[.slice A l.length c] w fun e w' => e = .returned (.bool (dokB l)) ∧ w = w' := by
  have HS := Lib.hid hs
  have HM := Lib.hid hm
  clear hs hm
  by_cases h2 : 200 < l.length
  · have HF : Hid (¬ DOk l) := fun q => by have := q.len; omega
    have b1 : decide (200 < (l.length : Int)) = true := decide_eq_true (by omega)
    have b2 : decide (200 < l.length) = true := decide_eq_true h2
    clear h2
    go_enter Try.func76, Try.ntmps76
    go_wp2_with fail
    go_ret
    exact ⟨by rw [dokF HF.out]; rfl, rfl⟩
  have b1 : decide (200 < (l.length : Int)) = false := decide_eq_false (by omega)
  have b2 : decide (200 < l.length) = false := decide_eq_false h2
  have HL : Hid (l.length ≤ 200) := by unfold Hid; omega
  by_cases h0 : 0 < l.length ∧ dk l (l.length - 1) = 0
  · have HF : Hid (¬ DOk l) := fun q => q.last h0.1 h0.2
    obtain ⟨L1, hL1⟩ : ∃ L1, L1 = l.length - 1 := ⟨_, rfl⟩
    obtain ⟨ad, rfl, _, c0⟩ := HS.out.dk (show L1 < l.length by omega)
    have hz := h0.2
    rw [← hL1] at hz
    rw [hz] at c0
    have b3 : decide (0 < (l.length : Int)) = true := decide_eq_true (by omega)
    have b4 : decide (0 < l.length) = true := decide_eq_true h0.1
    have m1 : wrap64 ((l.length : Int) - 1) = (L1 : Int) := by rw [show (l.length : Int) - 1 = (L1 : Int) by omega]; exact dw64 (by omega) (by omega)
    have m2 : IntKind.i64.wrap ((l.length : Int) - 1) = (L1 : Int) := by rw [show (l.length : Int) - 1 = (L1 : Int) by omega]; exact IntWalk.i64_in _ (by omega)
    have i1 : (L1 : Int) < (l.length : Int) := by omega
    clear h0 h2 hL1 hz
    go_enter Try.func76, Try.ntmps76
    go_wp2_with fail
    go_ret
    exact ⟨by rw [dokF HF.out]; rfl, rfl⟩
  have HLast : Hid (0 < l.length → dk l (l.length - 1) ≠ 0) := fun h1 h3 => h0 ⟨h1, h3⟩
  have key : Calls Try.prog 76 #[.slice A l.length c] w fun e w' => e = .returned (.bool (dokB l)) ∧ w = w' := by
    by_cases hp : 0 < l.length
    · obtain ⟨L1, hL1⟩ : ∃ L1, L1 = l.length - 1 := ⟨_, rfl⟩
      obtain ⟨ad, rfl, _, c0⟩ := HS.out.dk (show L1 < l.length by omega)
      have hz := HLast.out hp
      rw [← hL1] at hz
      obtain ⟨z, hzz⟩ : ∃ z, z = dk l L1 := ⟨_, rfl⟩
      rw [← hzz] at c0 hz
      have b5 : (z == 0) = false := by simpa using hz
      have b3 : decide (0 < (l.length : Int)) = true := decide_eq_true (by omega)
      have b4 : decide (0 < l.length) = true := decide_eq_true hp
      have m1 : wrap64 ((l.length : Int) - 1) = (L1 : Int) := by rw [show (l.length : Int) - 1 = (L1 : Int) by omega]; exact dw64 (by omega) (by omega)
      have m2 : IntKind.i64.wrap ((l.length : Int) - 1) = (L1 : Int) := by rw [show (l.length : Int) - 1 = (L1 : Int) by omega]; exact IntWalk.i64_in _ (by omega)
      have i1 : (L1 : Int) < (l.length : Int) := by omega
      clear h0 h2 hL1 hz hzz hp
      go_enter Try.func76, Try.ntmps76
      go_wp2_with fail
      clear b1 b2 b3 b4 b5 m1 m2 i1 c0
      go_loop [24] (fun s24 => ∃ k : Nat, k ≤ l.length ∧ s24 = .int .i64 k ∧ Hid (∀ i, i < k → 0 ≤ dk l i ∧ dk l i ≤ 1048576)) (fun s24 => l.length - (intOf s24).toNat)
      case atStart => exact ⟨0, Nat.zero_le _, rfl, fun i h => absurd h (Nat.not_lt_zero _)⟩
      case round =>
        obtain ⟨k, hk, rfl, hg⟩ := hrel
        by_cases hlt : k < l.length
        · have i1 : (k : Int) < (l.length : Int) := by omega
          obtain ⟨ae, e9, _, c0⟩ := HS.out.dk hlt
          injection e9 with e9
          subst e9
          have HK := Lib.hid (And.intro hk hlt)
          have HQ : Hid (DOk l → 0 ≤ dk l k ∧ dk l k ≤ 1048576) := fun q => q.one k hlt
          obtain ⟨n, hn⟩ : ∃ n, n = dk l k := ⟨_, rfl⟩
          rw [← hn] at c0 HQ
          have HN := Lib.hid hn
          have uk : Hid (wrap64 ((k : Int) + 1) = ((k + 1 : Nat) : Int)) := dk64 (by have := HL.out; omega)
          clear hk hlt hn
          rcases (by omega : n < 0 ∨ (¬ n < 0 ∧ 1048576 < n) ∨ (¬ n < 0 ∧ ¬ 1048576 < n)) with h | ⟨h, h'⟩ | ⟨h, h'⟩
          · have HF : Hid (¬ DOk l) := fun q => by have := HQ.out q; omega
            have b1 : decide (n < 0) = true := decide_eq_true h
            clear h
            go_wp2_with fail
            go_ret
            exact ⟨by rw [dokF HF.out]; rfl, rfl⟩
          · have HF : Hid (¬ DOk l) := fun q => by have := HQ.out q; omega
            have b1 : decide (n < 0) = false := decide_eq_false h
            have b2 : decide (1048576 < n) = true := decide_eq_true h'
            clear h h'
            go_wp2_with fail
            go_ret
            exact ⟨by rw [dokF HF.out]; rfl, rfl⟩
          · have HG2 : Hid (0 ≤ n ∧ n ≤ 1048576) := by unfold Hid; omega
            have b1 : decide (n < 0) = false := decide_eq_false h
            have b2 : decide (1048576 < n) = false := decide_eq_false h'
            clear h h'
            go_wp2_with fail
            go_round
            case rel =>
              have := HK.out
              refine ⟨k + 1, by omega, by first | rfl | rw [uk.out], fun i hi => ?_⟩
              rcases (by omega : i < k ∨ i = k) with hi | rfl
              · exact hg.out i hi
              · rw [← HN.out]; exact HG2.out
            case measure => (try rw [uk.out]); have := HK.out; simp [intOf]; omega
        · obtain rfl : k = l.length := by omega
          have HT : Hid (DOk l) := ⟨HL.out, hg.out, HLast.out⟩
          go_wp2_with fail
          go_ret
          exact ⟨by rw [dokT HT.out]; rfl, rfl⟩
    · have b3 : decide (0 < (l.length : Int)) = false := decide_eq_false (by omega)
      have b4 : decide (0 < l.length) = false := decide_eq_false hp
      have HT : Hid (DOk l) := ⟨HL.out, fun k h => by omega, fun h => absurd h hp⟩
      clear h0 h2 hp
      go_enter Try.func76, Try.ntmps76
      go_wp2_with fail
      clear b1 b2
      go_loop [24] (fun s24 => s24 = .int .i64 0) (fun s24 => 0)
      case atStart => rfl
      case round =>
        obtain rfl := hrel
        go_wp2_with fail
        go_ret
        exact ⟨by rw [dokT HT.out]; rfl, rfl⟩
  exact key
set_option maxRecDepth 20000 in
set_option maxHeartbeats 4000000 in
theorem tright_any (A : Option Addr) (l : List Int) (c : Nat) (w : World) (hs : Seg w w.heap.size A (l.map (.int .i64))) (hm : l.length ≤ 9223372036854775807) :
    Calls Try.prog 77 #[.slice A l.length c] w fun e w' => e = .returned (.bool (dokB l)) ∧ w = w' := by
  have HS := Lib.hid hs
  have HM := Lib.hid hm
  obtain ⟨bb, hbb⟩ : ∃ bb, bb = decide (l.length ≤ 200) := ⟨_, rfl⟩
  have b1 : decide ((l.length : Int) ≤ 200) = bb := by rw [hbb]; by_cases h : l.length ≤ 200 <;> simp [h] <;> omega
  have b2 : decide (l.length ≤ 200) = bb := hbb.symm
  have HBB : Hid ((bb = true → l.length ≤ 200) ∧ (bb = false → ¬ l.length ≤ 200)) := ⟨fun h => of_decide_eq_true (hbb.symm.trans h), fun h => of_decide_eq_false (hbb.symm.trans h)⟩
  clear hs hm hbb
  go_enter Try.func77, Try.ntmps77
  go_wp2_with fail
  clear b1 b2
  go_loop [3, 11] (fun s3 s11 => ∃ (k : Nat) (b : Bool), k ≤ l.length ∧ s3 = .bool b ∧ s11 = .int .i64 k ∧ Hid (b = true → l.length ≤ 200 ∧ ∀ i, i < k → 0 ≤ dk l i ∧ dk l i ≤ 1048576 ∧ (0 < dk l i ∨ i + 1 < l.length)) ∧ Hid (b = false → ¬ DOk l)) (fun _ s11 => l.length - (intOf s11).toNat)
  case atStart => exact ⟨0, bb, Nat.zero_le _, rfl, rfl, fun h => ⟨HBB.out.1 h, fun i h => absurd h (Nat.not_lt_zero _)⟩, fun h q => HBB.out.2 h q.len⟩
  case round =>
    obtain ⟨k, b, hk, rfl, rfl, hgood, hbad⟩ := hrel
    by_cases hlt : k < l.length
    · have i1 : (k : Int) < (l.length : Int) := by omega
      obtain ⟨ad, rfl, _, c0⟩ := HS.out.dk hlt
      have HK := Lib.hid (And.intro hk hlt)
      have HQ : Hid (DOk l → (0 ≤ dk l k ∧ dk l k ≤ 1048576) ∧ (k + 1 = l.length → dk l k ≠ 0)) := fun q => ⟨q.one k hlt, fun h => by have := q.last (by omega); rwa [show l.length - 1 = k by omega] at this⟩
      obtain ⟨n, hn⟩ : ∃ n, n = dk l k := ⟨_, rfl⟩
      rw [← hn] at c0 HQ
      have HN := Lib.hid hn
      have uk : Hid (wrap64 ((k : Int) + 1) = ((k + 1 : Nat) : Int)) := dk64 (by have := HM.out; omega)
      obtain ⟨L1, hL1⟩ : ∃ L1, L1 = l.length - 1 := ⟨_, rfl⟩
      have m1 : wrap64 ((l.length : Int) - 1) = (L1 : Int) := by rw [show (l.length : Int) - 1 = (L1 : Int) by omega]; exact dw64 (by omega) (by have := HM.out; omega)
      have m2 : IntKind.i64.wrap ((l.length : Int) - 1) = (L1 : Int) := by rw [show (l.length : Int) - 1 = (L1 : Int) by omega]; exact IntWalk.i64_in _ (by have := HM.out; omega)
      cases b with
      | false =>
        have HF : Hid (¬ DOk l) := hbad.out rfl
        clear hk hlt hn hL1 m1 m2
        go_wp2_with fail
        go_round
        case rel => exact ⟨k + 1, false, by have := HK.out; omega, rfl, by first | rfl | rw [uk.out], (fun h => by cases h), fun _ => HF.out⟩
        case measure => (try rw [uk.out]); have := HK.out; simp [intOf]; omega
      | true =>
        rcases (by omega : n < 0 ∨ (¬ n < 0 ∧ 1048576 < n) ∨ (¬ n < 0 ∧ ¬ 1048576 < n ∧ 0 < n) ∨ (¬ n < 0 ∧ ¬ 1048576 < n ∧ ¬ 0 < n ∧ k < L1) ∨ (¬ n < 0 ∧ ¬ 1048576 < n ∧ ¬ 0 < n ∧ ¬ k < L1)) with h | ⟨h, h'⟩ | ⟨h, h', h2⟩ | ⟨h, h', h2, h3⟩ | ⟨h, h', h2, h3⟩
        · have HF : Hid (¬ DOk l) := fun q => by have := HQ.out q; omega
          have b1 : decide (0 ≤ n) = false := decide_eq_false (by omega)
          clear h hk hlt hn hL1 m1 m2
          go_wp2_with fail
          go_round
          case rel => exact ⟨k + 1, false, by have := HK.out; omega, rfl, by first | rfl | rw [uk.out], (fun h => by cases h), fun _ => HF.out⟩
          case measure => (try rw [uk.out]); have := HK.out; simp [intOf]; omega
        · have HF : Hid (¬ DOk l) := fun q => by have := HQ.out q; omega
          have b1 : decide (0 ≤ n) = true := decide_eq_true (by omega)
          have b2 : decide (n ≤ 1048576) = false := decide_eq_false (by omega)
          clear h h' hk hlt hn hL1 m1 m2
          go_wp2_with fail
          go_round
          case rel => exact ⟨k + 1, false, by have := HK.out; omega, rfl, by first | rfl | rw [uk.out], (fun h => by cases h), fun _ => HF.out⟩
          case measure => (try rw [uk.out]); have := HK.out; simp [intOf]; omega
        · have HG2 : Hid (0 ≤ n ∧ n ≤ 1048576 ∧ (0 < n ∨ k + 1 < l.length)) := by unfold Hid; omega
          have b1 : decide (0 ≤ n) = true := decide_eq_true (by omega)
          have b2 : decide (n ≤ 1048576) = true := decide_eq_true (by omega)
          have b3 : decide (0 < n) = true := decide_eq_true (by omega)
          clear h h' h2 hk hlt hn hL1 m1 m2
          go_wp2_with fail
          go_round
          case rel =>
            have := HK.out
            refine ⟨k + 1, true, by omega, rfl, by first | rfl | rw [uk.out], fun _ => ⟨(hgood.out (by trivial)).1, fun i hi => ?_⟩, fun h => by cases h⟩
            rcases (by omega : i < k ∨ i = k) with hi | rfl
            · exact (hgood.out (by trivial)).2 i hi
            · rw [← HN.out]; exact HG2.out
          case measure => (try rw [uk.out]); have := HK.out; simp [intOf]; omega
        · have HG2 : Hid (0 ≤ n ∧ n ≤ 1048576 ∧ (0 < n ∨ k + 1 < l.length)) := by unfold Hid; omega
          have b1 : decide (0 ≤ n) = true := decide_eq_true (by omega)
          have b2 : decide (n ≤ 1048576) = true := decide_eq_true (by omega)
          have b3 : decide (0 < n) = false := decide_eq_false (by omega)
          have b4 : decide ((k : Int) < (L1 : Int)) = true := decide_eq_true (by omega)
          have b5 : decide (k < L1) = true := decide_eq_true (by omega)
          clear h h' h2 h3 hk hlt hn hL1
          go_wp2_with fail
          go_round
          case rel =>
            have := HK.out
            refine ⟨k + 1, true, by omega, rfl, by first | rfl | rw [uk.out], fun _ => ⟨(hgood.out (by trivial)).1, fun i hi => ?_⟩, fun h => by cases h⟩
            rcases (by omega : i < k ∨ i = k) with hi | rfl
            · exact (hgood.out (by trivial)).2 i hi
            · rw [← HN.out]; exact HG2.out
          case measure => (try rw [uk.out]); have := HK.out; simp [intOf]; omega
        · have HF : Hid (¬ DOk l) := fun q => by have := HQ.out q; omega
          have b1 : decide (0 ≤ n) = true := decide_eq_true (by omega)
          have b2 : decide (n ≤ 1048576) = true := decide_eq_true (by omega)
          have b3 : decide (0 < n) = false := decide_eq_false (by omega)
          have b4 : decide ((k : Int) < (L1 : Int)) = false := decide_eq_false (by omega)
          have b5 : decide (k < L1) = false := decide_eq_false (by omega)
          clear h h' h2 h3 hk hlt hn hL1
          go_wp2_with fail
          go_round
          case rel => exact ⟨k + 1, false, by have := HK.out; omega, rfl, by first | rfl | rw [uk.out], (fun h => by cases h), fun _ => HF.out⟩
          case measure => (try rw [uk.out]); have := HK.out; simp [intOf]; omega
    · obtain rfl : k = l.length := by omega
      cases b with
      | false =>
        have HF : Hid (¬ DOk l) := hbad.out rfl
        go_wp2_with fail
        go_ret
        exact ⟨by rw [dokF HF.out]; rfl, rfl⟩
      | true =>
        have hg := hgood.out rfl
        have HT : Hid (DOk l) := ⟨hg.1, fun k hk => ⟨(hg.2 k hk).1, (hg.2 k hk).2.1⟩, fun h => by have := hg.2 (l.length - 1) (by omega); omega⟩
        clear hg
        go_wp2_with fail
        go_ret
        exact ⟨by rw [dokT HT.out]; rfl, rfl⟩
end Go.Proofs.Ytaehehoeidnidaa
