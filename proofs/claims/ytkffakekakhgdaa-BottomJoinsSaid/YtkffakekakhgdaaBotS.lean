/- The reference of package bottom: LRight, walked. No condition. -/
import Derived.Test.YtkffakekakhgdaaBotR
namespace Go.Proofs.Ytkffakekakhgdaa
open Go.ChangeShapes Go.WideShapes Go.ChangeAt Go.RowKit
set_option linter.unusedVariables false

theorem badd {ad : Addr} {k B : Nat} (h : ad.block < B) : (ad.add k).block < B := by unfold Addr.add; split <;> exact h
theorem lmixr_any (seed x : BitVec 64) (w : World) : Calls Try.prog 43 #[W64 (x ^^^ seed)] w fun e w' => e = .returned (.int .u64 (brank seed x : Nat)) ∧ Below w.heap.size w w' := lmix_any (x ^^^ seed) w
theorem rising_next {α : Type} {k : α → Nat} {l : List α} {j : Nat} (h1 : 1 ≤ j) (hj : j < l.length) : decide (Rising k (l.take (j + 1))) = (decide (Rising k (l.take j)) && decide (k (l[j - 1]'(by omega)) < k l[j])) := by
  by_cases h : Rising k (l.take j)
  · rw [decide_eq_true h, Bool.true_and, decide_eq_decide]
    exact rising_more h1 hj h
  · rw [decide_eq_false h, Bool.false_and]
    refine decide_eq_false fun h2 => h ?_
    have := rising_take h2 j
    rwa [List.take_take, Nat.min_eq_left (Nat.le_succ j)] at this
/-- The test of the size. -/
def bsize (room : Int) (n : Nat) : Bool := decide ((1 ≤ room ∧ room ≤ 400) ∧ (n : Int) ≤ room)
theorem bright_eq (seed : BitVec 64) (room : Int) (l : List (BitVec 64)) : bright seed room l = (bsize room l.length && decide (Rising (brank seed) l)) := by
  unfold bright bsize
  rw [← Bool.decide_and, decide_eq_decide]
  exact ⟨fun h => ⟨⟨h.1, h.2.1⟩, h.2.2⟩, fun h => ⟨h.1.1, h.1.2, h.2⟩⟩
set_option maxRecDepth 20000 in
set_option maxHeartbeats 4000000 in
theorem lright_any (seed : BitVec 64) (room : Int) (A : Option Addr) (l : List (BitVec 64)) (c : Nat) (w : World) (hs : Seg w w.heap.size A (l.map W64)) (hm : l.length ≤ 9223372036854775807) :
    Calls Try.prog 11 #[W64 seed, .int .i64 room, .slice A l.length c] w fun e w' => e = .returned (.bool (bright seed room l)) ∧ Below w.heap.size w w' := by
  have HS := Lib.hid hs
  clear hs
  obtain ⟨n, hn⟩ : ∃ n, n = l.length := ⟨_, rfl⟩
  rw [← hn]
  have HN := Lib.hid (And.intro hn (show n ≤ 9223372036854775807 by rw [hn]; exact hm))
  have HD := Lib.hid (bright_eq seed room l)
  rw [← hn] at HD
  clear hm hn
  obtain ⟨b0, hb0⟩ : ∃ b, b = bsize room n := ⟨_, rfl⟩
  rw [← hb0] at HD
  have HB0 := Lib.hid hb0
  clear hb0
  go_enter Try.func11, Try.ntmps11
  go_upto_region 1 with (fail)
  go_cut [7] (fun s7 wx => s7 = .bool b0 ∧ wx = w)
  case first =>
    rcases (by omega : ¬ 0 < room ∨ (0 < room ∧ ¬ room < 401) ∨ (0 < room ∧ room < 401 ∧ ¬ (n : Int) ≤ room) ∨ (0 < room ∧ room < 401 ∧ (n : Int) ≤ room)) with h1 | ⟨h1, h2⟩ | ⟨h1, h2, h3⟩ | ⟨h1, h2, h3⟩
    · have e : Hid (b0 = false) := by unfold Hid; rw [HB0.out]; exact decide_eq_false (fun h => by omega)
      go_wp2_with fail
      go_meet
      case rel => exact ⟨by rw [e.out], rfl⟩
    · have e : Hid (b0 = false) := by unfold Hid; rw [HB0.out]; exact decide_eq_false (fun h => by omega)
      go_wp2_with fail
      go_meet
      case rel => exact ⟨by rw [e.out], rfl⟩
    · have e : Hid (b0 = false) := by unfold Hid; rw [HB0.out]; exact decide_eq_false (fun h => by omega)
      go_wp2_with fail
      go_meet
      case rel => exact ⟨by rw [e.out], rfl⟩
    · have e : Hid (b0 = true) := by unfold Hid; rw [HB0.out]; exact decide_eq_true ⟨by omega, h3⟩
      go_wp2_with fail
      go_meet
      case rel => exact ⟨by rw [e.out], rfl⟩
  case rest =>
    obtain ⟨rfl, hw0⟩ := hcut
    have hw1 := hw0.symm
    subst hw1
    clear hw0
    go_wp2_with fail
    go_loopw [7, 23] (fun s7 s23 wx => ∃ k : Nat, k ≤ n ∧ s23 = .int .i64 k ∧ s7 = .bool (b0 && decide (Rising (brank seed) (l.take k))) ∧ Hid (Below w.heap.size w wx)) (fun _ s23 _ => n - (intOf s23).toNat)
    case atStart => exact ⟨0, Nat.zero_le _, rfl, by simp [Rising], Below.refl _ _⟩
    case round =>
      obtain ⟨k, hkn, rfl, rfl, hb⟩ := hrel
      obtain ⟨bb, hbb⟩ : ∃ bb, bb = (b0 && decide (Rising (brank seed) (l.take k))) := ⟨_, rfl⟩
      have HBB := Lib.hid hbb
      rw [← hbb]
      clear hbb
      by_cases hkl : k < n
      · have i1 : (k : Int) < (n : Int) := by omega
        have uk : Hid (wrap64 ((k : Int) + 1) = ((k + 1 : Nat) : Int)) := by have := HN.out.2; unfold Hid wrap64; omega
        have HK := Lib.hid hkl
        cases bb with
        | false =>
          have hf : Hid ((b0 && decide (Rising (brank seed) (l.take (k + 1)))) = false) := by
            have h := HBB.out
            by_cases hk1 : 1 ≤ k
            · have e := rising_next (k := brank seed) (l := l) hk1 (by rw [← HN.out.1]; exact hkl)
              unfold Hid; rw [e, ← Bool.and_assoc, ← h, Bool.false_and]
            · obtain rfl : k = 0 := by omega
              have h2 : b0 = false := by simpa [Rising] using h.symm
              unfold Hid; rw [h2]; rfl
          clear hkl hkn
          go_wp2_with fail
          refine wp_region_plan [(0, 0), (1, 0), (2, 0), (3, 0), (4, 0), (5, 0), (6, 0), (7, 0), (8, 1), (9, 0), (10, 0), (12, 0), (13, 0), (14, 0), (15, 0), (16, 1), (17, 0), (18, 0), (11, 0), (19, 0), (20, 0), (21, 0), (22, 0), (23, 0)] (fun _ => True) (by kernel_rfl) (by kernel_rfl) (fun _ d _ _ _ h => by cases d <;> exact h) trivial ?_
          iterate 24 (first | ((first | (refine plan0 (v := ?_) rfl rfl (by rfl) ?_ ?_) | (refine plan1 (v := ?_) rfl rfl (by rfl) ?_ ?_)); rotate_left; (first | (intro w'; go_simp; with_reducible rfl) | (intro w' hS; go_simp; with_reducible rfl)); simp only [List.setIfInBounds_toArray, List.set_cons_zero, List.set_cons_succ]) | ((first | refine bplanN0 rfl rfl (by rfl) ?_ | refine bplanN1 rfl rfl (by rfl) ?_); simp only [List.setIfInBounds_toArray, List.set_cons_zero, List.set_cons_succ]))
          refine planEnd ?_
          go_wp2_with fail
          go_roundw
          case rel => exact ⟨k + 1, HK.out, by first | rfl | rw [uk.out], by rw [hf.out], Below.drew hb.out⟩
          case measure => (try rw [uk.out]); have := HK.out; simp [intOf]; omega
        | true =>
          by_cases hk0 : k = 0
          · subst hk0
            have hf : Hid ((b0 && decide (Rising (brank seed) (l.take (0 + 1)))) = true) := by
              have h := HBB.out
              have h2 : b0 = true := by simpa [Rising] using h.symm
              unfold Hid; rw [h2, Bool.true_and]; exact decide_eq_true rising_short
            clear hkl hkn
            go_wp2_with fail
            refine wp_region_plan [(0, 0), (1, 0), (2, 0), (3, 0), (4, 0), (5, 0), (6, 0), (7, 0), (8, 1), (9, 0), (10, 0), (12, 0), (13, 0), (14, 0), (15, 0), (16, 1), (17, 0), (18, 0), (11, 0), (19, 0), (20, 0), (21, 0), (22, 0), (23, 0)] (fun _ => True) (by kernel_rfl) (by kernel_rfl) (fun _ d _ _ _ h => by cases d <;> exact h) trivial ?_
            iterate 24 (first | ((first | (refine plan0 (v := ?_) rfl rfl (by rfl) ?_ ?_) | (refine plan1 (v := ?_) rfl rfl (by rfl) ?_ ?_)); rotate_left; (first | (intro w'; go_simp; with_reducible rfl) | (intro w' hS; go_simp; with_reducible rfl)); simp only [List.setIfInBounds_toArray, List.set_cons_zero, List.set_cons_succ]) | ((first | refine bplanN0 rfl rfl (by rfl) ?_ | refine bplanN1 rfl rfl (by rfl) ?_); simp only [List.setIfInBounds_toArray, List.set_cons_zero, List.set_cons_succ]))
            refine planEnd ?_
            go_wp2_with fail
            go_roundw
            case rel => exact ⟨0 + 1, HK.out, by first | rfl | rw [uk.out], by rw [hf.out], Below.drew hb.out⟩
            case measure => (try rw [uk.out]); have := HK.out; simp [intOf]; omega
          · obtain ⟨j, rfl⟩ : ∃ j, k = j + 1 := ⟨k - 1, by omega⟩
            have hj1 : j + 1 < l.length := by rw [← HN.out.1]; exact hkl
            have hj0 : j < l.length := by omega
            have HST : Hid ((b0 && decide (Rising (brank seed) (l.take (j + 1 + 1)))) = decide (brank seed l[j] < brank seed l[j + 1])) := by
              have e := rising_next (k := brank seed) (l := l) (j := j + 1) (by omega) hj1
              unfold Hid; rw [e, ← Bool.and_assoc, ← HBB.out, Bool.true_and]; rfl
            obtain ⟨ad, rfl, hab, hc1⟩ := HS.out.word hj0
            obtain ⟨ad2, e2, _, hc2⟩ := HS.out.word hj1
            injection e2 with e2
            subst e2
            obtain ⟨K, hK⟩ : ∃ K, K = j + 1 := ⟨_, rfl⟩
            have i0 : (j : Int) < (n : Int) := by omega
            rw [← hK] at i1 uk HK hkl hkn ⊢
            have hw1 : wrap64 ((K : Int) - 1) = (j : Int) := by have := HN.out.2; unfold wrap64; omega
            have hw2 : IntKind.i64.wrap ((K : Int) - 1) = (j : Int) := by have := HN.out.2; rw [IntWalk.i64_in _ (by omega)]; omega
            have b00 : ((K : Int) == 0) = false := by rw [beq_eq_false_iff_ne]; omega
            obtain ⟨x, hx⟩ : ∃ x, x = l[j] := ⟨_, rfl⟩
            obtain ⟨y, hy⟩ : ∃ y, y = l[j + 1] := ⟨_, rfl⟩
            rw [← hx] at hc1 HST
            rw [← hy, ← hK] at hc2
            rw [← hy, ← hK] at HST
            clear hx hy hK hkl hkn hj1 hj0 hk0 HBB
            have hc1' : wr.cell? (ad.add j) = some (W64 x) := by rw [hb.out.cell (p := ad.add j) (badd hab)]; exact hc1
            have hc2' : wr.cell? (ad.add K) = some (W64 y) := by rw [hb.out.cell (p := ad.add K) (badd hab)]; exact hc2
            have hx1 := wv_xor x seed
            have hy1 := wv_xor y seed
            obtain ⟨rx, hrx⟩ : ∃ rx, rx = brank seed x := ⟨_, rfl⟩
            obtain ⟨ry, hry⟩ : ∃ ry, ry = brank seed y := ⟨_, rfl⟩
            have HX : Hid (∀ u, Calls Try.prog 43 #[W64 (x ^^^ seed)] u fun e w' => e = .returned (.int .u64 (rx : Nat)) ∧ Below u.heap.size u w') := fun u => by rw [hrx]; exact lmixr_any seed x u
            have HY : Hid (∀ u, Calls Try.prog 43 #[W64 (y ^^^ seed)] u fun e w' => e = .returned (.int .u64 (ry : Nat)) ∧ Below u.heap.size u w') := fun u => by rw [hry]; exact lmixr_any seed y u
            rw [← hrx, ← hry] at HST
            clear hrx hry hc1 hc2
            have HAB := Lib.hid (Nat.lt_of_lt_of_le hab hb.out.size)
            clear hab
            go_wp2_with fail
            refine wp_region_plan [(0, 0), (1, 0), (2, 0), (3, 0), (4, 0), (5, 0), (6, 0), (7, 0), (8, 1), (9, 0), (10, 0), (12, 0), (13, 0), (14, 0), (15, 0), (16, 1), (17, 0), (18, 0), (11, 2), (19, 2), (20, 0), (21, 0), (22, 0), (23, 0)] (fun w' => w'.cell? (ad.add j) = some (W64 x) ∧ w'.cell? (ad.add K) = some (W64 y)) (by kernel_rfl) (by kernel_rfl) (fun _ d _ _ _ h => by cases d <;> exact h) ⟨hc1', hc2'⟩ ?_
            iterate 18 ((first | (refine plan0 (v := ?_) rfl rfl (by rfl) ?_ ?_) | (refine plan1 (v := ?_) rfl rfl (by rfl) ?_ ?_)); rotate_left; (first | (intro w'; go_simp; with_reducible rfl) | (intro w' hS; obtain ⟨h1, h2⟩ := hS; go_simp; with_reducible rfl)); simp only [List.setIfInBounds_toArray, List.set_cons_zero, List.set_cons_succ])
            refine bplan2w rfl (by rfl) fun K' hK' => ?_
            go_simp
            refine (HY.out _).mono ?_
            rintro e w8 ⟨rfl, hb8⟩
            have HB8 : Hid (Below wr.heap.size wr w8) := (Below.drew (Below.refl _ wr)).trans hb8
            clear hb8
            refine hK' _ _ ⟨(HB8.out.cell (p := ad.add j) (badd HAB.out)).trans hc1', (HB8.out.cell (p := ad.add K) (badd HAB.out)).trans hc2'⟩ ?_
            clear hK' K'
            refine bplan2w rfl (by rfl) fun K' hK' => ?_
            go_simp
            refine (HX.out _).mono ?_
            rintro e w9 ⟨rfl, hb9⟩
            have HB9 : Hid (Below wr.heap.size wr w9) := HB8.out.trans (hb9.mono HB8.out.size)
            clear hb9
            refine hK' _ _ ⟨(HB9.out.cell (p := ad.add j) (badd HAB.out)).trans hc1', (HB9.out.cell (p := ad.add K) (badd HAB.out)).trans hc2'⟩ ?_
            clear hK' K'
            iterate 4 ((refine plan0 (v := ?_) rfl rfl (by rfl) ?_ ?_); rotate_left; (intro w'; go_simp; with_reducible rfl); simp only [List.setIfInBounds_toArray, List.set_cons_zero, List.set_cons_succ])
            refine planEnd ?_
            clear hc1' hc2' hw1 hw2 b00
            have HB10 : Hid (Below w.heap.size w w9) := hb.out.trans (HB9.out.mono hb.out.size)
            go_wp2_with fail
            go_roundw
            case rel => exact ⟨K + 1, HK.out, by first | rfl | rw [uk.out], by rw [HST.out], HB10.out⟩
            case measure => (try rw [uk.out]); have := HK.out; simp [intOf]; omega
      · have hf : Hid (bright seed room l = bb) := by
          have h := HBB.out
          rw [List.take_of_length_le (by rw [← HN.out.1]; omega)] at h
          exact HD.out.trans h.symm
        have i1 : ¬ (k : Int) < (n : Int) := by omega
        clear hkn hkl HBB
        go_wp2_with fail
        go_ret
        exact ⟨by rw [hf.out]; rfl, hb.out⟩
end Go.Proofs.Ytkffakekakhgdaa
