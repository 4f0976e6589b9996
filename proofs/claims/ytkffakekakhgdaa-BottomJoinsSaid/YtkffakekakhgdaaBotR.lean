/- Package bottom: rank, Right; the reference's LRight, walked. No condition. -/
import Derived.Test.YtkffakekakhgdaaBotL
import Derived.Test.YtkffakekakhgdaaBotP
import Derived.Test.YtkffakekakhgdaaHeld
import Derived.BigQuiet
import Derived.Deep.DeepCutAuto
namespace Go.Proofs.Ytkffakekakhgdaa
open Go.ChangeShapes Go.WideShapes Go.ChangeAt Go.RowKit
set_option linter.unusedVariables false

section
variable {P : Program} {ops : Array Oper} {Q : Exit → Act → World → Prop} {S : World → Prop} {l : List Oper}
theorem bplan2w {k : Nat} {ks : List (Nat × Nat)} {a : Act} {w : World} {o : Oper} (ho : l[k]? = some o) (hw : Region.wanted o (yielded l.toArray a.tmps) = true)
    (h : ∀ K' : Act → World → Prop, (∀ a' w', S w' → wpPlan P l.toArray Q S ks a' w' → K' a' w') → Oper.wp P o a w K' Q) : wpPlan P l.toArray Q S ((k, 2) :: ks) a w :=
  wpOp_step (show l.toArray[k]? = some o by simpa using ho) fun K' hK => by
    rw [if_pos hw]
    exact h K' fun a' w' h1 h2 => hK a' w' ⟨h1, h2⟩
theorem bplanN0 {k j : Nat} {ks : List (Nat × Nat)} {a : Act} {w : World} {o : Oper} (ho : l[k]? = some o) (hd : o.dst = some j) (hw : Region.wanted o (yielded l.toArray a.tmps) = false)
    (h : wpPlan P l.toArray Q S ks { a with tmps := a.tmps.setIfInBounds j undef } w) : wpPlan P l.toArray Q S ((k, 0) :: ks) a w := ⟨o, undef, by simpa using ho, .inr ⟨hw, rfl⟩, by rw [hd]; exact h⟩
theorem bplanN1 {k j : Nat} {ks : List (Nat × Nat)} {a : Act} {w : World} {o : Oper} (ho : l[k]? = some o) (hd : o.dst = some j) (hw : Region.wanted o (yielded l.toArray a.tmps) = false)
    (h : wpPlan P l.toArray Q S ks { a with tmps := a.tmps.setIfInBounds j undef } w) : wpPlan P l.toArray Q S ((k, 1) :: ks) a w := ⟨o, undef, by simpa using ho, .inr ⟨hw, rfl⟩, by rw [hd]; exact h⟩
end
theorem Seg.word {w : World} {B : Nat} {A : Option Addr} {l : List (BitVec 64)} (h : Seg w B A (l.map W64)) {k : Nat} (hk : k < l.length) : ∃ ad, A = some ad ∧ ad.block < B ∧ w.cell? (ad.add k) = some (W64 l[k]) :=
  h.get (by rw [List.getElem?_map, List.getElem?_eq_getElem hk]; rfl)
instance {α : Type} (k : α → Nat) (l : List α) : Decidable (Rising k l) := inferInstanceAs (Decidable (List.Pairwise _ l))
/-- Whether a list is one that is kept. -/
def bright (seed : BitVec 64) (room : Int) (l : List (BitVec 64)) : Bool := decide ((1 ≤ room ∧ room ≤ 400) ∧ (l.length : Int) ≤ room ∧ Rising (brank seed) l)
theorem rising_more {α : Type} {k : α → Nat} {l : List α} {j : Nat} (h1 : 1 ≤ j) (hj : j < l.length) (h : Rising k (l.take j)) : Rising k (l.take (j + 1)) ↔ k (l[j - 1]'(by omega)) < k l[j] := by
  rw [List.take_succ_eq_append_getElem hj]
  unfold Rising at h ⊢
  rw [List.pairwise_append]
  constructor
  · intro h2
    exact h2.2.2 _ (List.mem_take_iff_getElem.2 ⟨j - 1, by omega, rfl⟩) _ (List.mem_singleton.2 rfl)
  · intro h2
    refine ⟨h, List.pairwise_singleton .., fun x hx y hy => ?_⟩
    rw [List.mem_singleton.1 hy]
    obtain ⟨i, hi, rfl⟩ := List.mem_take_iff_getElem.1 hx
    by_cases e : i = j - 1
    · subst e; exact h2
    · refine Nat.lt_trans ?_ h2
      have h3 := List.pairwise_iff_getElem.1 h i (j - 1) (by rw [List.length_take]; omega) (by rw [List.length_take]; omega) (by omega)
      rw [List.getElem_take, List.getElem_take] at h3
      exact h3
theorem rising_all {α : Type} {k : α → Nat} {l : List α} {j : Nat} (h : Rising k l) : Rising k (l.take j) := rising_take h j
theorem rising_short {α : Type} {k : α → Nat} {l : List α} : Rising k (l.take 1) := by
  cases l with
  | nil => exact List.Pairwise.nil
  | cons x l => exact List.pairwise_singleton ..
theorem bword_one (l : List (BitVec 64)) : ∀ u ∈ l.map W64, u.oneCell' = true := by
  intro u hu
  obtain ⟨x, -, rfl⟩ := List.mem_map.1 hu
  rfl
theorem brk_any (seed x : BitVec 64) (w : World) : Calls Try.prog 40 #[W64 seed, W64 x] w fun e w' => e = .returned (.int .u64 (brank seed x : Nat)) ∧ w = w' := by
  have hx := wv_xor x seed
  go_enter Try.func40, Try.ntmps40
  go_wp2_with fail
  refine (mix_any (x ^^^ seed) _).mono ?_
  rintro e w' ⟨rfl, rfl⟩
  go_wp2_with fail
  go_ret
  exact ⟨rfl, rfl⟩
set_option maxRecDepth 20000 in
set_option maxHeartbeats 4000000 in
theorem bright_any (seed : BitVec 64) (room : Int) (A : Option Addr) (l : List (BitVec 64)) (c B : Nat) (w : World) (hs : Seg w B A (l.map W64)) :
    Calls Try.prog 10 #[W64 seed, .int .i64 room, .slice A l.length c] w fun e w' => e = .returned (.bool (bright seed room l)) ∧ ∃ m, w' = w.drewN m := by
  have HS := Lib.hid hs
  clear hs
  obtain ⟨n, hn⟩ : ∃ n, n = l.length := ⟨_, rfl⟩
  rw [← hn]
  have HN := Lib.hid hn
  rcases (by omega : room < 1 ∨ (¬ room < 1 ∧ 400 < room) ∨ (¬ room < 1 ∧ ¬ 400 < room ∧ room < (n : Int)) ∨ (¬ room < 1 ∧ ¬ 400 < room ∧ ¬ room < (n : Int))) with h1 | ⟨h1, h2⟩ | ⟨h1, h2, h3⟩ | ⟨h1, h2, h3⟩
  · have hf : Hid (bright seed room l = false) := decide_eq_false (fun h => by omega)
    clear hn
    go_enter Try.func10, Try.ntmps10
    go_wp2_with fail
    go_ret
    exact ⟨by rw [hf.out]; rfl, 0, rfl⟩
  · have hf : Hid (bright seed room l = false) := decide_eq_false (fun h => by omega)
    clear hn
    go_enter Try.func10, Try.ntmps10
    go_wp2_with fail
    go_ret
    exact ⟨by rw [hf.out]; rfl, 0, rfl⟩
  · have hf : Hid (bright seed room l = false) := decide_eq_false (fun h => by omega)
    clear hn
    go_enter Try.func10, Try.ntmps10
    go_wp2_with fail
    go_ret
    exact ⟨by rw [hf.out]; rfl, 0, rfl⟩
  · have HD : Hid (bright seed room l = decide (Rising (brank seed) l)) := by
      unfold Hid bright
      rw [decide_eq_decide]
      exact ⟨fun h => h.2.2, fun h => ⟨by omega, by omega, h⟩⟩
    have hn4 : Hid (n ≤ 400) := by unfold Hid; omega
    clear hn
    go_enter Try.func10, Try.ntmps10
    go_wp2_with fail
    clear h1 h2 h3
    go_loopw [7] (fun s7 wx => ∃ k m : Nat, 1 ≤ k ∧ s7 = .int .i64 k ∧ k ≤ n + 1 ∧ Hid (Rising (brank seed) (l.take k)) ∧ wx = w.drewN m) (fun s7 _ => n + 1 - (intOf s7).toNat)
    case atStart => exact ⟨1, 0, Nat.le_refl _, rfl, by omega, rising_short, rfl⟩
    case round =>
      obtain ⟨k, m, hk1, rfl, hkn, hri, rfl⟩ := hrel
      by_cases hkl : k < n
      · obtain ⟨j, rfl⟩ : ∃ j, k = j + 1 := ⟨k - 1, by omega⟩
        have hj1 : j + 1 < l.length := by rw [← HN.out]; exact hkl
        have hj0 : j < l.length := by omega
        have HST : Hid (Rising (brank seed) (l.take (j + 1 + 1)) ↔ brank seed l[j] < brank seed l[j + 1]) := rising_more (j := j + 1) hk1 hj1 hri.out
        obtain ⟨ad, rfl, _, hc1⟩ := HS.out.word hj0
        obtain ⟨ad2, e2, _, hc2⟩ := HS.out.word hj1
        injection e2 with e2
        subst e2
        obtain ⟨K, hK⟩ : ∃ K, K = j + 1 := ⟨_, rfl⟩
        have i1 : (K : Int) < (n : Int) := by omega
        have i0 : (j : Int) < (n : Int) := by omega
        have hw1 : wrap64 ((K : Int) - 1) = (j : Int) := by have := hn4.out; unfold wrap64; omega
        have hw2 : IntKind.i64.wrap ((K : Int) - 1) = (j : Int) := by have := hn4.out; rw [IntWalk.i64_in _ (by omega)]; omega
        have uk : Hid (wrap64 ((K : Int) + 1) = ((K + 1 : Nat) : Int)) := by have := hn4.out; unfold Hid wrap64; omega
        have HK := Lib.hid (And.intro hK hkl)
        obtain ⟨x, hx⟩ : ∃ x, x = l[j] := ⟨_, rfl⟩
        obtain ⟨y, hy⟩ : ∃ y, y = l[j + 1] := ⟨_, rfl⟩
        rw [← hx] at hc1 HST
        rw [← hy, ← hK] at hc2
        rw [← hy, ← hK] at HST
        rw [← hK]
        clear hx hy hK hkl hk1 hkn hri hj1 hj0
        obtain ⟨rx, hrx⟩ : ∃ rx, rx = brank seed x := ⟨_, rfl⟩
        obtain ⟨ry, hry⟩ : ∃ ry, ry = brank seed y := ⟨_, rfl⟩
        have HX : Hid (∀ u, Calls Try.prog 40 #[W64 seed, W64 x] u fun e w' => e = .returned (.int .u64 (rx : Nat)) ∧ u = w') := fun u => by rw [hrx]; exact brk_any seed x u
        have HY : Hid (∀ u, Calls Try.prog 40 #[W64 seed, W64 y] u fun e w' => e = .returned (.int .u64 (ry : Nat)) ∧ u = w') := fun u => by rw [hry]; exact brk_any seed y u
        rw [← hrx, ← hry] at HST
        clear hrx hry
        by_cases hlt : ry ≤ rx
        · have hf : Hid (bright seed room l = false) := by
            refine HD.out.trans (decide_eq_false fun h => ?_)
            have := HST.out.1 (rising_take h _)
            omega
          have bt : (ry : Int) ≤ (rx : Int) := Int.ofNat_le.2 hlt
          clear hlt
          go_wp2_with fail
          refine wp_region_plan [(0, 0), (1, 0), (2, 0), (3, 0), (4, 0), (5, 1), (7, 0), (8, 0), (9, 0), (10, 0), (11, 1), (6, 2), (12, 2), (13, 0)] (fun w' => w'.cell? (ad.add j) = some (W64 x) ∧ w'.cell? (ad.add K) = some (W64 y)) (by kernel_rfl) (by kernel_rfl) (fun _ d _ _ _ h => by cases d <;> exact h) ⟨hc1, hc2⟩ ?_
          iterate 11 ((first | (refine plan0 (v := ?_) rfl rfl (by rfl) ?_ ?_) | (refine plan1 (v := ?_) rfl rfl (by rfl) ?_ ?_)); rotate_left; (first | (intro w'; go_simp; with_reducible rfl) | (intro w' hS; obtain ⟨h1, h2⟩ := hS; go_simp; with_reducible rfl)); simp only [List.setIfInBounds_toArray, List.set_cons_zero, List.set_cons_succ])
          refine plan2 rfl rfl fun K' hK' => ?_
          go_simp
          refine (HX.out _).mono ?_
          rintro e w8 ⟨rfl, rfl⟩
          refine hK' _ _ ⟨hc1, hc2⟩ ?_
          clear hK' K'
          refine plan2 rfl rfl fun K' hK' => ?_
          go_simp
          refine (HY.out _).mono ?_
          rintro e w9 ⟨rfl, rfl⟩
          refine hK' _ _ ⟨hc1, hc2⟩ ?_
          clear hK' K'
          iterate 1 ((refine plan0 (v := ?_) rfl rfl (by rfl) ?_ ?_); rotate_left; (intro w'; go_simp; with_reducible rfl); simp only [List.setIfInBounds_toArray, List.set_cons_zero, List.set_cons_succ])
          refine planEnd ?_
          clear hc1 hc2 hw1 hw2
          go_wp2_with fail
          go_ret
          exact ⟨by rw [hf.out]; rfl, m + 1, rfl⟩
        · have hr2 : Hid (Rising (brank seed) (l.take (K + 1))) := HST.out.2 (by omega)
          have bt : ¬ (ry : Int) ≤ (rx : Int) := by omega
          clear hlt
          go_wp2_with fail
          refine wp_region_plan [(0, 0), (1, 0), (2, 0), (3, 0), (4, 0), (5, 1), (7, 0), (8, 0), (9, 0), (10, 0), (11, 1), (6, 2), (12, 2), (13, 0)] (fun w' => w'.cell? (ad.add j) = some (W64 x) ∧ w'.cell? (ad.add K) = some (W64 y)) (by kernel_rfl) (by kernel_rfl) (fun _ d _ _ _ h => by cases d <;> exact h) ⟨hc1, hc2⟩ ?_
          iterate 11 ((first | (refine plan0 (v := ?_) rfl rfl (by rfl) ?_ ?_) | (refine plan1 (v := ?_) rfl rfl (by rfl) ?_ ?_)); rotate_left; (first | (intro w'; go_simp; with_reducible rfl) | (intro w' hS; obtain ⟨h1, h2⟩ := hS; go_simp; with_reducible rfl)); simp only [List.setIfInBounds_toArray, List.set_cons_zero, List.set_cons_succ])
          refine plan2 rfl rfl fun K' hK' => ?_
          go_simp
          refine (HX.out _).mono ?_
          rintro e w8 ⟨rfl, rfl⟩
          refine hK' _ _ ⟨hc1, hc2⟩ ?_
          clear hK' K'
          refine plan2 rfl rfl fun K' hK' => ?_
          go_simp
          refine (HY.out _).mono ?_
          rintro e w9 ⟨rfl, rfl⟩
          refine hK' _ _ ⟨hc1, hc2⟩ ?_
          clear hK' K'
          iterate 1 ((refine plan0 (v := ?_) rfl rfl (by rfl) ?_ ?_); rotate_left; (intro w'; go_simp; with_reducible rfl); simp only [List.setIfInBounds_toArray, List.set_cons_zero, List.set_cons_succ])
          refine planEnd ?_
          clear hc1 hc2 hw1 hw2
          go_wp2_with fail
          go_roundw
          case rel => exact ⟨K + 1, m + 1, by omega, by first | rfl | rw [uk.out], by have := HK.out; omega, hr2, rfl⟩
          case measure => (try rw [uk.out]); have := HK.out; simp [intOf]; omega
      · have hf : Hid (bright seed room l = true) := by
          refine HD.out.trans (decide_eq_true ?_)
          have h := hri.out
          rwa [List.take_of_length_le (by rw [← HN.out]; omega)] at h
        have i1 : ¬ (k : Int) < (n : Int) := by omega
        clear hri hkn hkl hk1
        go_wp2_with fail
        go_ret
        exact ⟨by rw [hf.out]; rfl, m, rfl⟩
end Go.Proofs.Ytkffakekakhgdaa
