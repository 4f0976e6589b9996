/- slices.SortFunc at []uint64 by rank: the shelf's contract at this program; the closure, cmp.Compare, walked. No condition. -/
import Derived.Shelf.SlSortCmp.NoneTotal
import Derived.Test.YtkffakekakhgdaaBotT
namespace Go.Proofs.Ytkffakekakhgdaa
open Go.ChangeShapes Go.WideShapes Go.ChangeAt Go.RowKit Go.Sort
set_option linter.unusedVariables false

def laysSF_ren : Go.Shelf.Ren := ⟨fun | 6 => 37 | 14 => 66 | 15 => 67 | 20 => 91 | 21 => 92 | 22 => 93 | 23 => 94 | 24 => 95 | 25 => 96 | 26 => 97 | 27 => 98 | 28 => 99 | 29 => 100 | 46 => 121 | 47 => 122 | 48 => 123 | 49 => 124 | 50 => 125 | 57 => 130 | n => n, fun | 0 => 0 | 3 => 3 | 4 => 4 | 5 => 5 | 9 => 9 | 22 => 23 | 24 => 22 | 25 => 61 | 39 => 96 | 45 => 112 | 46 => 113 | 50 => 85 | 53 => 119 | 55 => 22 | 66 => 135 | 70 => 138 | 76 => 142 | 77 => 143 | n => n, fun | n => n⟩
theorem laysSF : Go.Proofs.SlLaysF.n6 Try.prog laysSF_ren := {
  mixed := by kernel_rfl
  f6 := ⟨"slices.SortFunc[[]uint64,uint64]", by kernel_rfl, Try.func37.trans (congrArg some (by kernel_rfl))⟩
  f14 := ⟨"slices.pdqsortCmpFunc[uint64]", by kernel_rfl, Try.func66.trans (congrArg some (by kernel_rfl))⟩
  f15 := Try.func67.trans (congrArg some (by kernel_rfl))
  f20 := ⟨"slices.insertionSortCmpFunc[uint64]", by kernel_rfl, Try.func91.trans (congrArg some (by kernel_rfl))⟩
  f21 := ⟨"slices.heapSortCmpFunc[uint64]", by kernel_rfl, Try.func92.trans (congrArg some (by kernel_rfl))⟩
  f22 := ⟨"slices.breakPatternsCmpFunc[uint64]", by kernel_rfl, Try.func93.trans (congrArg some (by kernel_rfl))⟩
  f23 := ⟨"slices.choosePivotCmpFunc[uint64]", by kernel_rfl, Try.func94.trans (congrArg some (by kernel_rfl))⟩
  f24 := ⟨"slices.reverseRangeCmpFunc[uint64]", by kernel_rfl, Try.func95.trans (congrArg some (by kernel_rfl))⟩
  f25 := ⟨"slices.partialInsertionSortCmpFunc[uint64]", by kernel_rfl, Try.func96.trans (congrArg some (by kernel_rfl))⟩
  f26 := ⟨"slices.partitionEqualCmpFunc[uint64]", by kernel_rfl, Try.func97.trans (congrArg some (by kernel_rfl))⟩
  f27 := ⟨"slices.partitionCmpFunc[uint64]", by kernel_rfl, Try.func98.trans (congrArg some (by kernel_rfl))⟩
  f28 := Try.func99.trans (congrArg some (by kernel_rfl))
  f29 := Try.func100.trans (congrArg some (by kernel_rfl))
  f46 := ⟨"slices.siftDownCmpFunc[uint64]", by kernel_rfl, Try.func121.trans (congrArg some (by kernel_rfl))⟩
  f47 := Try.func122.trans (congrArg some (by kernel_rfl))
  f48 := Try.func123.trans (congrArg some (by kernel_rfl))
  f49 := ⟨"slices.medianAdjacentCmpFunc[uint64]", by kernel_rfl, Try.func124.trans (congrArg some (by kernel_rfl))⟩
  f50 := ⟨"slices.medianCmpFunc[uint64]", by kernel_rfl, Try.func125.trans (congrArg some (by kernel_rfl))⟩
  f57 := ⟨"slices.order2CmpFunc[uint64]", by kernel_rfl, Try.func130.trans (congrArg some (by kernel_rfl))⟩
  t0 := Try.underlying0
  a0 := Try.isAgg0
  z0 := Try.sizeOf0
  v0 := Try.zeroValue0
  t3 := Try.underlying3
  a3 := Try.isAgg3
  z3 := Try.sizeOf3
  v3 := Try.zeroValue3
  t4 := Try.underlying4
  a4 := Try.isAgg4
  z4 := Try.sizeOf4
  v4 := Try.zeroValue4
  t5 := Try.underlying5
  a5 := Try.isAgg5
  z5 := Try.sizeOf5
  v5 := Try.zeroValue5
  t9 := Try.underlying9
  a9 := Try.isAgg9
  z9 := Try.sizeOf9
  v9 := Try.zeroValue9
  t22 := Try.underlying23
  a22 := Try.isAgg23
  z22 := Try.sizeOf23
  v22 := Try.zeroValue23
  a24 := Try.isAgg22
  z24 := Try.sizeOf22
  t25 := Try.underlying61
  a25 := Try.isAgg61
  z25 := Try.sizeOf61
  v25 := Try.zeroValue61
  t39 := Try.underlying96
  a39 := Try.isAgg96
  z39 := Try.sizeOf96
  v39 := Try.zeroValue96
  t45 := Try.underlying112
  a45 := Try.isAgg112
  z45 := Try.sizeOf112
  v45 := Try.zeroValue112
  t46 := Try.underlying113
  a46 := Try.isAgg113
  z46 := Try.sizeOf113
  v46 := Try.zeroValue113
  t50 := Try.underlying85
  a50 := Try.isAgg85
  z50 := Try.sizeOf85
  v50 := Try.zeroValue85
  t53 := Try.underlying119
  a53 := Try.isAgg119
  z53 := Try.sizeOf119
  v53 := Try.zeroValue119
  t55 := Try.underlying22
  a55 := Try.isAgg22
  z55 := Try.sizeOf22
  v55 := Try.zeroValue22
  t66 := Try.underlying135
  a66 := Try.isAgg135
  z66 := Try.sizeOf135
  v66 := Try.zeroValue135
  t70 := Try.underlying138
  a70 := Try.isAgg138
  z70 := Try.sizeOf138
  v70 := Try.zeroValue138
  t76 := Try.underlying142
  a76 := Try.isAgg142
  z76 := Try.sizeOf142
  v76 := Try.zeroValue142
  t77 := Try.underlying143
  a77 := Try.isAgg143
  z77 := Try.sizeOf143
  v77 := Try.zeroValue143 }

theorem isnan_u64 (a : Int) (w : World) : Calls Try.prog 68 #[.int .u64 a] w fun e w' => e = .returned (.bool false) ∧ w = w' := by
  have h : (a != a) = false := by simp
  go_enter Try.func68, Try.ntmps68
  go_wp2_with fail
  go_ret
  exact ⟨rfl, rfl⟩
def bcf (seed x y : BitVec 64) : Int := Go.Lib.compareInt (brank seed x : Nat) (brank seed y : Nat)
theorem cmpc_u64 (a b : Nat) (w : World) : Calls Try.prog 39 #[.int .u64 a, .int .u64 b] w fun e w' => e = .returned (.int .i64 (Go.Lib.compareInt (a : Nat) (b : Nat))) ∧ w = w' := by
  have H : Hid (Go.Lib.compareInt (a : Nat) (b : Nat) = if (a : Int) < (b : Int) then -1 else if (b : Int) < (a : Int) then 1 else 0) := rfl
  obtain ⟨r, hr⟩ : ∃ r, r = Go.Lib.compareInt (a : Nat) (b : Nat) := ⟨_, rfl⟩
  rw [← hr] at H ⊢
  clear hr
  rcases Nat.lt_trichotomy a b with h | h | h
  · have h1 : (a : Int) < (b : Int) := Int.ofNat_lt.2 h
    obtain rfl := H.out.trans (if_pos h1)
    clear H h
    go_enter Try.func39, Try.ntmps39
    go_wp2_with fail
    refine (isnan_u64 _ _).mono ?_
    rintro e w' ⟨rfl, rfl⟩
    go_wp2_with fail
    refine (isnan_u64 _ _).mono ?_
    rintro e w' ⟨rfl, rfl⟩
    go_wp2_with fail
    go_ret
    exact ⟨rfl, rfl⟩
  · have h1 : ¬ (a : Int) < (b : Int) := by omega
    have h2 : ¬ (b : Int) < (a : Int) := by omega
    obtain rfl := H.out.trans ((if_neg h1).trans (if_neg h2))
    clear H h
    go_enter Try.func39, Try.ntmps39
    go_wp2_with fail
    refine (isnan_u64 _ _).mono ?_
    rintro e w' ⟨rfl, rfl⟩
    go_wp2_with fail
    refine (isnan_u64 _ _).mono ?_
    rintro e w' ⟨rfl, rfl⟩
    go_wp2_with fail
    go_ret
    exact ⟨rfl, rfl⟩
  · have h1 : ¬ (a : Int) < (b : Int) := by omega
    have h2 : (b : Int) < (a : Int) := by omega
    obtain rfl := H.out.trans ((if_neg h1).trans (if_pos h2))
    clear H h
    go_enter Try.func39, Try.ntmps39
    go_wp2_with fail
    refine (isnan_u64 _ _).mono ?_
    rintro e w' ⟨rfl, rfl⟩
    go_wp2_with fail
    refine (isnan_u64 _ _).mono ?_
    rintro e w' ⟨rfl, rfl⟩
    go_wp2_with fail
    go_ret
    exact ⟨rfl, rfl⟩
set_option maxRecDepth 20000 in
set_option maxHeartbeats 4000000 in
theorem bcmp_any (seed x y : BitVec 64) (bx : Nat) (w : World) (hc : w.cell? ⟨bx, 0, none⟩ = some (W64 seed)) :
    Calls Try.prog 38 #[W64 x, W64 y, .pointer (some ⟨bx, 0, none⟩)] w fun e w' => e = .returned (.int .i64 (bcf seed x y)) ∧ ∃ q, w' = w.drewN q := by
  obtain ⟨rx, hrx⟩ : ∃ rx, rx = brank seed x := ⟨_, rfl⟩
  obtain ⟨ry, hry⟩ : ∃ ry, ry = brank seed y := ⟨_, rfl⟩
  obtain ⟨r, hr⟩ : ∃ r, r = bcf seed x y := ⟨_, rfl⟩
  have HX : Hid (∀ u, Calls Try.prog 40 #[W64 seed, W64 x] u fun e w' => e = .returned (.int .u64 (rx : Nat)) ∧ u = w') := fun u => by rw [hrx]; exact brk_any seed x u
  have HY : Hid (∀ u, Calls Try.prog 40 #[W64 seed, W64 y] u fun e w' => e = .returned (.int .u64 (ry : Nat)) ∧ u = w') := fun u => by rw [hry]; exact brk_any seed y u
  have HC : Hid (∀ u, Calls Try.prog 39 #[.int .u64 rx, .int .u64 ry] u fun e w' => e = .returned (.int .i64 r) ∧ u = w') := fun u => by rw [hr, hrx, hry]; exact cmpc_u64 _ _ u
  rw [← hr]
  clear hrx hry hr
  go_enter Try.func38, Try.ntmps38
  go_wp2_with fail
  refine wp_region_plan [(0, 1), (1, 0), (3, 1), (4, 0), (2, 2), (5, 2), (6, 2), (7, 0)] (fun w' => w'.cell? ⟨bx, 0, none⟩ = some (W64 seed)) (by kernel_rfl) (by kernel_rfl) (fun _ d _ _ _ h => by cases d <;> exact h) hc ?_
  iterate 4 ((first | (refine plan0 (v := ?_) rfl rfl (by rfl) ?_ ?_) | (refine plan1 (v := ?_) rfl rfl (by rfl) ?_ ?_)); rotate_left; (first | (intro w'; go_simp; with_reducible rfl) | (intro w' hS; go_simp; with_reducible rfl)); simp only [List.setIfInBounds_toArray, List.set_cons_zero, List.set_cons_succ])
  refine plan2 rfl rfl fun K' hK' => ?_
  go_simp
  refine (HX.out _).mono ?_
  rintro e w8 ⟨rfl, rfl⟩
  refine hK' _ _ hc ?_
  clear hK' K'
  refine plan2 rfl rfl fun K' hK' => ?_
  go_simp
  refine (HY.out _).mono ?_
  rintro e w9 ⟨rfl, rfl⟩
  refine hK' _ _ hc ?_
  clear hK' K'
  refine plan2 rfl rfl fun K' hK' => ?_
  go_simp
  refine (HC.out _).mono ?_
  rintro e w9 ⟨rfl, rfl⟩
  refine hK' _ _ hc ?_
  clear hK' K'
  iterate 1 ((refine plan0 (v := ?_) rfl rfl (by rfl) ?_ ?_); rotate_left; (intro w'; go_simp; with_reducible rfl); simp only [List.setIfInBounds_toArray, List.set_cons_zero, List.set_cons_succ])
  refine planEnd ?_
  clear hc
  go_wp2_with fail
  go_ret
  exact ⟨rfl, 1, rfl⟩
theorem bcf_lt (seed x y : BitVec 64) : ltOf (bcf seed) x y = decide (brank seed x < brank seed y) := by
  unfold ltOf bcf Go.Lib.compareInt
  by_cases h1 : (brank seed x : Int) < brank seed y
  · rw [if_pos h1]
    have := Int.ofNat_lt.1 h1
    simp [this]
  · have h1' : ¬ brank seed x < brank seed y := fun h => h1 (Int.ofNat_lt.2 h)
    rw [if_neg h1, decide_eq_false h1']
    split <;> simp
theorem bcf_swo (seed : BitVec 64) : SWO (ltOf (bcf seed)) where
  irrefl x := by rw [bcf_lt]; simp
  trans x y z h1 h2 := by rw [bcf_lt] at *; simp at *; omega
  ntrans x y z h1 h2 := by rw [bcf_lt] at *; simp at *; omega
theorem bcf_total (seed x y : BitVec 64) (h1 : ltOf (bcf seed) x y = false) (h2 : ltOf (bcf seed) y x = false) : x = y := by
  rw [bcf_lt] at h1 h2
  simp at h1 h2
  exact brank_inj seed x y (by omega)
end Go.Proofs.Ytkffakekakhgdaa
