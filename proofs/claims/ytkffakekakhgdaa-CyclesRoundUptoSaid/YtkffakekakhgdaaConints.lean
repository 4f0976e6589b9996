/- slices.Grow at no slice, slices.Concat, at []int: walked. Printed by congen.py. No condition but the slices' own size. -/
import Derived.Test.YtkffakekakhgdaaConV
import Derived.BigQuiet
namespace Go.Proofs.Ytkffakekakhgdaa
open Go.ChangeShapes Go.WideShapes Go.ChangeAt Go.RowKit
set_option linter.unusedVariables false

theorem cn64_ints {k : Nat} (h : k < 9223372036854775807) : wrap64 ((k : Int) + 1) = ((k + 1 : Nat) : Int) := by unfold wrap64; omega
set_option maxRecDepth 20000 in
set_option maxHeartbeats 2000000 in
theorem grow_ints (n : Nat) (w : World) (hn : n * 8 ≤ 140737488355328) :
    Calls Try.prog 89 #[.slice none 0 0, .int .i64 n] w fun e w' => ∃ v, e = .returned v ∧ Own w' w.heap.size 3 v [] ∧ Below w.heap.size w w' := by
  by_cases h0 : n = 0
  · subst h0
    go_enter Try.func89, Try.ntmps89
    go_wp2_with fail
    go_ret
    exact ⟨_, rfl, Own.none_, Below.refl _ _⟩
  · obtain ⟨ht, i, z, hi, hz, hsz, hby, hzs⟩ := elem_ints
    have hs0 : 0 < i.size := by omega
    have hrz : ∀ ty, (Builtin.append_ #[36, 3] ty #[.slice none 0 0, .int .i64 (n : Int)]).run Try.prog w =
        .ok (.slice (some ⟨w.heap.size, 0, none⟩) n (grownCap w n 0 3)) (w.drew.alloc (.cells (([] : List Value).toArray ++ Builtin.zeroCells z.cells n ++ Builtin.zeroCells z.cells (grownCap w n 0 3 - n)) 3)) := fun ty => by
      have h := Lib.run_append_grow_zeros w 36 3 ty 3 i z .i64 .i64 ht Try.underlying3 hi hz none 0 0 [] (run_firstCells_none w.drew i.size 0 0 0) n (by omega) hs0 (by omega) (by omega) (by rw [hby]; omega) (by rw [Nat.zero_add, hby]; exact growslice_fits (by omega) hn)
      rw [Nat.zero_add] at h
      exact h
    have hG1 : n ≤ grownCap w n 0 3 := grownCap_ge w _ _ _
    have hG2 : grownCap w n 0 3 ≤ maxLen := grownCap_le_maxLen w n 0 3 (by unfold maxLen; omega)
    obtain ⟨Gc, hGc⟩ : ∃ Gc, Gc = grownCap w n 0 3 := ⟨_, rfl⟩
    rw [← hGc] at hrz hG1 hG2
    have HOW := Lib.hid (own_zeros w.drew 3 z.cells n Gc hzs hG1 hG2)
    have HBW : Hid (Below w.heap.size w (w.drew.alloc (.cells (([] : List Value).toArray ++ Builtin.zeroCells z.cells n ++ Builtin.zeroCells z.cells (Gc - n)) 3))) := (Below.drew (Below.refl _ _)).alloc (Nat.le_refl _) _
    have h1 : ¬ (n : Int) < 0 := by omega
    have h2 : (0 : Int) < (n : Int) := by omega
    have h3 : wrap64 (n : Int) = (n : Int) := by unfold wrap64; omega
    have hg64 : Gc ≤ 9223372036854775807 := by unfold maxLen at hG2; omega
    have hrz2 : ∀ ty, (Builtin.append_ #[36, 3] ty #[.slice none 0 0, .int .i64 (wrap64 (n : Int))]).run Try.prog w =
        .ok (.slice (some ⟨w.heap.size, 0, none⟩) n Gc) (w.drew.alloc (.cells (([] : List Value).toArray ++ Builtin.zeroCells z.cells n ++ Builtin.zeroCells z.cells (Gc - n)) 3)) := by rw [h3]; exact hrz
    have HR := Lib.hid hrz2
    obtain ⟨wq, hwq⟩ : ∃ wq, wq = w.drew.alloc (.cells (([] : List Value).toArray ++ Builtin.zeroCells z.cells n ++ Builtin.zeroCells z.cells (Gc - n)) 3) := ⟨_, rfl⟩
    rw [← hwq] at HR HOW HBW
    clear hrz hrz2 hGc hG1 hG2 hn h0 hwq ht hi hz hsz hby hzs hs0
    go_enter Try.func89, Try.ntmps89
    go_wp2_with (first | (at_builtin; refine Lib.wpList_append_run _ rfl _ _ _ _ rfl _ _ rfl rfl _ _ (HR.out _) ?_) | fail)
    go_ret
    exact ⟨_, rfl, HOW.out, HBW.out⟩
set_option maxRecDepth 20000 in
set_option maxHeartbeats 4000000 in
theorem conc_ints (A : Option Addr) (l : List Vw) (c B : Nat) (w : World) (hl : VwsOk w B A l) (hB : B ≤ w.heap.size) (hm : l.length ≤ 9223372036854775807) (hs : vlen l l.length * 8 ≤ 140737488355328) :
    Calls Try.prog 60 #[.slice A l.length c] w fun e w' => ∃ v, e = .returned v ∧ Own w' w.heap.size 3 v (vall l l.length) ∧ Below w.heap.size w w' := by
  have HL := Lib.hid hl
  have HS := Lib.hid (And.intro hs (And.intro hm hB))
  clear hl hs hm hB
  go_enter Try.func60, Try.ntmps60
  go_wp2_with fail
  go_loopw [3, 11] (fun s3 s11 wx => ∃ k : Nat, k ≤ l.length ∧ s11 = .int .i64 k ∧ s3 = .int .i64 (vlen l k : Nat) ∧ wx = w) (fun _ s11 _ => l.length - (intOf s11).toNat)
  case atStart => exact ⟨0, Nat.zero_le _, rfl, rfl, by first | rfl | trivial⟩
  case round =>
    obtain ⟨k, hk, rfl, rfl, hw⟩ := hrel
    have hw2 := hw.symm
    subst hw2
    clear hw
    by_cases hkl : k < l.length
    · have i1 : (k : Int) < (l.length : Int) := by omega
      obtain ⟨ad, rfl, _, hc, _⟩ := HL.out.row hkl
      have hv : vlen l (k + 1) = vlen l k + (l.getD k (none, [], 0)).2.1.length := rfl
      have hmo := vlen_mono l (i := k + 1) (j := l.length) (by omega)
      have uk : Hid (wrap64 ((k : Int) + 1) = ((k + 1 : Nat) : Int)) := cn64_ints (by have := HS.out.2.1; omega)
      have HK := Lib.hid (And.intro hk hkl)
      obtain ⟨⟨A1, xs, c1⟩, hx⟩ : ∃ x : Vw, x = l.getD k (none, [], 0) := ⟨_, rfl⟩
      rw [← hx] at hc hv
      have hc' : w.cell? (ad.add k) = some (.slice A1 xs.length c1) := hc
      have us : wrap64 ((vlen l k : Int) + (xs.length : Int)) = ((vlen l (k + 1) : Nat) : Int) := by
        rw [hv]
        have := HS.out.1
        have h2 : vlen l k + xs.length = vlen l (k + 1) := hv.symm
        show wrap64 _ = ((vlen l k + xs.length : Nat) : Int)
        unfold wrap64; omega
      obtain ⟨s1, hs1⟩ : ∃ s1, s1 = vlen l (k + 1) := ⟨_, rfl⟩
      rw [← hs1] at us
      have HS1 := Lib.hid hs1
      have i2 : ¬ (s1 : Int) < 0 := by omega
      generalize vlen l k = s at us ⊢
      clear hc hx hv hmo hs1 hk hkl
      go_wp2_with fail
      go_roundw
      case rel => exact ⟨k + 1, by have := HK.out; omega, by first | rfl | rw [uk.out], by first | (rw [us, HS1.out]) | rw [HS1.out], by first | rfl | trivial⟩
      case measure => (try rw [uk.out]); have := HK.out; simp [intOf]; omega
    · obtain rfl : k = l.length := by omega
      have HG := Lib.hid (grow_ints (vlen l l.length) w (by have := HS.out.1; omega))
      clear hk hkl
      go_wp2_with fail
      refine HG.out.mono ?_
      rintro e w1 ⟨v1, rfl, ho1, hb1⟩
      have HO1 := Lib.hid ho1
      have HB1 := Lib.hid hb1
      have HL1 := Lib.hid (HL.out.below (hb1.mono HS.out.2.2))
      clear ho1 hb1
      go_wp2_with fail
      go_loopw [6, 27] (fun s6 s27 wx => ∃ k : Nat, k ≤ l.length ∧ s27 = .int .i64 k ∧ Hid (Own wx w.heap.size 3 s6 (vall l k)) ∧ Hid (Below w.heap.size w wx)) (fun _ s27 _ => l.length - (intOf s27).toNat)
      case atStart => exact ⟨0, Nat.zero_le _, rfl, HO1.out, HB1.out⟩
      case round =>
        obtain ⟨k, hk, rfl, hown, hb⟩ := hrel
        obtain ⟨A6, c6, rfl, hc6, hown6⟩ := hown.out.res2
        by_cases hkl : k < l.length
        · have i1 : (k : Int) < (l.length : Int) := by omega
          have HLW := Lib.hid (HL.out.below (hb.out.mono HS.out.2.2))
          obtain ⟨ad, rfl, _, hc, hsg, hone⟩ := HLW.out.row hkl
          have hv : vlen l (k + 1) = vlen l k + (l.getD k (none, [], 0)).2.1.length := rfl
          have hva : vall l (k + 1) = vall l k ++ (l.getD k (none, [], 0)).2.1 := rfl
          have hmo := vlen_mono l (i := k + 1) (j := l.length) (by omega)
          have hvl := vall_len l k
          have uk : Hid (wrap64 ((k : Int) + 1) = ((k + 1 : Nat) : Int)) := cn64_ints (by have := HS.out.2.1; omega)
          have HK := Lib.hid (And.intro hk hkl)
          obtain ⟨⟨A1, xs, c1⟩, hx⟩ : ∃ x : Vw, x = l.getD k (none, [], 0) := ⟨_, rfl⟩
          rw [← hx] at hc hv hsg hone hva
          have hc' : wr.cell? (ad.add k) = some (.slice A1 xs.length c1) := hc
          have HSG : Hid (Seg wr B A1 xs) := hsg
          have HON : Hid (∀ u ∈ xs, u.oneCell' = true) := hone
          have HVA : Hid (vall l (k + 1) = vall l k ++ xs) := hva
          have hv' : vlen l (k + 1) = vlen l k + xs.length := hv
          have HMX : Hid ((vall l k).length + xs.length ≤ maxLen ∧ ((vall l k).length + xs.length) * 8 ≤ 140737488355328) := by
            have h1 := HS.out.1
            rw [hvl, ← hv']
            unfold Hid maxLen; omega
          have HOK := Lib.hid hown6
          obtain ⟨V, hV⟩ : ∃ V, V = vall l k := ⟨_, rfl⟩
          rw [← hV] at HOK HMX HVA ⊢
          clear hc hx hv hmo hsg hone hva hvl hv' hown6 hc6 hown hV hk hkl
          go_wp2_with (first
            | (at_builtin; go_must (refine wpList_append_seg _ rfl _ _ elem_ints rfl w.heap.size _ V rfl HOK.out c1 rfl rfl HSG.out HON.out HMX.out.1 HMX.out.2 hb.out.size ?_); intro v7 w7 hown7 hg7 hv7; have HO7 := Lib.hid hown7; have HG7 := Lib.hid hg7; clear hown7 hg7 hv7)
            | fail)
          have HB7 : Hid (Below w.heap.size w w7) := Below.grown hb.out HG7.out hb.out.size HOK.out.block
          go_roundw
          case rel => exact ⟨k + 1, by have := HK.out; omega, by first | rfl | rw [uk.out], by unfold Hid; rw [HVA.out]; exact HO7.out, HB7⟩
          case measure => (try rw [uk.out]); have := HK.out; simp [intOf]; omega
        · obtain rfl : k = l.length := by omega
          have HOK := Lib.hid hown6
          clear hk hkl hown hown6 hc6
          go_wp2_with fail
          go_ret
          exact ⟨_, rfl, HOK.out, hb.out⟩
end Go.Proofs.Ytkffakekakhgdaa
