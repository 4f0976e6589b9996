/- Draws by places and levels: the reference's find, walked at both tests. Printed by aligen.py. No condition. -/
import Derived.Test.YtmcbkjepjijfjaaAliQ
namespace Go.Proofs.Ytmcbkjepjijfjaa
open Go.ChangeShapes Go.WideShapes Go.ChangeAt Go.RowKit
set_option linter.unusedVariables false

set_option maxRecDepth 20000 in
set_option maxHeartbeats 2000000 in
theorem find_low (L V T : Nat → Int) (D : Nat → Bool) (S : Int) (n cap g gl gs : Nat) (w : World) (hn : n ≤ 400) (hq : QRow w g n L V T D) (hl : Blk w gl 85 #[.slice (some ⟨g, 0, none⟩) n cap]) (hs : Blk w gs 3 #[.int .i64 S]) :
    Calls Try.prog 77 #[.func (.func 78) #[] #[.pointer (some ⟨gs, 0, none⟩)], .pointer (some ⟨gl, 0, none⟩)] w fun e w' => e = .returned (.int .i64 (lowf (fun k => D k && decide (L k < S)) n)) ∧ Below w.heap.size w w' := by
  have HQ := Lib.hid hq
  have HS := Lib.hid hs
  have hc := hl.cell 0 rfl
  have HGS := Lib.hid hs.lt
  have HGQ := Lib.hid hq.lt
  have h0 : 0 < n ∨ n = 0 := by omega
  clear hq hs hl h0
  go_enter Try.func77, Try.ntmps77
  go_wp2_with fail
  clear hc
  go_loopw [8] (fun s8 wr => ∃ k : Nat, k ≤ n ∧ s8 = .int .i64 k ∧ Hid (lowf (fun k => D k && decide (L k < S)) k < 0) ∧ Below w.heap.size w wr) (fun s8 _ => n - (intOf s8).toNat)
  case atStart => exact ⟨0, Nat.zero_le _, rfl, by show (-1 : Int) < 0; omega, Below.refl _ _⟩
  case round =>
    obtain ⟨k, hk, rfl, hlo, hbel⟩ := hrel
    have HB := Lib.hid hbel
    clear hbel
    by_cases hlt : k < n
    · have i1 : (k : Int) < (n : Int) := by omega
      have HQ2 := Lib.hid (HQ.out.below HB.out HGQ.out)
      have HSB := Lib.hid (HS.out.below HB.out HGS.out)
      have c0 := HQ2.out.c0 hlt
      have c1 := HQ2.out.c1 hlt
      have c2 := HQ2.out.c2 hlt
      have c3 := HQ2.out.c3 hlt
      have HSTEP : Hid (lowf (fun k => D k && decide (L k < S)) (k + 1) = if (D k && decide (L k < S)) = true then (k : Int) else lowf (fun k => D k && decide (L k < S)) k) := by
        unfold Hid
        rw [lowf]
        by_cases h : (D k && decide (L k < S)) = true
        · rw [if_pos ⟨hlo.out, h⟩, if_pos h]
        · rw [if_neg (fun h2 => h h2.2), if_neg h]
      have HHIT : Hid ((D k && decide (L k < S)) = true → lowf (fun k => D k && decide (L k < S)) n = k) := fun h => lowf_hit hlo.out h n hlt
      have HLE : Hid (w.heap.size ≤ wr.heap.size) := HB.out.size
      have hwc : (∀ y z o u, Blk u gs 3 #[.int .i64 S] → Calls Try.prog 78 #[.agg #[.int .i64 (L k), .int .i64 y, .int .i64 z, .bool o], .pointer (some ⟨gs, 0, none⟩)] u fun e w' => e = .returned (.bool (decide (L k < S))) ∧ Below u.heap.size u w') := fun y z o u h => low_any (L k) y z S o gs u h
      generalize L k = x at *
      generalize V k = y at *
      generalize T k = z at *
      generalize D k = d at *
      cases d with
      | false =>
        clear hwc
        have HE : Hid (lowf (fun k => D k && decide (L k < S)) (k + 1) < 0) := by unfold Hid; rw [HSTEP.out, if_neg (by simp)]; exact hlo.out
        go_wp2_with fail
        go_roundw
        case rel => exact ⟨k + 1, by omega, by go_num, HE, HB.out.alloc HLE.out _⟩
        case measure => simp [intOf]; omega
      | true =>
        have HBA : Hid (Below w.heap.size w (wr.alloc (.cells #[.int .i64 x, .int .i64 y, .int .i64 z, .bool true] 87))) := HB.out.alloc HLE.out _
        by_cases ht : x < S
        · have HR : Hid (lowf (fun k => D k && decide (L k < S)) n = k) := HHIT.out (by rw [decide_eq_true ht]; rfl)
          have ht2 : decide (x < S) = true := decide_eq_true ht
          rw [ht2] at hwc
          have HWC := Lib.hid hwc
          clear hwc ht ht2
          go_wp2_with fail
          refine (HWC.out y z true _ (HSB.out.alloc _)).mono ?_
          rintro e w2 ⟨rfl, hb⟩
          have HB2 := Lib.hid (HBA.out.trans (hb.mono (by simp; have := HLE.out; omega)))
          clear hb
          go_wp2_with fail
          go_ret
          exact ⟨by rw [HR.out]; rfl, HB2.out⟩
        · have HE : Hid (lowf (fun k => D k && decide (L k < S)) (k + 1) < 0) := by unfold Hid; rw [HSTEP.out, if_neg (by simpa using ht)]; exact hlo.out
          have ht2 : decide (x < S) = false := decide_eq_false ht
          rw [ht2] at hwc
          have HWC := Lib.hid hwc
          clear hwc ht ht2
          go_wp2_with fail
          refine (HWC.out y z true _ (HSB.out.alloc _)).mono ?_
          rintro e w2 ⟨rfl, hb⟩
          have HB2 := Lib.hid (HBA.out.trans (hb.mono (by simp; have := HLE.out; omega)))
          clear hb
          go_wp2_with fail
          go_roundw
          case rel => exact ⟨k + 1, by omega, by go_num, HE, HB2.out⟩
          case measure => simp [intOf]; omega
    · have i1 : ¬ (k : Int) < (n : Int) := by omega
      obtain rfl : k = n := by omega
      have HE : Hid (lowf (fun k => D k && decide (L k < S)) k = -1) := lowf_neg _ hlo.out
      go_wp2_with fail
      go_ret
      exact ⟨by rw [HE.out]; rfl, HB.out⟩
set_option maxRecDepth 20000 in
set_option maxHeartbeats 2000000 in
theorem find_high (L V T : Nat → Int) (D : Nat → Bool) (S : Int) (n cap g gl gs : Nat) (w : World) (hn : n ≤ 400) (hq : QRow w g n L V T D) (hl : Blk w gl 85 #[.slice (some ⟨g, 0, none⟩) n cap]) (hs : Blk w gs 3 #[.int .i64 S]) :
    Calls Try.prog 77 #[.func (.func 79) #[] #[.pointer (some ⟨gs, 0, none⟩)], .pointer (some ⟨gl, 0, none⟩)] w fun e w' => e = .returned (.int .i64 (lowf (fun k => D k && decide (S < L k)) n)) ∧ Below w.heap.size w w' := by
  have HQ := Lib.hid hq
  have HS := Lib.hid hs
  have hc := hl.cell 0 rfl
  have HGS := Lib.hid hs.lt
  have HGQ := Lib.hid hq.lt
  have h0 : 0 < n ∨ n = 0 := by omega
  clear hq hs hl h0
  go_enter Try.func77, Try.ntmps77
  go_wp2_with fail
  clear hc
  go_loopw [8] (fun s8 wr => ∃ k : Nat, k ≤ n ∧ s8 = .int .i64 k ∧ Hid (lowf (fun k => D k && decide (S < L k)) k < 0) ∧ Below w.heap.size w wr) (fun s8 _ => n - (intOf s8).toNat)
  case atStart => exact ⟨0, Nat.zero_le _, rfl, by show (-1 : Int) < 0; omega, Below.refl _ _⟩
  case round =>
    obtain ⟨k, hk, rfl, hlo, hbel⟩ := hrel
    have HB := Lib.hid hbel
    clear hbel
    by_cases hlt : k < n
    · have i1 : (k : Int) < (n : Int) := by omega
      have HQ2 := Lib.hid (HQ.out.below HB.out HGQ.out)
      have HSB := Lib.hid (HS.out.below HB.out HGS.out)
      have c0 := HQ2.out.c0 hlt
      have c1 := HQ2.out.c1 hlt
      have c2 := HQ2.out.c2 hlt
      have c3 := HQ2.out.c3 hlt
      have HSTEP : Hid (lowf (fun k => D k && decide (S < L k)) (k + 1) = if (D k && decide (S < L k)) = true then (k : Int) else lowf (fun k => D k && decide (S < L k)) k) := by
        unfold Hid
        rw [lowf]
        by_cases h : (D k && decide (S < L k)) = true
        · rw [if_pos ⟨hlo.out, h⟩, if_pos h]
        · rw [if_neg (fun h2 => h h2.2), if_neg h]
      have HHIT : Hid ((D k && decide (S < L k)) = true → lowf (fun k => D k && decide (S < L k)) n = k) := fun h => lowf_hit hlo.out h n hlt
      have HLE : Hid (w.heap.size ≤ wr.heap.size) := HB.out.size
      have hwc : (∀ y z o u, Blk u gs 3 #[.int .i64 S] → Calls Try.prog 79 #[.agg #[.int .i64 (L k), .int .i64 y, .int .i64 z, .bool o], .pointer (some ⟨gs, 0, none⟩)] u fun e w' => e = .returned (.bool (decide (S < L k))) ∧ Below u.heap.size u w') := fun y z o u h => high_any (L k) y z S o gs u h
      generalize L k = x at *
      generalize V k = y at *
      generalize T k = z at *
      generalize D k = d at *
      cases d with
      | false =>
        clear hwc
        have HE : Hid (lowf (fun k => D k && decide (S < L k)) (k + 1) < 0) := by unfold Hid; rw [HSTEP.out, if_neg (by simp)]; exact hlo.out
        go_wp2_with fail
        go_roundw
        case rel => exact ⟨k + 1, by omega, by go_num, HE, HB.out.alloc HLE.out _⟩
        case measure => simp [intOf]; omega
      | true =>
        have HBA : Hid (Below w.heap.size w (wr.alloc (.cells #[.int .i64 x, .int .i64 y, .int .i64 z, .bool true] 87))) := HB.out.alloc HLE.out _
        by_cases ht : S < x
        · have HR : Hid (lowf (fun k => D k && decide (S < L k)) n = k) := HHIT.out (by rw [decide_eq_true ht]; rfl)
          have ht2 : decide (S < x) = true := decide_eq_true ht
          rw [ht2] at hwc
          have HWC := Lib.hid hwc
          clear hwc ht ht2
          go_wp2_with fail
          refine (HWC.out y z true _ (HSB.out.alloc _)).mono ?_
          rintro e w2 ⟨rfl, hb⟩
          have HB2 := Lib.hid (HBA.out.trans (hb.mono (by simp; have := HLE.out; omega)))
          clear hb
          go_wp2_with fail
          go_ret
          exact ⟨by rw [HR.out]; rfl, HB2.out⟩
        · have HE : Hid (lowf (fun k => D k && decide (S < L k)) (k + 1) < 0) := by unfold Hid; rw [HSTEP.out, if_neg (by simpa using ht)]; exact hlo.out
          have ht2 : decide (S < x) = false := decide_eq_false ht
          rw [ht2] at hwc
          have HWC := Lib.hid hwc
          clear hwc ht ht2
          go_wp2_with fail
          refine (HWC.out y z true _ (HSB.out.alloc _)).mono ?_
          rintro e w2 ⟨rfl, hb⟩
          have HB2 := Lib.hid (HBA.out.trans (hb.mono (by simp; have := HLE.out; omega)))
          clear hb
          go_wp2_with fail
          go_roundw
          case rel => exact ⟨k + 1, by omega, by go_num, HE, HB2.out⟩
          case measure => simp [intOf]; omega
    · have i1 : ¬ (k : Int) < (n : Int) := by omega
      obtain rfl : k = n := by omega
      have HE : Hid (lowf (fun k => D k && decide (S < L k)) k = -1) := lowf_neg _ hlo.out
      go_wp2_with fail
      go_ret
      exact ⟨by rw [HE.out]; rfl, HB.out⟩
end Go.Proofs.Ytmcbkjepjijfjaa
