/- Sums by a tree: all sums, whose part a number is in, walked. No condition. -/
import Derived.Test.YtmcbkjepjijfjaaFenB
namespace Go.Proofs.Ytmcbkjepjijfjaa
open Go.ChangeShapes Go.WideShapes Go.ChangeAt Go.RowKit
set_option linter.unusedVariables false

theorem topk_eq {l : List Int} {n : Int} {k : Nat} (hmo : ∀ i j, i ≤ j → j ≤ l.length → pre l i ≤ pre l j) (h1 : pre l k ≤ n) (h2 : n < pre l (k + 1)) : ∀ j, k < j → j ≤ l.length → topk l n j = k := by
  intro j
  induction j with
  | zero => intro h; omega
  | succ j ih =>
    intro hk hj
    rw [topk]
    by_cases e : j = k
    · subst e; rw [if_pos h1]
    · have := hmo (k + 1) j (by omega) (by omega)
      rw [if_neg (by omega)]
      exact ih (by omega) (by omega)
theorem wok_mono {l : List Int} (h : wokB l = true) : ∀ i j, i ≤ j → j ≤ l.length → pre l i ≤ pre l j := fun i j hij hj => pre_mono (fun k hk => ((wok_at h).2 k hk).1) hij hj
def sumsL (l : List Int) : List Int := if wokB l = true then tab (pre l) (l.length + 1) else []
def sumsE (l : List Int) : Int := if wokB l = true then 0 else 2
set_option maxRecDepth 20000 in
set_option maxHeartbeats 2000000 in
theorem sums_any (l : List Int) (A : Option Addr) (c : Nat) (w : World) (hs : Seg w w.heap.size A (l.map (.int .i64))) (hm : l.length ≤ 9223372036854775807) :
    Calls Try.prog 57 #[.slice A l.length c] w fun e w' => SOut w w' e (sumsL l) (sumsE l) := by
  have HS := Lib.hid hs
  have hw := fwrong_any l A c w hs hm
  cases hg : wokB l with
  | false =>
    rw [hg] at hw
    have HW := Lib.hid hw
    have HL : Hid (sumsL l = [] ∧ sumsE l = 2) := by unfold sumsL sumsE Hid; rw [hg]; exact ⟨rfl, rfl⟩
    clear hw hg hs
    go_enter Try.func57, Try.ntmps57
    go_wp2_with fail
    refine HW.out.mono ?_
    rintro e w' ⟨rfl, rfl⟩
    go_wp2_with fail
    go_ret2
    rw [HL.out.1, HL.out.2]
    exact SOut.nil_ (Below.refl _ _)
  | true =>
    rw [hg] at hw
    have HW := Lib.hid hw
    have HL : Hid (sumsL l = tab (pre l) (l.length + 1) ∧ sumsE l = 0) := by unfold sumsL sumsE Hid; rw [hg]; exact ⟨rfl, rfl⟩
    have HBU := Lib.hid (build_any l A c w hs hg)
    have hl := (wok_at hg).1
    clear hw hg hs
    go_enter Try.func57, Try.ntmps57
    go_wp2_with fail
    refine HW.out.mono ?_
    rintro e w' ⟨rfl, rfl⟩
    go_wp2_with fail
    refine HBU.out.mono ?_
    rintro e w1 ⟨rfl, ⟨T, ht, hrow⟩, hb⟩
    have HT := Lib.hid ht
    have HR := Lib.hid hrow
    have HB1 := Lib.hid hb
    have HLT := Lib.hid hrow.lt
    have HSU : Hid (∀ (k : Nat) (u : World), k ≤ l.length → u.rowIs w.heap.size 3 (l.length + 1) (fun i => .int .i64 (T i)) → Calls Try.prog 87 #[.slice (some ⟨w.heap.size, 0, none⟩) (l.length + 1 : Nat) (l.length + 1 : Nat), .int .i64 k] u fun e w' => e = .returned (.int .i64 (pre l k)) ∧ u = w') := fun k u h1 h2 => tsum_any (pre l) T l.length k w.heap.size u hl h1 h2 HT.out
    obtain ⟨M, hM⟩ : ∃ M, l.length + 1 = M := ⟨_, rfl⟩
    have i0 : (l.length : Int) + 1 = (M : Int) := by omega
    have hM20 : M ≤ 401 := by omega
    rw [hM] at HSU HR HL
    have HM := Lib.hid hM
    rw [hM]
    clear ht hrow hb hM
    go_wp2_with fail
    clear i0
    go_loopw [5, 14] (fun s5 s14 wr => ∃ k : Nat, k ≤ M ∧ s14 = .int .i64 k ∧ Own wr w1.heap.size 3 s5 ((tab (pre l) k).map (.int .i64)) ∧ Below w1.heap.size w1 wr) (fun _ s14 _ => M - (intOf s14).toNat)
    case atStart => exact ⟨0, Nat.zero_le _, rfl, Own.none_, Below.refl _ _⟩
    case round =>
      obtain ⟨k, hk, rfl, hown, hbel⟩ := hrel
      have HOW := Lib.hid hown
      have HB := Lib.hid hbel
      have HSZ := Lib.hid hbel.size
      clear hown hbel
      by_cases hlt : k < M
      · have i2 : (k : Int) < (M : Int) := by omega
        have HC := Lib.hid (HSU.out k wr (by have := HM.out; omega) (rowIs_below HR.out HB.out HLT.out))
        have HTS := Lib.hid (tab_succ (pre l) k)
        generalize pre l k = x at *
        go_wp2_with (first
          | (go_at_call 87; refine HC.out.mono ?_; rintro e w' ⟨rfl, rfl⟩)
          | (at_builtin; go_must (refine wpList_push _ rfl _ _ 22 3 8 elem_ints rfl w1.heap.size _ _ rfl (Own.alloc' HOW.out _) (.int .i64 x) ⟨wr.heap.size, 0, none⟩ 1 rfl (cell_new1 _ _ _) rfl (by rw [List.length_map, tab_len]; omega) (by rw [List.length_map, tab_len]; unfold maxLen; omega) (by simp; exact Nat.le_succ_of_le HSZ.out) ?_); intro v3 w3 hown3 hbel3; have HO3 := Lib.hid hown3; have HB3 := Lib.hid hbel3; clear hown3 hbel3)
          | fail)
        go_roundw
        case rel =>
          refine ⟨k + 1, by omega, by go_num, ?_, (HB.out.alloc HSZ.out _).trans HB3.out⟩
          have h := HO3.out
          rw [HTS.out, List.map_append]; exact h
        case measure => simp [intOf]; omega
      · have i2 : ¬ (k : Int) < (M : Int) := by omega
        obtain rfl : k = M := by omega
        obtain ⟨A9, c9, rfl, hc9, hsg⟩ := HOW.out.res
        have HW9 := Lib.hid hsg
        have HC9 := Lib.hid hc9
        clear hsg hc9
        go_wp2_with fail
        go_ret2
        rw [HL.out.1, HL.out.2]
        have h2 := HC9.out
        rw [List.length_map] at h2
        exact ⟨A9, c9, rfl, h2, HW9.out, HB1.out.trans (HB.out.mono HB1.out.size)⟩
set_option maxRecDepth 20000 in
set_option maxHeartbeats 2000000 in
theorem pick_any (l : List Int) (n : Int) (A : Option Addr) (c : Nat) (w : World) (hs : Seg w w.heap.size A (l.map (.int .i64))) (hm : l.length ≤ 9223372036854775807) :
    Calls Try.prog 58 #[.slice A l.length c, .int .i64 n] w fun e w' => e = .returned (.tuple #[.int .i64 (pickR l n).1, .int .i64 (pickR l n).2]) ∧ Below w.heap.size w w' := by
  have HS := Lib.hid hs
  have hw := fwrong_any l A c w hs hm
  cases hg : wokB l with
  | false =>
    rw [hg] at hw
    have HW := Lib.hid hw
    have HL : Hid (pickR l n = (0, 2)) := by unfold pickR Hid; rw [hg]; rfl
    clear hw hg hs
    go_enter Try.func58, Try.ntmps58
    go_wp2_with fail
    refine HW.out.mono ?_
    rintro e w' ⟨rfl, rfl⟩
    go_wp2_with fail
    go_ret2
    rw [HL.out]
    exact ⟨rfl, Below.refl _ _⟩
  | true =>
    rw [hg] at hw
    have HW := Lib.hid hw
    have HBU := Lib.hid (build_any l A c w hs hg)
    have hl := (wok_at hg).1
    have HMO := Lib.hid (wok_mono hg)
    have HN3 : Hid (n < 0 ∨ pre l l.length ≤ n → pickR l n = (0, 3)) := fun h => by unfold pickR; rw [if_pos hg, if_pos h]
    have HN0 : Hid (¬ (n < 0 ∨ pre l l.length ≤ n) → pickR l n = (((topk l n l.length : Nat) : Int), 0)) := fun h => by unfold pickR; rw [if_pos hg, if_neg h]
    have HPL := Lib.hid (pre_le hg (Nat.le_refl _))
    clear hw hg hs
    by_cases hneg : n < 0
    · have HR3 := Lib.hid (HN3.out (.inl hneg))
      go_enter Try.func58, Try.ntmps58
      go_wp2_with fail
      refine HW.out.mono ?_
      rintro e w' ⟨rfl, rfl⟩
      go_wp2_with fail
      refine HBU.out.mono ?_
      rintro e w1 ⟨rfl, _, hb⟩
      have HB1 := Lib.hid hb
      clear hb
      go_wp2_with fail
      go_ret2
      rw [HR3.out]
      exact ⟨rfl, HB1.out⟩
    · go_enter Try.func58, Try.ntmps58
      go_wp2_with fail
      refine HW.out.mono ?_
      rintro e w' ⟨rfl, rfl⟩
      go_wp2_with fail
      refine HBU.out.mono ?_
      rintro e w1 ⟨rfl, ⟨T, ht, hrow⟩, hb⟩
      have HB1 := Lib.hid hb
      have HSU := Lib.hid (tsum_any (pre l) T l.length l.length w.heap.size w1 hl (Nat.le_refl _) hrow ht)
      have HFI : Hid (∀ k, k < l.length → pre l k ≤ n → n < pre l (k + 1) → Calls Try.prog 88 #[.slice (some ⟨w.heap.size, 0, none⟩) (l.length + 1 : Nat) (l.length + 1 : Nat), .int .i64 n] w1 fun e w' => e = .returned (.int .i64 k) ∧ w1 = w') := fun k h1 h2 h3 => tfind_any (pre l) T l.length k w.heap.size n w1 hl h1 hrow ht HMO.out h2 h3
      clear ht hrow hb
      have i1 : ¬ n < 0 := by omega
      by_cases hge : pre l l.length ≤ n
      · have HR3 := Lib.hid (HN3.out (.inr hge))
        generalize pre l l.length = s at *
        generalize l.length + 1 = M at *
        go_wp2_with fail
        refine HSU.out.mono ?_
        rintro e w' ⟨rfl, rfl⟩
        go_wp2_with fail
        go_ret2
        rw [HR3.out]
        exact ⟨rfl, HB1.out⟩
      · have HR3 := Lib.hid (HN0.out (by omega))
        have htk := topk_ok (l := l) (n := n) (by omega) l.length (by omega)
        have HF := Lib.hid (HFI.out _ htk.1 htk.2.1 htk.2.2)
        clear htk HFI
        generalize topk l n l.length = k at *
        generalize pre l l.length = s at *
        generalize l.length + 1 = M at *
        go_wp2_with fail
        refine HSU.out.mono ?_
        rintro e w' ⟨rfl, rfl⟩
        go_wp2_with fail
        refine HF.out.mono ?_
        rintro e w' ⟨rfl, rfl⟩
        go_wp2_with fail
        go_ret2
        rw [HR3.out]
        exact ⟨rfl, HB1.out⟩
set_option maxRecDepth 20000 in
set_option maxHeartbeats 2000000 in
theorem ipick_any (l : List Int) (n : Int) (A : Option Addr) (c : Nat) (w : World) (hs : Seg w w.heap.size A (l.map (.int .i64))) (hm : l.length ≤ 9223372036854775807) (hn : n ≤ 9223372036854775807) :
    Calls Try.prog 59 #[.slice A l.length c, .int .i64 n] w fun e w' => e = .returned (.tuple #[.int .i64 (pickR l n).1, .int .i64 (pickR l n).2]) ∧ w = w' := by
  have HS := Lib.hid hs
  have hw := iwrong_any l A c w hs hm
  cases hg : wokB l with
  | false =>
    rw [hg] at hw
    have HW := Lib.hid hw
    have HL : Hid (pickR l n = (0, 2)) := by unfold pickR Hid; rw [hg]; rfl
    clear hw hg hs
    go_enter Try.func59, Try.ntmps59
    go_wp2_with fail
    refine HW.out.mono ?_
    rintro e w' ⟨rfl, rfl⟩
    go_wp2_with fail
    go_ret2
    rw [HL.out]
    exact ⟨rfl, rfl⟩
  | true =>
    rw [hg] at hw
    have HW := Lib.hid hw
    have hl := (wok_at hg).1
    have HMO := Lib.hid (wok_mono hg)
    have HWA := Lib.hid (wok_at hg).2
    have HN3 : Hid (n < 0 ∨ pre l l.length ≤ n → pickR l n = (0, 3)) := fun h => by unfold pickR; rw [if_pos hg, if_pos h]
    have HN0 : Hid (¬ (n < 0 ∨ pre l l.length ≤ n) → pickR l n = (((topk l n l.length : Nat) : Int), 0)) := fun h => by unfold pickR; rw [if_pos hg, if_neg h]
    have HPL : Hid (∀ i, i ≤ l.length → 0 ≤ pre l i ∧ pre l i ≤ 429496729600) := fun i hi => pre_le hg hi
    clear hw hg hs
    by_cases hneg : n < 0
    · have HR3 := Lib.hid (HN3.out (.inl hneg))
      go_enter Try.func59, Try.ntmps59
      go_wp2_with fail
      refine HW.out.mono ?_
      rintro e w' ⟨rfl, rfl⟩
      go_wp2_with fail
      go_ret2
      rw [HR3.out]
      exact ⟨rfl, rfl⟩
    · have i1 : ¬ n < 0 := by omega
      go_enter Try.func59, Try.ntmps59
      go_wp2_with fail
      refine HW.out.mono ?_
      rintro e w' ⟨rfl, rfl⟩
      go_wp2_with fail
      go_loop [1, 14] (fun s1 s14 => ∃ k : Nat, k ≤ l.length ∧ s14 = .int .i64 k ∧ s1 = .int .i64 (n - pre l k) ∧ pre l k ≤ n) (fun _ s14 => l.length - (intOf s14).toNat)
      case atStart => exact ⟨0, Nat.zero_le _, rfl, by rw [pre, Int.sub_zero], by rw [pre]; omega⟩
      case round =>
        obtain ⟨k, hk, rfl, rfl, hpk⟩ := hrel
        by_cases hlt : k < l.length
        · have i2 : (k : Int) < (l.length : Int) := by omega
          obtain ⟨ad, rfl, _, hcell⟩ := HS.out.pat hlt
          have hx := HWA.out k hlt
          have hp0 := HPL.out k hk
          have HTK : Hid (n < pre l (k + 1) → pickR l n = (((k : Nat) : Int), 0)) := fun h => by
            have h1 := HMO.out (k + 1) l.length hlt (Nat.le_refl _)
            rw [HN0.out (by omega), topk_eq HMO.out hpk h l.length hlt (Nat.le_refl _)]
          have HST : Hid (pre l (k + 1) = pre l k + pat l k) := rfl
          generalize pat l k = x at *
          generalize hp : pre l k = p at *
          have HP := Lib.hid hp
          clear hp
          by_cases hnx : n - p < x
          · have HR3 := Lib.hid (HTK.out (by rw [HST.out]; omega))
            go_wp2_with fail
            go_ret2
            rw [HR3.out]
            exact ⟨rfl, rfl⟩
          · have i3 : n - p - x = n - (p + x) := by omega
            go_wp2_with fail
            go_round
            case rel => exact ⟨k + 1, by omega, by go_num, by rw [HST.out], by rw [HST.out]; omega⟩
            case measure => simp [intOf]; omega
        · have i2 : ¬ (k : Int) < (l.length : Int) := by omega
          have HR3 := Lib.hid (HN3.out (.inr (by rw [show l.length = k by omega]; exact hpk)))
          go_wp2_with fail
          go_ret2
          rw [HR3.out]
          exact ⟨rfl, rfl⟩
end Go.Proofs.Ytmcbkjepjijfjaa
