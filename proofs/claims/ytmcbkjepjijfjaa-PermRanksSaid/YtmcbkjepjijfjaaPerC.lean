/- Orders: how many behind each place are less; one undone; two of them, walked. No condition. -/
import Derived.Test.YtmcbkjepjijfjaaPerW
namespace Go.Proofs.Ytmcbkjepjijfjaa
open Go.ChangeShapes Go.WideShapes Go.ChangeAt Go.RowKit
set_option linter.unusedVariables false

set_option maxRecDepth 20000 in
set_option maxHeartbeats 4000000 in
theorem code_any (p : List Int) (A : Option Addr) (c : Nat) (w : World) (hs : Seg w w.heap.size A (p.map (.int .i64))) (hm : p.length ≤ 9223372036854775807) (hpc : p.length ≤ c) :
    Calls Try.prog 22 #[.slice A p.length c] w fun e w' => SOut w w' e (codeL p) (codeE p) := by
  have HS := Lib.hid hs
  have hr := pright_any p A c w hs hm
  clear hs
  cases hg : permB p with
  | false =>
    rw [hg] at hr
    have HR := Lib.hid hr
    have HL : Hid (codeL p = [] ∧ codeE p = 1) := by unfold codeL codeE Hid; rw [hg]; exact ⟨rfl, rfl⟩
    clear hr hg
    go_enter Try.func22, Try.ntmps22
    go_wp2_with fail
    refine HR.out.mono ?_
    rintro e w1 ⟨rfl, hb⟩
    have HB := Lib.hid hb
    clear hb
    go_wp2_with fail
    go_ret2
    rw [HL.out.1, HL.out.2]
    exact SOut.nil_ HB.out
  | true =>
    rw [hg] at hr
    have HR := Lib.hid hr
    have HL : Hid (codeL p = tab (codef p) p.length ∧ codeE p = 0) := by unfold codeL codeE Hid; rw [hg]; exact ⟨rfl, rfl⟩
    have hl := permB_len hg
    have hmk := run_make_row' (P := Try.prog) 22 3 (.int .i64 0) 8 Try.underlying22 (by kernel_rfl) rfl .i64 .i64 p.length (by omega) (by omega)
    clear hr hg
    go_enter Try.func22, Try.ntmps22
    go_wp2_with fail
    refine HR.out.mono ?_
    rintro e w1 ⟨rfl, hb⟩
    have HB1 := Lib.hid hb
    have HS1 : Hid (Seg w1 w1.heap.size A (p.map (.int .i64))) := (HS.out.below hb).more hb.size
    clear hb
    go_wp2_with fail
    clear hmk
    go_loopw [17] (fun s17 wr => ∃ k : Nat, k ≤ p.length ∧ s17 = .int .i64 k ∧ wr.rowIs w1.heap.size 3 p.length (fun x => .int .i64 (cdf p k x)) ∧ Below w1.heap.size w1 wr) (fun s17 _ => p.length - (intOf s17).toNat)
    case atStart => exact ⟨0, Nat.zero_le _, rfl, (World.rowIs_made w1 (.int .i64 0) p.length 3).congr (fun i hi => rfl), (Below.refl _ _).alloc (Nat.le_refl _) _⟩
    case round =>
      obtain ⟨k, hk, rfl, hrow, hbel⟩ := hrel
      have HR2 := Lib.hid hrow
      have HB := Lib.hid hbel
      clear hrow hbel
      by_cases hlt : k < p.length
      · have i2 : (k : Int) < (p.length : Int) := by omega
        have hsb := HS1.out.below HB.out
        have HSB := Lib.hid hsb
        obtain ⟨A', hsl, hsg⟩ := slice_from hsb (l := k + 1) (c := c) ((k : Int) + 1) (by omega) (by omega) hpc
        obtain ⟨ad, rfl, _, hcell⟩ := hsb.pat hlt
        have HSG := Lib.hid hsg
        have hys : (p.drop (k + 1)).length = p.length - (k + 1) := List.length_drop ..
        have HC0 : Hid (cdf p k k = 0) := cdf_zero p k k (Nat.le_refl _)
        have HCS : Hid (cdf p (k + 1) = updf (cdf p k) k (lessn (p.drop (k + 1)) (pat p k) (p.drop (k + 1)).length : Nat)) := by
          unfold Hid; rw [List.length_drop]; rfl
        have hyl : (p.drop (k + 1)).length ≤ 20 := by omega
        clear hsb hsg hys
        generalize pat p k = x at *
        generalize p.drop (k + 1) = ys at *
        generalize cdf p k = f at *
        have HR3 : Hid (wr.rowIs w1.heap.size 3 p.length (fun i => .int .i64 (updf f k ((0 : Nat) : Int) i))) := by rw [updf_self f k ((0 : Nat) : Int) HC0.out]; exact HR2.out
        clear HR2
        obtain ⟨wo, rfl⟩ : ∃ wo : World, wo = wr := ⟨_, rfl⟩
        go_wp2_with fail
        clear hsl hcell
        go_loopw [27] (fun s27 wr => ∃ i : Nat, i ≤ ys.length ∧ s27 = .int .i64 i ∧ wr.rowIs w1.heap.size 3 p.length (fun y => .int .i64 (updf f k (lessn ys x i : Nat) y)) ∧ Below w1.heap.size wo wr) (fun s27 _ => ys.length - (intOf s27).toNat)
        case atStart => exact ⟨0, Nat.zero_le _, rfl, HR3.out, Below.refl _ _⟩
        case round =>
          obtain ⟨i, hi, rfl, hrow, hbel⟩ := hrel
          have HR4 := Lib.hid hrow
          have HB2 := Lib.hid hbel
          clear hrow hbel HR3
          by_cases hlt2 : i < ys.length
          · have i3 : (i : Int) < (ys.length : Int) := by omega
            obtain ⟨ae, rfl, _, hcell⟩ := (HSG.out.below HB2.out).pat hlt2
            have HST : Hid (lessn ys x (i + 1) = lessn ys x i + if pat ys i < x then 1 else 0) := rfl
            have hln := lessn_le ys x i
            generalize pat ys i = y at *
            generalize lessn ys x i = n at *
            by_cases hxy : y < x
            · have HX : Hid (lessn ys x (i + 1) = n + 1) := by unfold Hid; rw [HST.out, if_pos hxy]
              have hc := HR4.out.cell hlt
              have hf := HR4.out.frozen k
              rw [updf_same] at hc
              go_wp2_with fail
              go_roundw
              case rel =>
                refine ⟨i + 1, by omega, by go_num, ?_, HB2.out.setCell (Nat.le_refl _) _⟩
                have h := rowIs_set_int HR4.out k ((n : Int) + 1)
                rw [updf_updf] at h
                rw [HX.out]; exact h
              case measure => simp [intOf]; omega
            · have HX : Hid (lessn ys x (i + 1) = n) := by unfold Hid; rw [HST.out, if_neg hxy]; rfl
              go_wp2_with fail
              go_roundw
              case rel => exact ⟨i + 1, by omega, by go_num, by rw [HX.out]; exact HR4.out, HB2.out⟩
              case measure => simp [intOf]; omega
          · have i3 : ¬ (i : Int) < (ys.length : Int) := by omega
            have HI : Hid (i = ys.length) := by unfold Hid; omega
            go_wp2_with fail
            go_roundw
            case rel =>
              refine ⟨k + 1, by omega, by go_num, ?_, HB.out.trans HB2.out⟩
              rw [HCS.out, ← HI.out]; exact HR4.out
            case measure => simp [intOf]; omega
      · have i2 : ¬ (k : Int) < (p.length : Int) := by omega
        have HK : Hid (k = p.length) := by unfold Hid; omega
        go_wp2_with fail
        go_ret2
        rw [HL.out.1, HL.out.2]
        exact SOut.row HR2.out (tab_congr fun i hi => cdf_at p k i (by rw [HK.out]; exact hi)) (HB1.out.trans (HB.out.mono HB1.out.size))
set_option maxRecDepth 20000 in
set_option maxHeartbeats 4000000 in
theorem back_any (p : List Int) (A : Option Addr) (c : Nat) (w : World) (hs : Seg w w.heap.size A (p.map (.int .i64))) (hm : p.length ≤ 9223372036854775807) :
    Calls Try.prog 24 #[.slice A p.length c] w fun e w' => SOut w w' e (backL p) (codeE p) := by
  have HS := Lib.hid hs
  have hr := pright_any p A c w hs hm
  clear hs
  cases hg : permB p with
  | false =>
    rw [hg] at hr
    have HR := Lib.hid hr
    have HL : Hid (backL p = [] ∧ codeE p = 1) := by unfold backL codeE Hid; rw [hg]; exact ⟨rfl, rfl⟩
    clear hr hg
    go_enter Try.func24, Try.ntmps24
    go_wp2_with fail
    refine HR.out.mono ?_
    rintro e w1 ⟨rfl, hb⟩
    have HB := Lib.hid hb
    clear hb
    go_wp2_with fail
    go_ret2
    rw [HL.out.1, HL.out.2]
    exact SOut.nil_ HB.out
  | true =>
    rw [hg] at hr
    have HR := Lib.hid hr
    have HL : Hid (backL p = tab (bkf p p.length) p.length ∧ codeE p = 0) := by unfold backL codeE Hid; rw [hg]; exact ⟨rfl, rfl⟩
    have hl := permB_len hg
    have HG := Lib.hid hg
    have hmk := run_make_row' (P := Try.prog) 22 3 (.int .i64 0) 8 Try.underlying22 (by kernel_rfl) rfl .i64 .i64 p.length (by omega) (by omega)
    clear hr hg
    go_enter Try.func24, Try.ntmps24
    go_wp2_with fail
    refine HR.out.mono ?_
    rintro e w1 ⟨rfl, hb⟩
    have HB1 := Lib.hid hb
    have HS1 : Hid (Seg w1 w1.heap.size A (p.map (.int .i64))) := (HS.out.below hb).more hb.size
    clear hb
    go_wp2_with fail
    clear hmk
    go_loopw [15] (fun s15 wr => ∃ k : Nat, k ≤ p.length ∧ s15 = .int .i64 k ∧ wr.rowIs w1.heap.size 3 p.length (fun x => .int .i64 (bkf p k x)) ∧ Below w1.heap.size w1 wr) (fun s15 _ => p.length - (intOf s15).toNat)
    case atStart => exact ⟨0, Nat.zero_le _, rfl, (World.rowIs_made w1 (.int .i64 0) p.length 3).congr (fun i hi => rfl), (Below.refl _ _).alloc (Nat.le_refl _) _⟩
    case round =>
      obtain ⟨k, hk, rfl, hrow, hbel⟩ := hrel
      have HR2 := Lib.hid hrow
      have HB := Lib.hid hbel
      clear hrow hbel
      by_cases hlt : k < p.length
      · have i2 : (k : Int) < (p.length : Int) := by omega
        obtain ⟨ad, rfl, _, hcell⟩ := (HS1.out.below HB.out).pat hlt
        have hrg := permB_range HG.out hlt
        obtain ⟨X, hX⟩ : ∃ X : Nat, pat p k = X := ⟨(pat p k).toNat, by omega⟩
        have HST : Hid (bkf p (k + 1) = updf (bkf p k) X k) := by unfold Hid; rw [bkf, hX, Int.toNat_natCast]
        rw [hX] at hcell hrg
        clear hX
        have hXd : X < p.length := by omega
        have i3 : (X : Int) < (p.length : Int) := by omega
        clear hrg
        have hc := HR2.out.cell hXd
        have hf := HR2.out.frozen X
        generalize bkf p k = f at *
        go_wp2_with fail
        go_roundw
        case rel => exact ⟨k + 1, by omega, by go_num, by rw [HST.out]; exact rowIs_set_int HR2.out X k, HB.out.setCell (Nat.le_refl _) _⟩
        case measure => simp [intOf]; omega
      · have i2 : ¬ (k : Int) < (p.length : Int) := by omega
        have HK : Hid (k = p.length) := by unfold Hid; omega
        go_wp2_with fail
        go_ret2
        rw [HL.out.1, HL.out.2]
        have h := HR2.out
        rw [HK.out] at h
        exact SOut.row h rfl (HB1.out.trans (HB.out.mono HB1.out.size))
set_option maxRecDepth 20000 in
set_option maxHeartbeats 4000000 in
theorem then_any (p q : List Int) (A C : Option Addr) (c d : Nat) (w : World) (hs : Seg w w.heap.size A (p.map (.int .i64))) (ht : Seg w w.heap.size C (q.map (.int .i64))) (hm : p.length ≤ 9223372036854775807) (hm2 : q.length ≤ 9223372036854775807) :
    Calls Try.prog 23 #[.slice A p.length c, .slice C q.length d] w fun e w' => SOut w w' e (thenL p q) (thenE p q) := by
  have HS := Lib.hid hs
  have HT := Lib.hid ht
  have hr := pright_any p A c w hs hm
  have HRQ : Hid (∀ u, Seg u u.heap.size C (q.map (.int .i64)) → Calls Try.prog 25 #[.slice C q.length d] u fun e w' => e = .returned (.bool (permB q)) ∧ Below u.heap.size u w') := fun u h => pright_any q C d u h hm2
  clear hs ht
  cases hg : permB p with
  | false =>
    rw [hg] at hr
    have HR := Lib.hid hr
    have HL : Hid (thenL p q = [] ∧ thenE p q = 1) := by unfold thenL thenE thenG Hid; rw [hg]; exact ⟨rfl, rfl⟩
    clear hr hg
    go_enter Try.func23, Try.ntmps23
    go_wp2_with fail
    refine HR.out.mono ?_
    rintro e w1 ⟨rfl, hb⟩
    have HB := Lib.hid hb
    clear hb
    go_wp2_with fail
    go_ret2
    rw [HL.out.1, HL.out.2]
    exact SOut.nil_ HB.out
  | true =>
    rw [hg] at hr
    have HR := Lib.hid hr
    have hl := permB_len hg
    cases hgq : permB q with
    | false =>
      rw [hgq] at HRQ
      have HL : Hid (thenL p q = [] ∧ thenE p q = 1) := by unfold thenL thenE thenG Hid; rw [hg, hgq]; exact ⟨rfl, rfl⟩
      clear hr hg hgq
      go_enter Try.func23, Try.ntmps23
      go_wp2_with fail
      refine HR.out.mono ?_
      rintro e w1 ⟨rfl, hb⟩
      have HB := Lib.hid hb
      have HT1 : Hid (Seg w1 w1.heap.size C (q.map (.int .i64))) := (HT.out.below hb).more hb.size
      clear hb
      go_wp2_with fail
      refine (HRQ.out _ HT1.out).mono ?_
      rintro e w2 ⟨rfl, hb⟩
      have HB2 := Lib.hid (HB.out.trans (hb.mono HB.out.size))
      clear hb
      go_wp2_with fail
      go_ret2
      rw [HL.out.1, HL.out.2]
      exact SOut.nil_ HB2.out
    | true =>
      rw [hgq] at HRQ
      have hlq := permB_len hgq
      by_cases hpq : p.length = q.length
      · have HL : Hid (thenL p q = tab (fun k => pat q (pat p k).toNat) p.length ∧ thenE p q = 0) := by unfold thenL thenE thenG Hid; rw [hg, hgq, decide_eq_true hpq]; exact ⟨rfl, rfl⟩
        have HG := Lib.hid hg
        have b1 : ((p.length : Int) != (q.length : Int)) = false := by rw [hpq]; simp
        have hmk := run_make_row' (P := Try.prog) 22 3 (.int .i64 0) 8 Try.underlying22 (by kernel_rfl) rfl .i64 .i64 p.length (by omega) (by omega)
        have hpq2 : p.length ≤ q.length := by omega
        clear hr hg hgq hpq
        go_enter Try.func23, Try.ntmps23
        go_wp2_with fail
        refine HR.out.mono ?_
        rintro e w1 ⟨rfl, hb⟩
        have HB := Lib.hid hb
        have HT1 : Hid (Seg w1 w1.heap.size C (q.map (.int .i64))) := (HT.out.below hb).more hb.size
        have HS1 : Hid (Seg w1 w1.heap.size A (p.map (.int .i64))) := (HS.out.below hb).more hb.size
        clear hb
        go_wp2_with fail
        refine (HRQ.out _ HT1.out).mono ?_
        rintro e w2 ⟨rfl, hb⟩
        have HB2 := Lib.hid (HB.out.trans (hb.mono HB.out.size))
        have HT2 : Hid (Seg w2 w2.heap.size C (q.map (.int .i64))) := (HT1.out.below hb).more hb.size
        have HS2 : Hid (Seg w2 w2.heap.size A (p.map (.int .i64))) := (HS1.out.below hb).more hb.size
        clear hb
        go_wp2_with fail
        clear hmk
        go_loopw [28] (fun s28 wr => ∃ k : Nat, k ≤ p.length ∧ s28 = .int .i64 k ∧ wr.rowIs w2.heap.size 3 p.length (fun x => .int .i64 (if x < k then pat q (pat p x).toNat else 0)) ∧ Below w2.heap.size w2 wr) (fun s28 _ => p.length - (intOf s28).toNat)
        case atStart => exact ⟨0, Nat.zero_le _, rfl, (World.rowIs_made w2 (.int .i64 0) p.length 3).congr (fun i hi => by simp), (Below.refl _ _).alloc (Nat.le_refl _) _⟩
        case round =>
          obtain ⟨k, hk, rfl, hrow, hbel⟩ := hrel
          have HR2 := Lib.hid hrow
          have HB3 := Lib.hid hbel
          clear hrow hbel
          by_cases hlt : k < p.length
          · have i2 : (k : Int) < (p.length : Int) := by omega
            obtain ⟨ad, rfl, _, hcell⟩ := (HS2.out.below HB3.out).pat hlt
            have hrg := permB_range HG.out hlt
            obtain ⟨X, hX⟩ : ∃ X : Nat, pat p k = X := ⟨(pat p k).toNat, by omega⟩
            have HXV : Hid (pat q (pat p k).toNat = pat q X) := by unfold Hid; rw [hX, Int.toNat_natCast]
            rw [hX] at hcell hrg
            clear hX
            have hXd : X < q.length := by omega
            have i3 : (X : Int) < (q.length : Int) := by omega
            clear hrg
            obtain ⟨ae, rfl, _, hcell2⟩ := (HT2.out.below HB3.out).pat hXd
            have hc := HR2.out.cell hlt
            have hf := HR2.out.frozen k
            rw [if_neg (Nat.lt_irrefl k)] at hc
            go_wp2_with fail
            go_roundw
            case rel =>
              refine ⟨k + 1, by omega, by go_num, (HR2.out.set k _).congr (fun i hi => ?_), HB3.out.setCell (Nat.le_refl _) _⟩
              by_cases e : i = k
              · subst e; rw [if_pos rfl, if_pos (Nat.lt_succ_self _), HXV.out]
              · rw [if_neg e]
                by_cases e2 : i < k
                · rw [if_pos e2, if_pos (by omega)]
                · rw [if_neg e2, if_neg (by omega)]
            case measure => simp [intOf]; omega
          · have i2 : ¬ (k : Int) < (p.length : Int) := by omega
            have HK : Hid (k = p.length) := by unfold Hid; omega
            go_wp2_with fail
            go_ret2
            rw [HL.out.1, HL.out.2]
            exact SOut.row (HR2.out) (tab_congr fun i hi => if_pos (by rw [HK.out]; exact hi)) (HB2.out.trans (HB3.out.mono HB2.out.size))
      · have HL : Hid (thenL p q = [] ∧ thenE p q = 1) := by unfold thenL thenE thenG Hid; rw [hg, hgq, decide_eq_false hpq]; exact ⟨rfl, rfl⟩
        have b1 : ((p.length : Int) != (q.length : Int)) = true := by simp; omega
        clear hr hg hgq hpq
        go_enter Try.func23, Try.ntmps23
        go_wp2_with fail
        refine HR.out.mono ?_
        rintro e w1 ⟨rfl, hb⟩
        have HB := Lib.hid hb
        have HT1 : Hid (Seg w1 w1.heap.size C (q.map (.int .i64))) := (HT.out.below hb).more hb.size
        clear hb
        go_wp2_with fail
        refine (HRQ.out _ HT1.out).mono ?_
        rintro e w2 ⟨rfl, hb⟩
        have HB2 := Lib.hid (HB.out.trans (hb.mono HB.out.size))
        clear hb
        go_wp2_with fail
        go_ret2
        rw [HL.out.1, HL.out.2]
        exact SOut.nil_ HB2.out
end Go.Proofs.Ytmcbkjepjijfjaa
