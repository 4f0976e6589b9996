/- The rank of an order, walked twice. No condition. -/
import Derived.Test.YtmcbkjepjijfjaaPerR
import Derived.Test.YtmcbkjepjijfjaaPerC
namespace Go.Proofs.Ytmcbkjepjijfjaa
open Go.ChangeShapes Go.WideShapes Go.ChangeAt Go.RowKit
set_option linter.unusedVariables false

set_option maxRecDepth 20000 in
set_option maxHeartbeats 2000000 in
theorem dfact_any (n : Nat) : ∀ w : World, n ≤ 20 → Calls Try.prog 74 #[.int .i64 n] w fun e w' => e = .returned (.int .i64 (fct n : Nat)) ∧ w = w' := by
  induction n with
  | zero =>
    intro w _
    go_enter Try.func74, Try.ntmps74
    go_wp2_with fail
    go_ret
    exact ⟨rfl, rfl⟩
  | succ n ih =>
    intro w hn
    by_cases h0 : n = 0
    · subst h0
      go_enter Try.func74, Try.ntmps74
      go_wp2_with fail
      go_ret
      exact ⟨rfl, rfl⟩
    · have HI := Lib.hid (ih w (by omega))
      have i1 : ¬ ((n + 1 : Nat) : Int) < 2 := by omega
      have i2 : ((n + 1 : Nat) : Int) - 1 = (n : Int) := by omega
      have hb : (n + 1) * fct n ≤ 2432902008176640000 := fct_le (n := n + 1) hn
      have HF : Hid (fct (n + 1) = (n + 1) * fct n) := rfl
      have hc : ((n + 1 : Nat) : Int) * (fct n : Int) = (((n + 1) * fct n : Nat) : Int) := (Int.natCast_mul _ _).symm
      have h1 : 0 ≤ (((n + 1) * fct n : Nat) : Int) := Int.natCast_nonneg _
      generalize (n + 1) * fct n = q at *
      generalize fct n = f at *
      generalize hM : n + 1 = M at *
      have HM := Lib.hid hM
      clear ih h0 hM
      go_enter Try.func74, Try.ntmps74
      go_wp2_with fail
      refine HI.out.mono ?_
      rintro e w' ⟨rfl, rfl⟩
      go_wp2_with fail
      go_ret
      exact ⟨by rw [HF.out]; rfl, rfl⟩
theorem drk_step {p : List Int} {m : Nat} (h : p.length = m + 1) : drk p = lessn (p.drop 1) (pat p 0) m * fct m + drk (p.drop 1) := by
  have h1 := drk_drop (p := p) (k := 0) (by omega)
  rw [List.drop_zero] at h1
  rw [h1]
  unfold cN
  rw [h]
  rfl
set_option maxRecDepth 20000 in
set_option maxHeartbeats 2000000 in
theorem drank_any (n : Nat) : ∀ (p : List Int) (A : Option Addr) (c : Nat) (w : World), p.length = n → n ≤ 20 → p.length ≤ c → Seg w w.heap.size A (p.map (.int .i64)) →
    Calls Try.prog 30 #[.slice A p.length c] w fun e w' => e = .returned (.int .i64 (drk p : Nat)) ∧ Below w.heap.size w w' := by
  induction n with
  | zero =>
    intro p A c w hp _ _ _
    obtain rfl : p = [] := List.eq_nil_of_length_eq_zero hp
    go_enter Try.func30, Try.ntmps30
    go_wp2_with fail
    go_ret
    exact ⟨rfl, Below.refl _ _⟩
  | succ m ih =>
    intro p A c w hp hn hpc hs
    have HI := Lib.hid ih
    have HS := Lib.hid hs
    have HP := Lib.hid hp
    have hpi : (p.length : Int) = ((m + 1 : Nat) : Int) := by omega
    have HST := Lib.hid (drk_step hp)
    have b1 : ((p.length : Int) == 0) = false := by rw [beq_eq_false_iff_ne]; omega
    have i2 : (p.length : Int) - 1 = (m : Int) := by omega
    obtain ⟨A', hsl, hsg⟩ := slice_from hs (l := 1) (c := c) 1 rfl (by omega) hpc
    obtain ⟨ad, rfl, _, hcell⟩ := hs.pat (p := p) (k := 0) (by omega)
    rw [show ad.add 0 = ad by simp [Addr.add]] at hcell
    have HC0 := Lib.hid hcell
    have hyl : (p.drop 1).length = m := by rw [List.length_drop, hp]; rfl
    have HYL := Lib.hid hyl
    have hfb := fct_le (n := m) (by omega)
    have hdl := drk_lt p
    have hdb := fct_le (n := p.length) (by omega)
    have HSG := Lib.hid hsg
    have HD := Lib.hid (drk_lt (p.drop 1))
    have i5 : 0 < (p.length : Int) := by omega
    have HDF := Lib.hid (fun w => dfact_any m w (by omega))
    clear ih hs hsg hcell hpi hp
    generalize pat p 0 = x at *
    generalize p.drop 1 = ys at *
    go_enter Try.func30, Try.ntmps30
    have hyl2 : ys.length ≤ 20 := by omega
    clear hyl
    go_wp2_with fail
    clear hsl
    go_loopw [3, 4, 13] (fun s3 s4 s13 wr => ∃ i : Nat, i ≤ ys.length ∧ s13 = .int .i64 i ∧ s3 = .int .i64 (lessn ys x i : Nat) ∧ Own wr w.heap.size 3 s4 ((ys.take i).map (.int .i64)) ∧ Below w.heap.size w wr) (fun _ _ s13 _ => ys.length - (intOf s13).toNat)
    case atStart => exact ⟨0, Nat.zero_le _, rfl, rfl, Own.none_, Below.refl _ _⟩
    case round =>
      obtain ⟨i, hi, rfl, rfl, hown, hbel⟩ := hrel
      have HOW := Lib.hid hown
      have HB := Lib.hid hbel
      have HSZ := Lib.hid hbel.size
      clear hown hbel
      have hln := lessn_le ys x i
      by_cases hlt : i < ys.length
      · have i3 : (i : Int) < (ys.length : Int) := by omega
        obtain ⟨ae, rfl, _, hcell⟩ := (HSG.out.below HB.out).pat hlt
        have hc0 : wr.cell? ad = some (.int .i64 x) := by
          have h := HC0.out
          rw [HB.out.cell (by assumption)]; exact h
        have HTK := Lib.hid (pat_take hlt)
        have HLS : Hid (lessn ys x (i + 1) = lessn ys x i + if pat ys i < x then 1 else 0) := rfl
        have htl : (List.map (Value.int .i64) (ys.take i)).length ≤ 20 := by rw [List.length_map]; have := List.length_take_le i ys; omega
        generalize pat ys i = y at *
        generalize lessn ys x i = l at *
        by_cases hxy : y < x
        · have HX : Hid (lessn ys x (i + 1) = l + 1) := by unfold Hid; rw [HLS.out, if_pos hxy]
          go_wp2_with (first
            | (at_builtin; go_must (refine wpList_push _ rfl _ _ 22 3 8 elem_ints rfl w.heap.size _ _ rfl (Own.alloc' HOW.out _) (.int .i64 y) ⟨wr.heap.size, 0, none⟩ 1 rfl (cell_new1 _ _ _) rfl (by omega) (by unfold maxLen; omega) (by simp; exact Nat.le_succ_of_le HSZ.out) ?_); intro v3 w3 hown3 hbel3; have HO3 := Lib.hid hown3; have HB3 := Lib.hid hbel3; clear hown3 hbel3)
            | fail)
          go_roundw
          case rel =>
            refine ⟨i + 1, by omega, by go_num, by rw [HX.out]; go_num, ?_, (HB.out.alloc HSZ.out _).trans HB3.out⟩
            have h := HO3.out
            rw [HTK.out, List.map_append]; exact h
          case measure => simp [intOf]; omega
        · have HX : Hid (lessn ys x (i + 1) = l) := by unfold Hid; rw [HLS.out, if_neg hxy]; rfl
          go_wp2_with (first
            | (at_builtin; go_must (refine wpList_push _ rfl _ _ 22 3 8 elem_ints rfl w.heap.size _ _ rfl (Own.alloc' HOW.out _) (.int .i64 y) ⟨wr.heap.size, 0, none⟩ 1 rfl (cell_new1 _ _ _) rfl (by omega) (by unfold maxLen; omega) (by simp; exact Nat.le_succ_of_le HSZ.out) ?_); intro v3 w3 hown3 hbel3; have HO3 := Lib.hid hown3; have HB3 := Lib.hid hbel3; clear hown3 hbel3)
            | fail)
          go_roundw
          case rel =>
            refine ⟨i + 1, by omega, by go_num, by rw [HX.out], ?_, (HB.out.alloc HSZ.out _).trans HB3.out⟩
            have h := HO3.out
            rw [HTK.out, List.map_append]; exact h
          case measure => simp [intOf]; omega
      · have i3 : ¬ (i : Int) < (ys.length : Int) := by omega
        obtain rfl : m = i := by have := HYL.out; omega
        have ho := HOW.out
        rw [List.take_of_length_le (by omega)] at ho
        obtain ⟨A3, c3, rfl, hc3, hsg⟩ := ho.res
        have HR : Hid (Calls Try.prog 30 #[.slice A3 ys.length c3] wr fun e w' => e = .returned (.int .i64 (drk ys : Nat)) ∧ Below wr.heap.size wr w') :=
          HI.out ys A3 c3 wr HYL.out (by omega) (by simpa using hc3) hsg
        have HL : Hid ((List.map (Value.int .i64) ys).length = ys.length) := List.length_map ..
        rw [HL.out]
        have h1 : lessn ys x m * fct m ≤ drk p := by rw [HST.out]; omega
        have h2 : lessn ys x m * fct m + drk ys ≤ drk p := by rw [HST.out]; exact Nat.le_refl _
        have hcm : ((lessn ys x m : Nat) : Int) * ((fct m : Nat) : Int) = ((lessn ys x m * fct m : Nat) : Int) := (Int.natCast_mul _ _).symm
        have HV : Hid (((drk p : Nat) : Int) = ((lessn ys x m * fct m : Nat) : Int) + ((drk ys : Nat) : Int)) := by unfold Hid; rw [HST.out]; exact Int.natCast_add _ _
        clear ho hsg hc3 HOW
        generalize lessn ys x m * fct m = q at *
        generalize lessn ys x m = l at *
        generalize fct m = f at *
        have i7 : 0 ≤ (q : Int) := by omega
        generalize drk ys = dy at *
        go_wp2_with fail
        refine (HDF.out _).mono ?_
        rintro e w' ⟨rfl, rfl⟩
        go_wp2_with fail
        refine HR.out.mono ?_
        rintro e w9 ⟨rfl, hb9⟩
        have HB9 := Lib.hid (HB.out.trans (hb9.mono HB.out.size))
        clear hb9
        go_wp2_with fail
        go_ret
        exact ⟨by rw [HV.out]; rfl, HB9.out⟩
set_option maxRecDepth 20000 in
set_option maxHeartbeats 2000000 in
theorem rank_any (p : List Int) (A : Option Addr) (c : Nat) (w : World) (hs : Seg w w.heap.size A (p.map (.int .i64))) (hm : p.length ≤ 9223372036854775807) (hpc : p.length ≤ c) :
    Calls Try.prog 27 #[.slice A p.length c] w fun e w' => e = .returned (.tuple (if permB p = true then #[.int .i64 (drk p : Nat), .int .i64 0] else #[.int .i64 0, .int .i64 1])) ∧ Below w.heap.size w w' := by
  have hco := code_any p A c w hs hm hpc
  cases hg : permB p with
  | false =>
    rw [show codeE p = 1 by unfold codeE; rw [hg]; rfl, show codeL p = [] by unfold codeL; rw [hg]; rfl] at hco
    have HC := Lib.hid hco
    rw [if_neg (by decide)]
    clear hco hg
    go_enter Try.func27, Try.ntmps27
    go_wp2_with fail
    refine HC.out.mono ?_
    rintro e w1 ⟨A1, c1, rfl, _, _, hb⟩
    have HB := Lib.hid hb
    clear hb
    go_wp2_with fail
    go_ret2
    exact ⟨rfl, HB.out⟩
  | true =>
    have hl := permB_len hg
    have hL : codeL p = tab (codef p) p.length := by unfold codeL; rw [hg]; rfl
    rw [show codeE p = 0 by unfold codeE; rw [hg]; rfl] at hco
    have HC := Lib.hid hco
    have hll : (codeL p).length = p.length := by rw [hL, tab_len]
    have HLE : Hid (∀ k, k < p.length → pat (codeL p) k = (cN p k : Nat)) := fun k hk => by rw [hL, pat_tab hk]; rfl
    rw [if_pos rfl]
    have HLL := Lib.hid hll
    have hdb := fct_le (n := p.length) (by omega)
    have hdl := drk_lt p
    generalize codeL p = LC at *
    have hlc20 : LC.length ≤ 20 := by omega
    have hlp : LC.length ≤ p.length := by omega
    have hpl : p.length ≤ LC.length := by omega
    clear hco hg hL hll
    go_enter Try.func27, Try.ntmps27
    go_wp2_with fail
    refine HC.out.mono ?_
    rintro e w1 ⟨A1, c1, rfl, _, hsg, hb⟩
    have HB := Lib.hid hb
    have HSG := Lib.hid hsg
    clear hb hsg
    go_wp2_with fail
    go_loop [6, 19] (fun s6 s19 => ∃ k : Nat, k ≤ p.length ∧ s19 = .int .i64 k ∧ s6 = .int .i64 (rkf p k : Nat)) (fun _ s19 => p.length - (intOf s19).toNat)
    case atStart => exact ⟨0, Nat.zero_le _, rfl, rfl⟩
    case round =>
      obtain ⟨k, hk, rfl, rfl⟩ := hrel
      by_cases hlt : k < p.length
      · have i3 : (k : Int) < (LC.length : Int) := by omega
        obtain ⟨ae, rfl, _, hcell⟩ := HSG.out.pat (show k < LC.length by omega)
        rw [HLE.out k hlt] at hcell
        have hst : rkf p (k + 1) = rkf p k * (p.length - k) + cN p k := rfl
        have hle := rkf_le (p := p) (k := k + 1) (by omega)
        have hle0 := rkf_le (p := p) (k := k) hk
        rw [hst] at hle
        have HST := Lib.hid hst
        have hcm : ((rkf p k : Nat) : Int) * ((LC.length : Int) - (k : Int)) = ((rkf p k * (p.length - k) : Nat) : Int) := by
          rw [Int.natCast_mul]; congr 1; omega
        clear hst
        generalize rkf p k * (p.length - k) = q at *
        generalize rkf p k = r at *
        generalize cN p k = x at *
        have i7 : 0 ≤ (q : Int) := by omega
        have i8 : (r : Int) ≤ 2432902008176640000 := by omega
        go_wp2_with fail
        go_round
        case rel => exact ⟨k + 1, by omega, by go_num, by rw [HST.out]; go_num⟩
        case measure => simp [intOf]; omega
      · have i3 : ¬ (k : Int) < (LC.length : Int) := by omega
        have HK : Hid (rkf p k = drk p) := by unfold Hid; rw [show k = p.length by omega, rkf_end]
        go_wp2_with fail
        go_ret2
        exact ⟨by rw [HK.out]; rfl, HB.out⟩
end Go.Proofs.Ytmcbkjepjijfjaa
