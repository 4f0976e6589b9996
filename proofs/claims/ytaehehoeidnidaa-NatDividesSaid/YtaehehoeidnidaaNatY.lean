/- Numbers of words: the reference's ARight, ABig, AWords, walked. No condition but the size. -/
import Derived.Test.YtaehehoeidnidaaNatX
import Derived.Test.YtaehehoeidnidaaBigAn
import Derived.Test.YtaehehoeidnidaaBigRs
import Derived.Test.YtaehehoeidnidaaBigL
import Derived.Test.YtaehehoeidnidaaBigH
import Derived.Test.YtaehehoeidnidaaBigE
import Derived.Test.YtaehehoeidnidaaBigQ
import Derived.Test.YtaehehoeidnidaaPushG
namespace Go.Proofs.Ytaehehoeidnidaa
open Go.ChangeShapes Go.WideShapes Go.ChangeAt Go.RowKit
set_option linter.unusedVariables false

theorem tQ_ne : tQ ≠ tU := by decide
theorem tQ_ne2 : tQ ≠ tI := by decide
set_option maxRecDepth 20000 in
set_option maxHeartbeats 1000000 in
theorem aright_any (A : Option Addr) (l : List Nat) (c B : Nat) (w : World) (hs : Seg w B A (u64s l)) :
    Calls Try.prog 48 #[.slice A l.length c] w fun e w' => e = .returned (.bool (decide (nright l))) ∧ w' = w := by
  have HS := Lib.hid hs
  clear hs
  by_cases h64 : 64 < l.length
  · have hf : decide (nright l) = false := decide_eq_false (fun h => by have := h.1; omega)
    have i0 : ¬ (l.length : Int) < 65 := by omega
    rw [hf]
    clear hf
    go_enter Try.func48, Try.ntmps48
    go_wp2_with fail
    go_ret
    exact ⟨rfl, rfl⟩
  · have i0 : (l.length : Int) < 65 := by omega
    cases hl : l.length with
    | zero =>
      have hf : decide (nright l) = true := decide_eq_true ⟨by omega, .inl hl⟩
      rw [hf]
      clear hf
      go_enter Try.func48, Try.ntmps48
      go_wp2_with fail
      go_ret
      exact ⟨rfl, rfl⟩
    | succ k =>
      obtain ⟨ad, rfl, hb, hc⟩ := HS.out.wo (k := k) (by omega)
      obtain ⟨K, hK⟩ : ∃ K, K = k + 1 := ⟨_, rfl⟩
      rw [← hK]
      have i1 : (K : Int) < 65 := by omega
      have i2 : (K : Int) - 1 = (k : Int) := by omega
      have i3 : (k : Int) < (K : Int) := by omega
      have i4 : ¬ (K : Int) = 0 := by omega
      have i5 : ¬ K = 0 := by omega
      have b0 : ((K : Int) == 0) = false := by simp; omega
      have hf : Hid (decide (nright l) = decide (0 < wo l k)) := by
        have hi : nright l ↔ wo l k ≠ 0 := by
          unfold nright
          rw [show l.length - 1 = k by omega]
          omega
        unfold Hid
        by_cases h0 : wo l k = 0
        · rw [decide_eq_false (fun h => hi.1 h h0), h0]; rfl
        · rw [decide_eq_true (hi.2 h0), decide_eq_true (by omega)]
      have u1 : wrap64 (k : Int) = (k : Int) := w64n (by omega)
      clear hl i0 h64 hK
      generalize wo l k = v at *
      go_enter Try.func48, Try.ntmps48
      go_wp2_with fail
      go_ret
      exact ⟨by rw [hf.out]; rfl, rfl⟩
def wlenV : Value → Nat
  | .slice _ n _ => n
  | _ => 0
theorem sgn_not {v : Int} (h : ¬ 0 < v) : ¬ 0 < sgn v := by
  unfold sgn
  split
  · omega
  · rw [if_pos (by omega)]; omega
theorem wd_step {n : Nat} (h : n ≠ 0) (o : List Nat) : o ++ wd n = (o ++ [n % wB]) ++ wd (n / 2 ^ 64) := by
  rw [wd_pos h, List.append_assoc]; rfl
set_option maxRecDepth 20000 in
set_option maxHeartbeats 4000000 in
theorem awords_any (gx ox : Nat) (x : Int) (w : World) (hx : IntZ w gx ox x) (hl : (wd x.toNat).length ≤ 1000) :
    Calls Try.prog 124 #[.pointer (some ⟨gx, ox, none⟩)] w fun e w' => NOut w w' e (nfits x.toNat).1 (nfits x.toNat).2 := by
  have HX := Lib.hid hx
  have HL := Lib.hid hl
  have HE : Hid (nfits x.toNat = if 64 < (wd x.toNat).length then ([], 4) else (wd x.toNat, 0)) := rfl
  clear hx hl
  go_enter Try.func124, Try.ntmps124
  go_wp2_with fail
  refine (setU_any w.heap.size 18446744073709551615 _ (newBlk _ _ _) (by decide)).mono ?_
  rintro e w1 ⟨rfl, hp⟩
  have P1 := Lib.hid hp.new
  clear hp
  go_wp2_with fail
  refine (setZ_any w1.heap.size gx ox x _ (newBlk _ _ _) ((HX.out.below P1.out.2.2.1).alloc _)).mono ?_
  rintro e w2 ⟨rfl, hp⟩
  have P2 := Lib.hid hp.new
  have HM2 : Hid (IntZ w2 w.heap.size 0 18446744073709551615) := P1.out.1.below P2.out.2.2.1
  have HMB2 : Hid (IntBlk w2 w.heap.size) := P1.out.2.1.below P2.out.2.2.1
  have HB2 : Hid (Below w.heap.size w w2) := rb_go P1.out.2.2.1 P2.out.2.2.1
  have HGL : Hid (w.heap.size < w1.heap.size) := P1.out.2.1.lt
  clear hp
  go_wp2_with fail
  --LOOK1
  go_loopw [4] (fun s4 wx => ∃ (v : Int) (o : List Nat), Hid (o ++ wd v.toNat = wd x.toNat) ∧ Hid (IntZ wx w1.heap.size 0 v ∧ IntBlk wx w1.heap.size) ∧ Hid (IntZ wx w.heap.size 0 18446744073709551615 ∧ IntBlk wx w.heap.size) ∧ Hid (Own wx w.heap.size tQ s4 (u64s o)) ∧ Hid (Below w.heap.size w wx)) (fun s4 _ => (wd x.toNat).length - wlenV s4)
  case atStart => exact ⟨x, [], rfl, ⟨P2.out.1, P2.out.2.1⟩, ⟨HM2.out, HMB2.out⟩, Own.none_, HB2⟩
  case round =>
    obtain ⟨v, o, ho, hy, hm, hw, hb⟩ := hrel
    obtain ⟨A, c, rfl, hc, hw2⟩ := hw.out.res2
    have e1 : (u64s o).length = o.length := by simp
    rw [e1] at hw2 hc
    rw [e1]
    have HW2 := Lib.hid hw2
    clear P1 P2 HM2 HMB2 HB2 hw hw2
    by_cases hv : 0 < v
    · have hs : Hid (sgn v = 1) := by unfold Hid sgn; rw [if_neg (by omega), if_neg (by omega)]
      obtain ⟨n, rfl⟩ : ∃ n : Nat, v = n := ⟨v.toNat, by omega⟩
      have hn0 : n ≠ 0 := by omega
      have hst : Hid ((o ++ [n % wB]) ++ wd (n / 2 ^ 64) = wd x.toNat) := by unfold Hid; rw [← wd_step hn0, ← ho.out]; rfl
      have HLN : Hid (o.length < (wd x.toNat).length) := by
        unfold Hid; rw [← ho.out, show ((n : Nat) : Int).toNat = n from rfl, wd_pos hn0]; simp
      have HPL : Hid (((u64s o).length + 1) * 8 ≤ 140737488355328 ∧ (u64s o).length + 1 ≤ maxLen) := by
        have h1 := HLN.out; have h2 := HL.out
        unfold Hid maxLen; rw [List.length_map]; omega
      clear hn0 hv ho hc e1
      go_wp2_with fail
      refine (sign_any w1.heap.size 0 n wr hy.out.1).mono ?_
      rintro e w' ⟨rfl, rfl⟩
      rw [hs.out]
      go_wp2_with fail
      refine (and_any wr.heap.size w1.heap.size 0 w.heap.size 0 n _ (newBlk _ _ _) (hy.out.1.alloc _) (hm.out.1.alloc _)).mono ?_
      rintro e w3 ⟨rfl, hp⟩
      have P3 := Lib.hid hp.new
      clear hp
      go_wp2_with fail
      refine (uint64_any wr.heap.size 0 _ w3 P3.out.1).mono ?_
      rintro e w' ⟨rfl, rfl⟩
      have e2 : (((n % 18446744073709551616 : Nat) : Int).natAbs % 18446744073709551616) = n % wB := by
        rw [Int.natAbs_natCast, Nat.mod_mod]
      rw [e2]
      have HB3 : Hid (Below w.heap.size w w3) := hb.out.trans (P3.out.2.2.1.mono hb.out.size)
      have HO3 : Hid (Own w3 w.heap.size tQ (.slice A o.length c) (u64s o)) := HW2.out.below P3.out.2.2.1 (Nat.le_refl _)
      have HLT : Hid (w.heap.size ≤ (w3.alloc (.cells #[u64v (n % wB)] tQ)).heap.size) := by have := HB3.out.size; unfold Hid; simp; omega
      clear e2
      generalize n % wB = X at *
      go_wp2_with (first
        | (at_builtin; go_must (refine wpList_pushG _ rfl _ _ 51 tQ 8 elem_u64s rfl w.heap.size _ _ rfl (Own.alloc' HO3.out _) (u64v X) ⟨w3.heap.size, 0, none⟩ 1 rfl (cell_new1 _ _ _) rfl HPL.out.1 HPL.out.2 HLT.out ?_); intro v6 w6 hown6 hgb6; have HO6 := Lib.hid hown6; have HG6 := Lib.hid hgb6; clear hown6 hgb6)
        | fail)
      --LOOK2
      have HY6 : Hid (IntZ w6 w1.heap.size 0 n ∧ IntBlk w6 w1.heap.size) := IntZ.push ((hy.out.1.below P3.out.2.2.1).alloc _) ((hy.out.2.below P3.out.2.2.1).alloc _) (Own.alloc' HO3.out _) tQ_ne tQ_ne2 HG6.out
      have HM6 : Hid (IntZ w6 w.heap.size 0 18446744073709551615 ∧ IntBlk w6 w.heap.size) := IntZ.push ((hm.out.1.below P3.out.2.2.1).alloc _) ((hm.out.2.below P3.out.2.2.1).alloc _) (Own.alloc' HO3.out _) tQ_ne tQ_ne2 HG6.out
      have HB6 : Hid (Below w.heap.size w w6) := Below.grown (rb_alloc HB3.out _) HG6.out HLT.out (fun k hk => HO3.out.block k hk)
      refine (rsh_any w1.heap.size w1.heap.size 0 64 n w6 HY6.out.2 HY6.out.1 (by decide)).mono ?_
      rintro e w7 ⟨rfl, hp⟩
      have P7 := Lib.hid hp
      clear hp
      go_wp2_with fail
      go_roundw
      case rel =>
        refine ⟨((n / 2 ^ 64 : Nat) : Int), o ++ [X], hst, ⟨P7.out.1, P7.out.2.1⟩, ⟨?_, ?_⟩, ?_, ?_⟩
        · exact HM6.out.1.grown P7.out.2.2 (by have := HGL.out; omega) HY6.out.2
        · exact HM6.out.2.grown P7.out.2.2 (by have := HGL.out; omega)
        · have := HO6.out.put P7.out.2.2 HY6.out.2 tQ_ne2
          unfold Hid; simpa using this
        · exact rb_put HB6.out P7.out.2.2 (by have := HGL.out; omega)
      case measure =>
        obtain ⟨A6, c6, rfl, _, _⟩ := HO6.out.res2
        have := HLN.out
        simp [wlenV]; omega
    · have hs : Hid (¬ 0 < sgn v) := sgn_not hv
      have hw0 : Hid (o = wd x.toNat) := by
        have := ho.out
        rw [show v.toNat = 0 by omega, wd_zero, List.append_nil] at this
        exact this
      have hss := hs.out
      clear hv ho
      go_wp2_with fail
      refine (sign_any w1.heap.size 0 v wr hy.out.1).mono ?_
      rintro e w' ⟨rfl, rfl⟩
      generalize sgn v = sg at *
      by_cases h64 : 64 < o.length
      · have i1 : (64 : Int) < (o.length : Int) := by omega
        have HF : Hid (nfits x.toNat = ([], 4)) := by unfold Hid; rw [HE.out, ← hw0.out, if_pos h64]
        go_wp2_with fail
        go_ret2
        rw [HF.out]
        exact NOut.nil_ hb.out
      · have i1 : ¬ (64 : Int) < (o.length : Int) := by omega
        have HF : Hid (nfits x.toNat = (o, 0)) := by unfold Hid; rw [HE.out, ← hw0.out, if_neg h64]
        go_wp2_with fail
        go_ret2
        rw [HF.out]
        exact ⟨A, c, rfl, hc, HW2.out.seg, hb.out⟩
end Go.Proofs.Ytaehehoeidnidaa
