/- Package drop: the level, plain and walked. Printed by drogen.py. No condition. -/
import Derived.Test.YtmnjgoicppknjaaDroW
import Derived.Test.YtmnjgoicppknjaaMidX
namespace Go.Proofs.Ytmnjgoicppknjaa
open Go.ChangeShapes Go.WideShapes Go.ChangeAt Go.RowKit
set_option linter.unusedVariables false

abbrev FrV (a b : Int) : Value := .agg #[.int .i64 a, .int .i64 b]
/-- The level: m of the sorted ones are left, n are still to be kept. -/
def lev (ss : List Int) : Nat → Nat → Int × Int
  | m, 0 => (psm ss m, 0)
  | m, n + 1 => if n = 0 ∨ pat ss (m - 1) * ((n + 1 : Nat) : Int) ≤ psm ss m then (psm ss m, ((n + 1 : Nat) : Int)) else lev ss (m - 1) n
def levR (zs : List Int) (keep : Int) : (Int × Int) × Int := if drok zs keep then (if (zs.length : Int) ≤ keep then ((0, 0), 0) else (lev (isort zs) zs.length keep.toNat, 0)) else ((0, 0), 2)
theorem lev_stop {ss : List Int} {m n : Nat} (h0 : 1 ≤ n) (h : n = 1 ∨ pat ss (m - 1) * (n : Int) ≤ psm ss m) : lev ss m n = (psm ss m, (n : Int)) := by
  obtain ⟨n', rfl⟩ : ∃ k, n = k + 1 := ⟨n - 1, by omega⟩
  rw [lev, if_pos]
  rcases h with h | h
  · exact .inl (by omega)
  · exact .inr h
theorem lev_go {ss : List Int} {m n : Nat} (h1 : 2 ≤ n) (h : ¬ pat ss (m - 1) * (n : Int) ≤ psm ss m) : lev ss m n = lev ss (m - 1) (n - 1) := by
  obtain ⟨n', rfl⟩ : ∃ k, n = k + 1 := ⟨n - 1, by omega⟩
  rw [lev, if_neg (fun q => q.elim (fun q => by omega) (fun q => h q))]
  rfl
theorem dall_pat {zs : List Int} (h : dall zs) (i : Nat) : 0 ≤ pat zs i ∧ pat zs i ≤ 1048576 := by
  by_cases hi : i < zs.length
  · rw [pat_get hi]; have := h _ (List.getElem_mem hi); omega
  · have : pat zs i = 0 := by simp [pat, List.getD, Nat.le_of_not_lt hi]
    rw [this]; omega
theorem dpsm_bd {zs : List Int} (h : dall zs) : ∀ m : Nat, 0 ≤ psm zs m ∧ psm zs m ≤ (m : Int) * 1048576
  | 0 => by simp [psm]
  | m + 1 => by
    have h1 := dpsm_bd h m
    have h2 := dall_pat h m
    rw [psm]; omega
theorem psm_pred {ss : List Int} {m : Nat} (h : 1 ≤ m) : psm ss m - pat ss (m - 1) = psm ss (m - 1) := by
  obtain ⟨k, rfl⟩ : ∃ k, m = k + 1 := ⟨m - 1, by omega⟩
  rw [psm]; simp
set_option maxRecDepth 20000 in
set_option maxHeartbeats 4000000 in
theorem level_any (A : Option Addr) (zs : List Int) (c : Nat) (keep : Int) (w : World) (hs : Seg w w.heap.size A (zs.map (.int .i64))) :
    Calls Try.prog 105 #[.slice A zs.length c, .int .i64 keep] w fun e w' => e = .returned (.tuple #[FrV (levR zs keep).1.1 (levR zs keep).1.2, .int .i64 (levR zs keep).2]) ∧ Below w.heap.size w w' := by
  have HS := Lib.hid hs
  clear hs
  have HR := Lib.hid (Blk.new w 34 #[.int .i64 0, .int .i64 0])
  have HB : Hid (Below w.heap.size w (w.alloc (.cells #[.int .i64 0, .int .i64 0] 34))) := (Below.refl _ _).alloc (Nat.le_refl _) _
  have HS1 := Lib.hid ((HS.out.below HB.out).more HB.out.size)
  go_enter Try.func105, Try.ntmps105
  go_wp2_with fail
  refine (dwrong_any A zs c keep _ HS1.out).mono ?_
  rintro e w1 ⟨rfl, rfl⟩
  by_cases hok : drok zs keep
  · rw [dwe_ok hok]
    by_cases hle : (zs.length : Int) ≤ keep
    · have HV : Hid (levR zs keep = ((0, 0), 0)) := by unfold levR Hid; rw [if_pos hok, if_pos hle]
      clear hok
      go_wp2_with (first | (refine wpList_store_blk rfl _ _ _ rfl w.heap.size #[.int .i64 0, .int .i64 0] rfl rfl _ _ HR.out (by kernel_rfl) rfl (by simp [Value.oneCell']) ?_; intro w9 hb9 hg9 hs9; have HB9 := Lib.hid hb9; have HG9 := Lib.hid hg9; clear hs9 hb9 hg9) | fail)
      refine bodyPost_ret (v := .tuple #[FrV 0 0, .int .i64 0]) (results_ct (a := 5) Try.results105 _ rfl HB9.out Try.underlying34 rfl (by kernel_rfl)) rfl ⟨by rw [HV.out], Below.grown HB.out HG9.out HB.out.size (fun q hq => by injection hq with hq; omega)⟩
    · have HV0 : Hid (levR zs keep = (lev (isort zs) zs.length keep.toNat, 0)) := by unfold levR Hid; rw [if_pos hok, if_neg hle]
      have HK := Lib.hid hok
      have HLE := Lib.hid hle
      clear hok
      go_wp2_with fail
      refine (values_any A _ c _).mono ?_
      rintro e w3 ⟨rfl, rfl⟩
      have H0 : Hid (0 < zs.length) := by have h1 := HK.out.1; have h2 := HLE.out; unfold Hid; omega
      have HB3 : Hid (Below w.heap.size w ((w.alloc (.cells #[.int .i64 0, .int .i64 0] 34)).alloc (.cells #[.slice A zs.length c] 22))) := HB.out.alloc HB.out.size _
      have HSO := Lib.hid (sorted_any (w.alloc (.cells #[.int .i64 0, .int .i64 0] 34)).heap.size (.slice A zs.length c) zs (by have := HK.out.1.1; omega) H0.out ((w.alloc (.cells #[.int .i64 0, .int .i64 0] 34)).alloc (.cells #[.slice A zs.length c] 22)) (by simp) (cell_new1 _ _ _) (mints_of ((HS.out.below HB3.out).more HB3.out.size) H0.out))
      rw [show (w.alloc (.cells #[.int .i64 0, .int .i64 0] 34)).heap.size = w.heap.size + 1 by simp] at HSO
      go_wp2_with fail
      skip --LOOK1
      refine HSO.out.mono ?_
      rintro e w4 ⟨⟨A4, c4, rfl, hs4⟩, hb4⟩
      have HR4 := Lib.hid ((HR.out.alloc (.cells #[.slice A zs.length c] 22)).below hb4 (by simp; omega))
      have HB4 : Hid (Below w.heap.size w w4) := HB3.out.trans (hb4.mono (by simp; omega))
      have HS4 := Lib.hid hs4
      have HLN : Hid ((isort zs).length = zs.length) := isort_len zs
      have HDA : Hid (dall (isort zs)) := fun v hv => HK.out.2 v ((isort_perm zs).mem_iff.1 hv)
      clear hs4 hb4 HSO
      generalize isort zs = ss at *
      go_wp2_with fail
      go_loop [8, 30] (fun s8 s30 => ∃ k : Nat, k ≤ zs.length ∧ s8 = .int .i64 (psm ss k) ∧ s30 = .int .i64 k) (fun _ s30 => zs.length - (intOf s30).toNat)
      case atStart => exact ⟨0, Nat.zero_le _, rfl, rfl⟩
      case round =>
        obtain ⟨k, hk, rfl, rfl⟩ := hrel
        by_cases hlt : k < zs.length
        · have i1 : (k : Int) < (zs.length : Int) := by omega
          obtain ⟨ad, rfl, _, x1⟩ := HS4.out.pat (k := k) (by have := HLN.out; omega)
          have b1 := dall_pat HDA.out k
          have b2 := dpsm_bd HDA.out k
          have b3 := HK.out.1.1
          have hst : Hid (psm ss (k + 1) = psm ss k + pat ss k) := rfl
          generalize psm ss k = P at *
          generalize pat ss k = z at *
          have u1 : wrap64 (P + z) = P + z := by unfold wrap64; omega
          clear b1 b2
          go_wp2_with fail
          go_round
          case rel => exact ⟨k + 1, by omega, by rw [u1, hst.out], by go_num⟩
          case measure => simp [intOf]; omega
        · obtain rfl : k = zs.length := by omega
          have u1 : wrap64 ((zs.length : Int) - 1) = (zs.length : Int) - 1 := by have := HK.out.1.1; unfold wrap64; omega
          go_wp2_with fail
          go_loop [8, 11, 12] (fun s8 s11 s12 => ∃ (m n : Nat), 1 ≤ n ∧ n < m ∧ m ≤ zs.length ∧ s8 = .int .i64 (psm ss m) ∧ s11 = .int .i64 (keep - (n : Int)) ∧ s12 = .int .i64 ((m : Int) - 1) ∧ Hid (lev ss m n = lev ss zs.length keep.toNat)) (fun _ _ s12 => (intOf s12).toNat)
          case atStart =>
            have h1 := HK.out.1
            have h2 := HLE.out
            refine ⟨zs.length, keep.toNat, by omega, by omega, Nat.le_refl _, rfl, ?_, rfl, rfl⟩
            rw [show keep - ((keep.toNat : Nat) : Int) = 0 by omega]
          case round =>
            obtain ⟨m, n, hn1, hnm, hml, rfl, rfl, rfl, hlv⟩ := hrel
            have h1 := HK.out.1
            have h2 := HLE.out
            obtain ⟨M, rfl⟩ : ∃ k, m = k + 1 := ⟨m - 1, by omega⟩
            obtain ⟨ad, rfl, _, x1⟩ := HS4.out.pat (k := M) (by have := HLN.out; omega)
            have b1 := dall_pat HDA.out M
            have b2 := dpsm_bd HDA.out (M + 1)
            have hpr : Hid (psm ss (M + 1) - pat ss M = psm ss M) := psm_pred (m := M + 1) (by omega)
            have HST : Hid (1 ≤ n → (n = 1 ∨ pat ss M * (n : Int) ≤ psm ss (M + 1)) → lev ss (M + 1) n = (psm ss (M + 1), (n : Int))) := lev_stop
            have HGO : Hid (2 ≤ n → ¬ pat ss M * (n : Int) ≤ psm ss (M + 1) → lev ss (M + 1) n = lev ss M (n - 1)) := lev_go
            have b4 := mul_bd (a := pat ss M) (b := (n : Int)) 1048576 400 (by omega) (by omega)
            have e1 : ((M + 1 : Nat) : Int) - 1 = (M : Int) := by omega
            have i1 : (M : Int) < (zs.length : Int) := by omega
            have i2 : ¬ (M : Int) < 0 := by omega
            have i3 : 0 ≤ (M : Int) := by omega
            have e2 : wrap64 (keep - (keep - (n : Int))) = (n : Int) := by unfold wrap64; omega
            have HN1 := Lib.hid hn1
            have HNM := Lib.hid (And.intro hnm hml)
            have HK2 := Lib.hid h1
            rw [e1]
            generalize hHv : keep - (n : Int) = Hv at *
            have HHV := Lib.hid hHv
            generalize psm ss (M + 1) = P at *
            generalize pat ss M = z at *
            have u2 : wrap64 (P - z) = P - z := by unfold wrap64; omega
            have u3 : wrap64 (z * (n : Int)) = z * (n : Int) := by unfold wrap64; omega
            have u4 : wrap64 (Hv + 1) = Hv + 1 := by unfold wrap64; omega
            have u5 : wrap64 ((M : Int) - 1) = (M : Int) - 1 := by unfold wrap64; omega
            generalize hQ : z * (n : Int) = Q at *
            clear b1 b2 b4 h1 h2 hHv e1
            rcases (by omega : n = 1 ∨ (2 ≤ n ∧ Q ≤ P) ∨ (2 ≤ n ∧ ¬ Q ≤ P)) with q | ⟨q, q1⟩ | ⟨q, q1⟩
            · have HV : Hid (levR zs keep = ((P, (n : Int)), 0)) := by unfold Hid; rw [HV0.out, ← hlv.out, HST.out HN1.out (.inl q)]
              have i4 : ¬ 1 < (n : Int) := by omega
              have i5 : ¬ (n : Int) > 1 := by omega
              clear q hn1 hnm hml
              skip --LOOK2
              go_wp2_with (first | (refine wpList_store_blk rfl _ _ _ rfl w.heap.size #[.int .i64 P, .int .i64 (n : Int)] rfl rfl _ _ HR4.out (by kernel_rfl) rfl (by simp [Value.oneCell']) ?_; intro w9 hb9 hg9 hs9; have HB9 := Lib.hid hb9; have HG9 := Lib.hid hg9; clear hs9 hb9 hg9) | fail)
              refine bodyPost_ret (v := .tuple #[FrV P (n : Int), .int .i64 0]) (results_ct (a := 5) Try.results105 _ rfl HB9.out Try.underlying34 rfl (by kernel_rfl)) rfl ⟨by rw [HV.out], Below.grown HB4.out HG9.out HB4.out.size (fun q hq => by injection hq with hq; omega)⟩
            · have HV : Hid (levR zs keep = ((P, (n : Int)), 0)) := by unfold Hid; rw [HV0.out, ← hlv.out, HST.out HN1.out (.inr q1)]
              have i4 : 1 < (n : Int) := by omega
              have i5 : ¬ P < Q := by omega
              clear q hn1 hnm hml
              go_wp2_with (first | (refine wpList_store_blk rfl _ _ _ rfl w.heap.size #[.int .i64 P, .int .i64 (n : Int)] rfl rfl _ _ HR4.out (by kernel_rfl) rfl (by simp [Value.oneCell']) ?_; intro w9 hb9 hg9 hs9; have HB9 := Lib.hid hb9; have HG9 := Lib.hid hg9; clear hs9 hb9 hg9) | fail)
              refine bodyPost_ret (v := .tuple #[FrV P (n : Int), .int .i64 0]) (results_ct (a := 5) Try.results105 _ rfl HB9.out Try.underlying34 rfl (by kernel_rfl)) rfl ⟨by rw [HV.out], Below.grown HB4.out HG9.out HB4.out.size (fun q hq => by injection hq with hq; omega)⟩
            · have HL2 : Hid (lev ss M (n - 1) = lev ss zs.length keep.toNat) := by unfold Hid; rw [← hlv.out, HGO.out q q1]
              have i4 : 1 < (n : Int) := by omega
              have i5 : P < Q := by omega
              have HQ2 := Lib.hid q
              clear q q1 hn1 hnm hml
              go_wp2_with fail
              go_round
              case rel =>
                have t1 := HQ2.out
                have t2 := HNM.out
                have t3 := HHV.out
                exact ⟨M, n - 1, by omega, by omega, by omega, by rw [u2, hpr.out], by rw [u4, ← t3]; congr 1; omega, by rw [u5], HL2⟩
              case measure => simp [intOf, u5]; have t2 := HNM.out; have t3 := HQ2.out; omega
  · have HV : Hid (levR zs keep = ((0, 0), 2)) := by unfold levR Hid; rw [if_neg hok]
    rw [dwe_no hok]
    clear hok
    go_wp2_with (first | (refine wpList_store_blk rfl _ _ _ rfl w.heap.size #[.int .i64 0, .int .i64 0] rfl rfl _ _ HR.out (by kernel_rfl) rfl (by simp [Value.oneCell']) ?_; intro w9 hb9 hg9 hs9; have HB9 := Lib.hid hb9; have HG9 := Lib.hid hg9; clear hs9 hb9 hg9) | fail)
    refine bodyPost_ret (v := .tuple #[FrV 0 0, .int .i64 2]) (results_ct (a := 5) Try.results105 _ rfl HB9.out Try.underlying34 rfl (by kernel_rfl)) rfl ⟨by rw [HV.out], Below.grown HB.out HG9.out HB.out.size (fun q hq => by injection hq with hq; omega)⟩
end Go.Proofs.Ytmnjgoicppknjaa
