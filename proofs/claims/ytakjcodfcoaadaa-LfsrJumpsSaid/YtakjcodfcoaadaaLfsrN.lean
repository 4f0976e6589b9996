/- Jump of package lfsr and the law LfsrJumps, walked. No condition. -/
import Derived.Test.YtakjcodfcoaadaaLfsrK
namespace Go.Proofs.Ytakjcodfcoaadaa
open Go.ChangeShapes Go.WideShapes Go.ChangeAt Go.RowKit

theorem odd_half (e b : Nat) (h : b % 2 = 1) : e * b = e + 2 * e * (b / 2) := by
  obtain ⟨c, rfl⟩ : ∃ c, b = 2 * c + 1 := ⟨b / 2, by omega⟩
  rw [show (2 * c + 1) / 2 = c by omega, Nat.mul_add, Nat.mul_one, Nat.mul_left_comm, ← Nat.mul_assoc, Nat.add_comm]
theorem even_half (e b : Nat) (h : b % 2 = 0) : e * b = 2 * e * (b / 2) := by
  obtain ⟨c, rfl⟩ : ∃ c, b = 2 * c := ⟨b / 2, by omega⟩
  rw [show (2 * c) / 2 = c by omega, Nat.mul_left_comm, ← Nat.mul_assoc]

set_option maxHeartbeats 2000000 in
theorem ljump_ok (k m t s : Nat) (w : World) (hk : k < 20) (h0 : okB ((k + 1 : Nat) : Int) t 0 = true) (hs : s < 2 ^ (k + 1)) (ht : t < 2 ^ (k + 1)) (hm : m ≤ 1099511627776) :
    Calls Try.prog 31 #[.int .i64 ((k + 1 : Nat) : Int), .int .u32 t, .int .u32 s, .int .i64 m] w fun e w' => e = .returned (.tuple #[.int .u32 (lit_ (k + 1) t s m : Nat), .int .i64 0]) ∧ Below w.heap.size w w' := by
  have z := neq_of_eq (div_pow_zero s (k + 1))
  rw [decide_eq_true hs] at z
  have h0' : okB ((k : Int) + 1) t 0 = true := h0
  have HS := Lib.hid hs
  have HT := Lib.hid ht
  have ec : ((k + 1 : Nat) : Int) = (k : Int) + 1 := by omega
  have hmk := run_make_row' (P := Try.prog) 62 49 (.int .u32 0) 4 Try.underlying62 (by kernel_rfl) rfl .i64 .i64 (k + 1) (by omega) (by omega)
  rw [ec] at hmk
  have EC := Lib.hid ec
  clear hs ht ec
  go_enter Try.func31, Try.ntmps31
  go_wp2_with ((go_at_call 27; refine (lright_any _ _ _).mono ?_; rintro e w' ⟨rfl, rfl⟩))
  clear z h0'
  have hrow0 := World.rowIs_made w (.int .u32 0) (k + 1) 49
  go_loopw [37] (fun i wr => ∃ j : Nat, j ≤ k + 1 ∧ i = .int .i64 j ∧ wr.rowIs w.heap.size 49 (k + 1) (fun i => .int .u32 ((if i < j then lit_ (k + 1) t (2 ^ i) 1 else 0 : Nat) : Int)) ∧ Below w.heap.size w wr) (fun i _ => k + 1 - (intOf i).toNat)
  case atStart => exact ⟨0, Nat.zero_le _, rfl, hrow0.congr (fun i _ => by simp), (Below.refl _ _).alloc (Nat.le_refl _) _⟩
  case round =>
    obtain ⟨j, hj, rfl, hrow, hbel⟩ := hrel
    by_cases hlt : j < k + 1
    · have hpw : 2 ^ j < 2 ^ (k + 1) := Nat.pow_lt_pow_right (by decide) hlt
      have e1 := pow_mod32 j (by omega)
      have hcell := hrow.cell hlt
      have hfr := hrow.frozen j
      have HP := Lib.hid hpw
      have HR : Hid (lit_ (k + 1) t (2 ^ j) 1 = lstep (k + 1) t (2 ^ j)) := rfl
      clear hpw
      go_wp2_with (first | (go_at_call 24; refine (lstep_ok k t _ _ hk h0 HP.out HT.out).mono ?_; rintro e w1 ⟨rfl, n1, rfl⟩))
      go_roundw
      case rel =>
        refine ⟨j + 1, by omega, by go_num, (rowIs_drewN (hrow.set j _) n1).congr ?_, below_drewN (hbel.setCell (by simp) _) n1⟩
        intro i hi
        by_cases hij : i = j
        · subst hij; simp [HR.out]
        · simp [hij, show (i < j + 1) = (i < j) by simp; omega]
      case measure => simp [intOf]; omega
    · have hje : Hid (j = k + 1) := by unfold Hid; omega
      have hrow1 : wr.rowIs w.heap.size 49 (k + 1) (fun i => .int .u32 (lit_ (k + 1) t (2 ^ i) 1 : Nat)) := hrow.congr (fun i hi => by rw [hje.out]; simp [hi])
      clear hrow
      go_wp2
      clear hlt
      go_loopw [2, 3, 10] (fun sv bv cv wr => ∃ (e b st g : Nat), b ≤ 1099511627776 ∧ st < 2 ^ (k + 1) ∧ sv = .int .u32 st ∧ bv = .int .i64 b ∧ cv = .slice (some ⟨g, 0, none⟩) (k + 1) (k + 1) ∧ w.heap.size ≤ g ∧ wr.rowIs g 49 (k + 1) (fun i => .int .u32 (lit_ (k + 1) t (2 ^ i) e : Nat)) ∧ Hid (lit_ (k + 1) t s m = lit_ (k + 1) t st (e * b)) ∧ Below w.heap.size w wr) (fun _ bv _ _ => (intOf bv).toNat)
      case atStart => exact ⟨1, m, s, _, hm, HS.out, rfl, rfl, rfl, Nat.le_refl _, hrow1, by unfold Hid; rw [Nat.one_mul], hbel⟩
      case round =>
        clear hrow1 hbel hj hje
        obtain ⟨e, b, st, g, hbm, hst, rfl, rfl, rfl, hg, hrow, hinv, hbel⟩ := hrel
        have HST := Lib.hid hst
        have HCL : Hid (∀ i, i < k + 1 → lit_ (k + 1) t (2 ^ i) e < 2 ^ (k + 1)) := fun i hi => lit_lt (k + 1) t (2 ^ i) (by omega) (Nat.pow_lt_pow_right (by decide) hi) e
        clear hst
        by_cases hb : b = 0
        · have hb' := Lib.hid hb
          have hb2 : ¬ 0 < (b : Int) := by omega
          clear hb
          go_wp2
          go_ret2
          exact ⟨ret2_int (by rw [hinv.out, hb'.out]; rfl), hbel⟩
        have hb2 : 0 < (b : Int) := by omega
        have hb3 : decide (0 < b) = true := decide_eq_true (by omega)
        have HB := Lib.hid hb
        clear hb
        by_cases hpar : b % 2 = 1
        · have b1 : ((b : Int) % 2 == 1) = true := by simp; omega
          have HP := Lib.hid hpar
          clear hpar
          have hmk2 := run_make_row' (P := Try.prog) 62 49 (.int .u32 0) 4 Try.underlying62 (by kernel_rfl) rfl .i64 .i64 (k + 1) (by omega) (by omega)
          rw [EC.out] at hmk2
          go_wp2_with (first | (go_at_call 46; refine (all_any k g (fun i => lit_ (k + 1) t (2 ^ i) e) st _ hk HST.out HCL.out hrow).mono ?_; rintro e1 w1 ⟨rfl, rfl⟩))
          clear hmk2
          have hr0 := World.rowIs_made wr (.int .u32 0) (k + 1) 49
          have hr1 := hrow.alloc (.cells (madeCells #[.int .u32 0] (k + 1)) 49)
          have hg2 := hrow.lt
          have hb0 : Below w.heap.size w (wr.alloc (.cells (madeCells #[.int .u32 0] (k + 1)) 49)) := hbel.alloc hbel.size _
          have hsz := hbel.size
          go_loopw [67] (fun i wq => ∃ j : Nat, j ≤ k + 1 ∧ i = .int .i64 j ∧ wq.rowIs wr.heap.size 49 (k + 1) (fun i => .int .u32 ((if i < j then comb (fun i => lit_ (k + 1) t (2 ^ i) e) (lit_ (k + 1) t (2 ^ i) e) (k + 1) else 0 : Nat) : Int)) ∧ wq.rowIs g 49 (k + 1) (fun i => .int .u32 (lit_ (k + 1) t (2 ^ i) e : Nat)) ∧ Below w.heap.size w wq) (fun i _ => k + 1 - (intOf i).toNat)
          case atStart => exact ⟨0, Nat.zero_le _, rfl, hr0.congr (fun i _ => by simp), hr1, hb0⟩
          case round =>
            clear hr0 hr1 hb0 hrow hbel
            obtain ⟨j, hj, rfl, hr0, hr1, hb0⟩ := hrel
            by_cases hlt : j < k + 1
            · have hcell := hr1.cell hlt
              have hcell0 := hr0.cell hlt
              have hfr := hr0.frozen j
              go_wp2_with (first | (go_at_call 46; refine (all_any k g (fun i => lit_ (k + 1) t (2 ^ i) e) _ _ hk (HCL.out j hlt) HCL.out hr1).mono ?_; rintro e1 w1 ⟨rfl, rfl⟩))
              go_roundw
              case rel =>
                refine ⟨j + 1, by omega, by go_num, (hr0.set j _).congr ?_, hr1.setOther (by simp; omega) _, hb0.setCell (by simp; omega) _⟩
                intro i hi
                by_cases hij : i = j
                · subst hij; simp
                · simp [hij, show (i < j + 1) = (i < j) by simp; omega]
              case measure => simp [intOf]; omega
            · have hje : Hid (j = k + 1) := by unfold Hid; omega
              go_wp2
              go_roundw
              case rel =>
                refine ⟨2 * e, b / 2, comb (fun i => lit_ (k + 1) t (2 ^ i) e) st (k + 1), _, by omega, comb_lt (fun i => lit_ (k + 1) t (2 ^ i) e) st (k + 1) (k + 1) HCL.out, rfl, by go_num, rfl, hsz, hr0.congr ?_, ?_, hb0⟩
                · intro i hi
                  rw [hje.out]
                  simp only [if_pos hi]
                  rw [comb_lit (k + 1) t e _ (k + 1) (by omega) (HCL.out i hi), ← lit_add, show e + e = 2 * e by omega]
                · unfold Hid; rw [hinv.out, comb_lit (k + 1) t e st (k + 1) (by omega) HST.out, ← lit_add]; congr 1; exact odd_half e b HP.out
              case measure => simp [intOf]; omega
        · have b1 : ((b : Int) % 2 == 1) = false := by simp; omega
          have HP := Lib.hid hpar
          clear hpar
          have hmk2 := run_make_row' (P := Try.prog) 62 49 (.int .u32 0) 4 Try.underlying62 (by kernel_rfl) rfl .i64 .i64 (k + 1) (by omega) (by omega)
          rw [EC.out] at hmk2
          go_wp2
          clear hmk2
          have hr0 := World.rowIs_made wr (.int .u32 0) (k + 1) 49
          have hr1 := hrow.alloc (.cells (madeCells #[.int .u32 0] (k + 1)) 49)
          have hg2 := hrow.lt
          have hb0 : Below w.heap.size w (wr.alloc (.cells (madeCells #[.int .u32 0] (k + 1)) 49)) := hbel.alloc hbel.size _
          have hsz := hbel.size
          go_loopw [67] (fun i wq => ∃ j : Nat, j ≤ k + 1 ∧ i = .int .i64 j ∧ wq.rowIs wr.heap.size 49 (k + 1) (fun i => .int .u32 ((if i < j then comb (fun i => lit_ (k + 1) t (2 ^ i) e) (lit_ (k + 1) t (2 ^ i) e) (k + 1) else 0 : Nat) : Int)) ∧ wq.rowIs g 49 (k + 1) (fun i => .int .u32 (lit_ (k + 1) t (2 ^ i) e : Nat)) ∧ Below w.heap.size w wq) (fun i _ => k + 1 - (intOf i).toNat)
          case atStart => exact ⟨0, Nat.zero_le _, rfl, hr0.congr (fun i _ => by simp), hr1, hb0⟩
          case round =>
            clear hr0 hr1 hb0 hrow hbel
            obtain ⟨j, hj, rfl, hr0, hr1, hb0⟩ := hrel
            by_cases hlt : j < k + 1
            · have hcell := hr1.cell hlt
              have hcell0 := hr0.cell hlt
              have hfr := hr0.frozen j
              go_wp2_with (first | (go_at_call 46; refine (all_any k g (fun i => lit_ (k + 1) t (2 ^ i) e) _ _ hk (HCL.out j hlt) HCL.out hr1).mono ?_; rintro e1 w1 ⟨rfl, rfl⟩))
              go_roundw
              case rel =>
                refine ⟨j + 1, by omega, by go_num, (hr0.set j _).congr ?_, hr1.setOther (by simp; omega) _, hb0.setCell (by simp; omega) _⟩
                intro i hi
                by_cases hij : i = j
                · subst hij; simp
                · simp [hij, show (i < j + 1) = (i < j) by simp; omega]
              case measure => simp [intOf]; omega
            · have hje : Hid (j = k + 1) := by unfold Hid; omega
              go_wp2
              go_roundw
              case rel =>
                refine ⟨2 * e, b / 2, st, _, by omega, HST.out, rfl, by go_num, rfl, hsz, hr0.congr ?_, ?_, hb0⟩
                · intro i hi
                  rw [hje.out]
                  simp only [if_pos hi]
                  rw [comb_lit (k + 1) t e _ (k + 1) (by omega) (HCL.out i hi), ← lit_add, show e + e = 2 * e by omega]
                · unfold Hid; rw [hinv.out]; congr 1; exact even_half e b (by have := HP.out; omega)
              case measure => simp [intOf]; omega

theorem LfsrJumps_bad (n : Int) (t s : Nat) (m : Int) (w : World) (h : okB n t s = false) :
    Calls Try.prog 8 #[.int .i64 n, .int .u32 t, .int .u32 s, .int .i64 m] w fun e w' => e = .returned (.bool true) ∧ Below w.heap.size w w' := by
  go_enter Try.func8, Try.ntmps8
  go_wp2_with (first | (go_at_call 30; refine (lperiod_bad _ _ _ _ h).mono ?_; rintro e w' ⟨rfl, rfl⟩) | (go_at_call 31; refine (ljump_bad _ _ _ _ _ h).mono ?_; rintro e w' ⟨rfl, rfl⟩) | (go_at_call 28; refine (nright_any _ _ _ _).mono ?_; rintro e w' ⟨rfl, rfl⟩))
  go_ret
  exact ⟨rfl, Below.refl _ _⟩

set_option maxHeartbeats 1000000 in
theorem LfsrJumps_range (k t s Q : Nat) (m : Int) (w : World) (hk : k < 20) (h0 : okB ((k + 1 : Nat) : Int) t 0 = true) (ht : t < 2 ^ (k + 1)) (hs : s < 2 ^ (k + 1)) (hQ : IsPeriod (k + 1) t s Q) (hm : m < 0 ∨ 1099511627776 < m) :
    Calls Try.prog 8 #[.int .i64 ((k + 1 : Nat) : Int), .int .u32 t, .int .u32 s, .int .i64 m] w fun e w' => e = .returned (.bool true) ∧ Below w.heap.size w w' := by
  have h1' : okB ((k : Int) + 1) t s = true := okB_mk k t s h0 hs
  have HQ : Hid (IsPeriod (k + 1) t s Q) := hQ
  have HS := Lib.hid hs
  have HT := Lib.hid ht
  have HM := Lib.hid hm
  clear hQ hs ht
  by_cases h1 : m < 0
  · clear hm
    go_enter Try.func8, Try.ntmps8
    go_wp2_with (first | (go_at_call 30; refine (lperiod_ok k t s Q _ hk h0 HS.out HT.out HQ.out).mono ?_; rintro e w1 ⟨rfl, n1, rfl⟩) | (go_at_call 31; refine (ljump_range k m t s _ hk h0 HS.out HM.out).mono ?_; rintro e w' ⟨rfl, rfl⟩) | (go_at_call 28; refine (nright_any _ _ _ _).mono ?_; rintro e w' ⟨rfl, rfl⟩) | (go_at_call 32; refine (nperiod_any k t s Q _ hk HS.out HQ.out).mono ?_; rintro e w' ⟨rfl, rfl⟩))
    go_ret
    exact ⟨rfl, below_drewN (Below.refl _ _) _⟩
  · have h2 : 1099511627776 < m := by omega
    clear hm
    go_enter Try.func8, Try.ntmps8
    go_wp2_with (first | (go_at_call 30; refine (lperiod_ok k t s Q _ hk h0 HS.out HT.out HQ.out).mono ?_; rintro e w1 ⟨rfl, n1, rfl⟩) | (go_at_call 31; refine (ljump_range k m t s _ hk h0 HS.out HM.out).mono ?_; rintro e w' ⟨rfl, rfl⟩) | (go_at_call 28; refine (nright_any _ _ _ _).mono ?_; rintro e w' ⟨rfl, rfl⟩) | (go_at_call 32; refine (nperiod_any k t s Q _ hk HS.out HQ.out).mono ?_; rintro e w' ⟨rfl, rfl⟩))
    go_ret
    exact ⟨rfl, below_drewN (Below.refl _ _) _⟩

set_option maxHeartbeats 2000000 in
theorem LfsrJumps_good (k t s Q m : Nat) (w : World) (hk : k < 20) (h0 : okB ((k + 1 : Nat) : Int) t 0 = true) (ht : t < 2 ^ (k + 1)) (hs : s < 2 ^ (k + 1)) (hQ : IsPeriod (k + 1) t s Q) (hm : m ≤ 1099511627776) :
    Calls Try.prog 8 #[.int .i64 ((k + 1 : Nat) : Int), .int .u32 t, .int .u32 s, .int .i64 m] w fun e w' => e = .returned (.bool true) ∧ Below w.heap.size w w' := by
  have h1' : okB ((k : Int) + 1) t s = true := okB_mk k t s h0 hs
  have HQ : Hid (IsPeriod (k + 1) t s Q) := hQ
  have q1 : 1 ≤ Q := hQ.1
  have q2 : Q ≤ 1048576 := Nat.le_trans hQ.2.1 (pow_le20 hk)
  have hmod := lit_mod (k + 1) t s Q m hQ.2.2.1
  have HS := Lib.hid hs
  have HT := Lib.hid ht
  have HM := Lib.hid hmod
  have hr := Nat.mod_lt m (show 0 < Q by omega)
  clear hQ hs ht hmod
  go_enter Try.func8, Try.ntmps8
  go_wp2_with (first | (go_at_call 30; refine (lperiod_ok k t s Q _ hk h0 HS.out HT.out HQ.out).mono ?_; rintro e w1 ⟨rfl, n1, rfl⟩) | (go_at_call 31; refine (ljump_ok k m t s _ hk h0 HS.out HT.out hm).mono ?_; rintro e w2 ⟨rfl, hb2⟩; have hsz := hb2.size) | (go_at_call 28; refine (nright_any _ _ _ _).mono ?_; rintro e w' ⟨rfl, rfl⟩) | (go_at_call 32; refine (nperiod_any k t s Q _ hk HS.out HQ.out).mono ?_; rintro e w' ⟨rfl, rfl⟩))
  have hbel : Below w.heap.size w w2 := (below_drewN (Below.refl _ _) _).trans hb2
  clear h1' hb2
  go_loop [14, 77] (fun x i => ∃ j : Nat, j ≤ m % Q ∧ i = .int .i64 j ∧ x = .int .u32 (lit_ (k + 1) t s j : Nat)) (fun _ i => m % Q - (intOf i).toNat)
  case atStart => exact ⟨0, Nat.zero_le _, rfl, rfl⟩
  case round =>
    obtain ⟨j, hj, rfl, rfl⟩ := hrel
    by_cases hlt : j < m % Q
    · have hL := Lib.hid (lit_lt (k + 1) t s (by omega) HS.out j)
      have hc : (j : Int) < (m : Int) % (Q : Int) := by omega
      go_wp2_with (first | (go_at_call 29; refine (nstep_any k t _ _ hk hL.out).mono ?_; rintro e w' ⟨rfl, rfl⟩))
      go_round
      case rel => exact ⟨j + 1, by omega, by go_num, rfl⟩
      case measure => simp [intOf]; omega
    · have hje : Hid (j = m % Q) := by unfold Hid; omega
      have hc : ¬ (j : Int) < (m : Int) % (Q : Int) := by omega
      have hfin : (((lit_ (k + 1) t s m : Nat) : Int) == ((lit_ (k + 1) t s j : Nat) : Int)) = true := by rw [hje.out, HM.out]; simp
      go_wp2
      go_ret
      exact ⟨rfl, hbel⟩

theorem LfsrJumps_walk (a0 a1 a2 a3 : Int) (w : World) (_w0 : (Lit.int .i64 a0).wf = true) (w1 : (Lit.int .u32 a1).wf = true) (w2 : (Lit.int .u32 a2).wf = true) (_w3 : (Lit.int .i64 a3).wf = true) :
    Calls Try.prog 8 #[.int .i64 a0, .int .u32 a1, .int .u32 a2, .int .i64 a3] w fun e w' => e = .returned (.bool true) ∧ Below w.heap.size w w' := by
  have b1 := bounds_u32 w1
  have b2 := bounds_u32 w2
  obtain ⟨t, rfl⟩ := Int.eq_ofNat_of_zero_le b1.1
  obtain ⟨s, rfl⟩ := Int.eq_ofNat_of_zero_le b2.1
  by_cases h : okB a0 t s = true
  · have h0 := okB_zero h
    obtain ⟨k, rfl, hk, h1, h2, h3⟩ := okB_parts h
    obtain ⟨Q, hQ⟩ := period_is (k + 1) t s (by omega) h3 h1 h2
    by_cases hm : a3 < 0 ∨ 1099511627776 < a3
    · exact LfsrJumps_range k t s Q a3 w hk h0 h2 h3 hQ hm
    · obtain ⟨m, rfl⟩ := Int.eq_ofNat_of_zero_le (show 0 ≤ a3 by omega)
      exact LfsrJumps_good k t s Q m w hk h0 h2 h3 hQ (by omega)
  · exact LfsrJumps_bad a0 t s a3 w (by simpa using h)
end Go.Proofs.Ytakjcodfcoaadaa
