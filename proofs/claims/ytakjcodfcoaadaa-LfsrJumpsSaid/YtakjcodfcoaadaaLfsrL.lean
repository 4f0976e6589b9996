/- Row of package lfsr, and the law LfsrSteps, walked. No condition. -/
import Derived.Test.YtakjcodfcoaadaaLfsrW
namespace Go.Proofs.Ytakjcodfcoaadaa
open Go.ChangeShapes Go.WideShapes Go.ChangeAt Go.RowKit

/-- The state behind j steps. -/
def lit_ (n t s : Nat) : Nat → Nat
  | 0 => s
  | j + 1 => lstep n t (lit_ n t s j)
theorem lit_lt (n t s : Nat) (h : 1 ≤ n) (hs : s < 2 ^ n) (j : Nat) : lit_ n t s j < 2 ^ n := by
  cases j with
  | zero => exact hs
  | succ j => exact lstep_lt n t _ h
/-- The bits of a row. -/
def lrow (k t s j : Nat) : List Bool := (List.range j).map fun i => decide (2 ^ k ≤ lit_ (k + 1) t s i)
theorem lrow_succ (k t s j : Nat) : lrow k t s (j + 1) = lrow k t s j ++ [decide (2 ^ k ≤ lit_ (k + 1) t s j)] := by
  unfold lrow; rw [List.range_succ, List.map_append]; rfl
theorem lrow_len (k t s j : Nat) : (lrow k t s j).length = j := by simp [lrow]

theorem lrow_get (k t s m j : Nat) (h : j < (lrow k t s m).length) : (lrow k t s m)[j] = decide (2 ^ k ≤ lit_ (k + 1) t s j) := by simp [lrow]

theorem lrow_bad (n m : Int) (t s : Nat) (w : World) (h : okB n t s = false) :
    Calls Try.prog 26 #[.int .i64 n, .int .u32 t, .int .u32 s, .int .i64 m] w fun e w' => e = .returned (.tuple #[.slice none 0 0, .int .i64 1]) ∧ w = w' := by
  by_cases h0 : okB n t 0 = true
  · obtain ⟨k, rfl, hk, hs⟩ := okB_bad h h0
    have z := neq_of_eq (div_pow_zero s (k + 1))
    rw [decide_eq_false hs] at z
    clear h
    go_enter Try.func26, Try.ntmps26
    go_wp2_with (go_at_call 27; refine (lright_any _ _ _).mono ?_; rintro e w' ⟨rfl, rfl⟩)
    go_ret2
    exact ⟨rfl, rfl⟩
  · have h0' : okB n t 0 = false := by simpa using h0
    clear h h0
    go_enter Try.func26, Try.ntmps26
    go_wp2_with (go_at_call 27; refine (lright_any _ _ _).mono ?_; rintro e w' ⟨rfl, rfl⟩)
    go_ret2
    exact ⟨rfl, rfl⟩
theorem lrow_range (k : Nat) (m : Int) (t s : Nat) (w : World) (hk : k < 20) (h0 : okB ((k + 1 : Nat) : Int) t 0 = true) (hs : s < 2 ^ (k + 1)) (hm : m < 0 ∨ 400 < m) :
    Calls Try.prog 26 #[.int .i64 ((k + 1 : Nat) : Int), .int .u32 t, .int .u32 s, .int .i64 m] w fun e w' => e = .returned (.tuple #[.slice none 0 0, .int .i64 2]) ∧ w = w' := by
  have z := neq_of_eq (div_pow_zero s (k + 1))
  rw [decide_eq_true hs] at z
  have h0' : okB ((k : Int) + 1) t 0 = true := h0
  by_cases h1 : m < 0
  · clear hm
    go_enter Try.func26, Try.ntmps26
    go_wp2_with (go_at_call 27; refine (lright_any _ _ _).mono ?_; rintro e w' ⟨rfl, rfl⟩)
    go_ret2
    exact ⟨rfl, rfl⟩
  · have h2 : 400 < m := by omega
    clear hm
    go_enter Try.func26, Try.ntmps26
    go_wp2_with (go_at_call 27; refine (lright_any _ _ _).mono ?_; rintro e w' ⟨rfl, rfl⟩)
    go_ret2
    exact ⟨rfl, rfl⟩

theorem top_bit (k s : Nat) (hk : k < 20) (hs : s < 2 ^ (k + 1)) : (bits .and .u32 ((s : Int) / 2 ^ k) 1 == 1) = decide (2 ^ k ≤ s) := by
  have hp := pow_le20 hk
  have hd : s / 2 ^ k < 2 := by
    rw [Nat.div_lt_iff_lt_mul (Nat.pow_pos (by decide))]
    rw [Nat.pow_succ] at hs
    omega
  have h1 : bits .and .u32 ((s : Int) / 2 ^ k) 1 = ((s : Int) / 2 ^ k) := by
    rw [cast_div_pow]
    have := u32_and_nat (s / 2 ^ k) 1 (by omega) (by omega)
    rw [nat_mask1, Nat.mod_eq_of_lt hd] at this
    exact this
  rw [h1]
  exact div_pow_one s k hs

/-- A result that is a new slice (or nil) with the cells xs. -/
def IsSlice (w : World) (v : Value) (xs : List Value) : Prop := ∃ A c, v = .slice A xs.length c ∧ xs.length ≤ c ∧ Seg w w.heap.size A xs

set_option maxHeartbeats 1000000 in
theorem lrow_ok (k m : Nat) (t s : Nat) (w : World) (hk : k < 20) (h0 : okB ((k + 1 : Nat) : Int) t 0 = true) (hs : s < 2 ^ (k + 1)) (ht : t < 2 ^ (k + 1)) (hm : m ≤ 400) :
    Calls Try.prog 26 #[.int .i64 ((k + 1 : Nat) : Int), .int .u32 t, .int .u32 s, .int .i64 m] w fun e w' => (∃ v, e = .returned (.tuple #[v, .int .i64 0]) ∧ IsSlice w' v ((lrow k t s m).map .bool)) ∧ Below w.heap.size w w' := by
  have z := neq_of_eq (div_pow_zero s (k + 1))
  rw [decide_eq_true hs] at z
  have Hs := Lib.hid hs
  clear hs
  go_enter Try.func26, Try.ntmps26
  go_wp2_with (first | (go_at_call 27; refine (lright_any _ _ _).mono ?_; rintro e w' ⟨rfl, rfl⟩) | fail)
  clear z
  go_loopw [2, 10, 30] (fun st v i wr => ∃ j : Nat, j ≤ m ∧ i = .int .i64 j ∧ st = .int .u32 (lit_ (k + 1) t s j : Nat) ∧ Own wr w.heap.size 4 v ((lrow k t s j).map .bool) ∧ Below w.heap.size w wr) (fun _ _ i _ => m - (intOf i).toNat)
  case atStart => exact ⟨0, Nat.zero_le _, rfl, rfl, Own.none_, Below.refl _ _⟩
  case round =>
    obtain ⟨j, hj, rfl, rfl, hown, hbel⟩ := hrel
    by_cases hlt : j < m
    · have hL := lit_lt (k + 1) t s (by omega) Hs.out j
      have tb := top_bit k _ hk hL
      have hrow : Hid (lrow k t s (j + 1) = lrow k t s j ++ [decide (2 ^ k ≤ lit_ (k + 1) t s j)]) := lrow_succ k t s j
      have hlen := lrow_len k t s j
      have HL := Lib.hid hL
      clear hL
      go_wp2_with (first
        | (at_builtin; go_must (refine wpList_push _ rfl _ _ 36 4 1 elem_bools rfl w.heap.size _ _ rfl (hown.alloc _) (.bool (decide (2 ^ k ≤ lit_ (k + 1) t s j))) ⟨wr.heap.size, 0, none⟩ 1 rfl (cell_new1 _ _ _) rfl (by rw [List.length_map, hlen]; omega) (by rw [List.length_map, hlen]; unfold maxLen; omega) (by have := hbel.size; simp; omega) ?_); intro v1 w1 hown1 hbel1))
      have hL' := HL.out
      refine (lstep_ok k t _ _ hk h0 hL' ht).mono ?_
      rintro e w2 ⟨rfl, nq, rfl⟩
      clear hL'
      go_wp2
      go_roundw
      case rel =>
        refine ⟨j + 1, by omega, by go_num, rfl, ?_, ?_⟩
        · have := hown1
          rw [hrow.out, List.map_append]
          exact this
        · exact below_drewN (hbel.trans (((Below.refl _ _).alloc hbel.size _).trans hbel1)) _
      case measure => simp [intOf]; omega
    · have hje : j = m := by omega
      subst hje
      go_wp2
      go_ret2
      exact ⟨⟨_, rfl, hown.res⟩, hbel⟩

theorem LfsrSteps_bad (n : Int) (t s : Nat) (m : Int) (w : World) (h : okB n t s = false) :
    Calls Try.prog 7 #[.int .i64 n, .int .u32 t, .int .u32 s, .int .i64 m] w fun e w' => e = .returned (.bool true) ∧ Below w.heap.size w w' := by
  go_enter Try.func7, Try.ntmps7
  go_wp2_with (first | (go_at_call 24; refine (lstep_bad _ _ _ _ h).mono ?_; rintro e w' ⟨rfl, rfl⟩) | (go_at_call 25; refine (lback_bad _ _ _ _ h).mono ?_; rintro e w' ⟨rfl, rfl⟩) | (go_at_call 26; refine (lrow_bad _ _ _ _ _ h).mono ?_; rintro e w' ⟨rfl, rfl⟩) | (go_at_call 27; refine (lright_any _ _ _).mono ?_; rintro e w' ⟨rfl, rfl⟩) | (go_at_call 28; refine (nright_any _ _ _ _).mono ?_; rintro e w' ⟨rfl, rfl⟩))
  go_ret
  exact ⟨rfl, Below.refl _ _⟩

theorem lt_pow_int {a k : Nat} (h : a < 2 ^ k) : (a : Int) < 2 ^ k := by
  have e : ((2 : Int) ^ k) = ((2 ^ k : Nat) : Int) := by rw [Int.natCast_pow]; rfl
  rw [e]; omega
theorem okB_mk (k t s : Nat) (h0 : okB ((k + 1 : Nat) : Int) t 0 = true) (hs : s < 2 ^ (k + 1)) : okB ((k + 1 : Nat) : Int) t s = true := by
  unfold okB at *
  rw [Int.toNat_natCast] at *
  simp only [decide_eq_true_eq] at *
  exact ⟨h0.1, h0.2.1, h0.2.2.1, h0.2.2.2.1, hs⟩

set_option maxHeartbeats 1000000 in
theorem LfsrSteps_range (k t s : Nat) (m : Int) (w : World) (hk : k < 20) (h0 : okB ((k + 1 : Nat) : Int) t 0 = true) (ht0 : 2 ^ k ≤ t) (ht : t < 2 ^ (k + 1)) (hs : s < 2 ^ (k + 1)) (hm : m < 0 ∨ 400 < m) :
    Calls Try.prog 7 #[.int .i64 ((k + 1 : Nat) : Int), .int .u32 t, .int .u32 s, .int .i64 m] w fun e w' => e = .returned (.bool true) ∧ Below w.heap.size w w' := by
  have hb := lback_lt (k + 1) t s (by omega) hs
  have hbi := lt_pow_int hb
  have HB : (((lstep (k + 1) t (lback (k + 1) t s) : Nat) : Int) != (s : Int)) = false := by rw [lback_step (k + 1) t s (by omega) hs ht0 ht]; simp
  have h0' : okB ((k : Int) + 1) t 0 = true := h0
  have h1' : okB ((k : Int) + 1) t s = true := okB_mk k t s h0 hs
  have e1 := pow_mod32 (k + 1) (by omega)
  by_cases h1 : m < 0
  · go_enter Try.func7, Try.ntmps7
    go_wp2_with (first | (go_at_call 24; refine (lstep_ok k t s _ hk h0 hs ht).mono ?_; rintro e w1 ⟨rfl, n1, rfl⟩) | (go_at_call 25; refine (lback_ok k t s _ hk h0 hs ht).mono ?_; rintro e w2 ⟨rfl, n2, rfl⟩) | (go_at_call 26; refine (lrow_range k m t s _ hk h0 hs hm).mono ?_; rintro e w' ⟨rfl, rfl⟩) | (go_at_call 27; refine (lright_any _ _ _).mono ?_; rintro e w' ⟨rfl, rfl⟩) | (go_at_call 28; refine (nright_any _ _ _ _).mono ?_; rintro e w' ⟨rfl, rfl⟩) | (go_at_call 29; refine (nstep_any k t _ _ hk (by assumption)).mono ?_; rintro e w' ⟨rfl, rfl⟩))
    go_ret
    exact ⟨rfl, below_drewN (Below.refl _ _) _⟩
  · have h2 : 400 < m := by omega
    go_enter Try.func7, Try.ntmps7
    go_wp2_with (first | (go_at_call 24; refine (lstep_ok k t s _ hk h0 hs ht).mono ?_; rintro e w1 ⟨rfl, n1, rfl⟩) | (go_at_call 25; refine (lback_ok k t s _ hk h0 hs ht).mono ?_; rintro e w2 ⟨rfl, n2, rfl⟩) | (go_at_call 26; refine (lrow_range k m t s _ hk h0 hs hm).mono ?_; rintro e w' ⟨rfl, rfl⟩) | (go_at_call 27; refine (lright_any _ _ _).mono ?_; rintro e w' ⟨rfl, rfl⟩) | (go_at_call 28; refine (nright_any _ _ _ _).mono ?_; rintro e w' ⟨rfl, rfl⟩) | (go_at_call 29; refine (nstep_any k t _ _ hk (by assumption)).mono ?_; rintro e w' ⟨rfl, rfl⟩))
    go_ret
    exact ⟨rfl, below_drewN (Below.refl _ _) _⟩

theorem ge_pow_form (s k : Nat) (hk : k < 20) : decide ((2 : Int) ^ k % 4294967296 ≤ (s : Int)) = decide (2 ^ k ≤ s) := by
  rw [pow_mod32 k (by omega), Bool.eq_iff_iff]
  simp only [decide_eq_true_eq]
  omega

set_option maxHeartbeats 2000000 in
theorem LfsrSteps_good (k t s m : Nat) (w : World) (hk : k < 20) (h0 : okB ((k + 1 : Nat) : Int) t 0 = true) (ht0 : 2 ^ k ≤ t) (ht : t < 2 ^ (k + 1)) (hs : s < 2 ^ (k + 1)) (hm : m ≤ 400) :
    Calls Try.prog 7 #[.int .i64 ((k + 1 : Nat) : Int), .int .u32 t, .int .u32 s, .int .i64 m] w fun e w' => e = .returned (.bool true) ∧ Below w.heap.size w w' := by
  have hb := lback_lt (k + 1) t s (by omega) hs
  have hbi := lt_pow_int hb
  have HB : (((lstep (k + 1) t (lback (k + 1) t s) : Nat) : Int) != (s : Int)) = false := by rw [lback_step (k + 1) t s (by omega) hs ht0 ht]; simp
  have h0' : okB ((k : Int) + 1) t 0 = true := h0
  have h1' : okB ((k : Int) + 1) t s = true := okB_mk k t s h0 hs
  have e1 := pow_mod32 (k + 1) (by omega)
  go_enter Try.func7, Try.ntmps7
  go_wp2_with (first | (go_at_call 24; refine (lstep_ok k t s _ hk h0 hs ht).mono ?_; rintro e w1 ⟨rfl, n1, rfl⟩) | (go_at_call 25; refine (lback_ok k t s _ hk h0 hs ht).mono ?_; rintro e w2 ⟨rfl, n2, rfl⟩) | (go_at_call 26; refine (lrow_ok k m t s _ hk h0 hs ht hm).mono ?_; rintro e w3 ⟨⟨v, rfl, A, c, rfl, hlc, hseg⟩, hb3⟩; have hsz := hb3.size) | (go_at_call 27; refine (lright_any _ _ _).mono ?_; rintro e w' ⟨rfl, rfl⟩) | (go_at_call 28; refine (nright_any _ _ _ _).mono ?_; rintro e w' ⟨rfl, rfl⟩) | (go_at_call 29; refine (nstep_any k t _ _ hk (by assumption)).mono ?_; rintro e w' ⟨rfl, rfl⟩))
  clear HB
  have hlen : Hid ((lrow k t s m).length = m) := lrow_len k t s m
  have hle : (lrow k t s m).length ≤ 400 := by rw [hlen.out]; exact hm
  have hbel : Below w.heap.size w w3 := (below_drewN (Below.refl _ _) (n1 + n2)).trans hb3
  have hll : (((lrow k t s m).length : Int) == (m : Int)) = true := by rw [hlen.out]; simp
  clear hb3 h0' h1'
  go_loopw [15, 121] (fun x i wr => ∃ j : Nat, j ≤ (lrow k t s m).length ∧ i = .int .i64 j ∧ x = .int .u32 (lit_ (k + 1) t s j : Nat) ∧ ∃ n, wr = w3.drewN n) (fun _ i _ => (lrow k t s m).length - (intOf i).toNat)
  case atStart => exact ⟨0, Nat.zero_le _, rfl, rfl, 0, rfl⟩
  case round =>
    obtain ⟨j, hj, rfl, rfl, n, rfl⟩ := hrel
    by_cases hlt : j < (lrow k t s m).length
    · have hL := lit_lt (k + 1) t s (by omega) hs j
      obtain ⟨ad, rfl, hab, hc⟩ := hseg.bool hlt
      rw [lrow_get] at hc
      have hc' : (w3.drewN n).cell? (ad.add j) = some (.bool (decide (2 ^ k ≤ lit_ (k + 1) t s j))) := hc
      have e2 := pow_mod32 k (by omega)
      have hL' := hL
      generalize 2 ^ k = P at hc' e2
      clear hc e1 hbi hL
      by_cases hP : P ≤ lit_ (k + 1) t s j
      · rw [decide_eq_true hP] at hc'
        go_wp2_with (first | (go_at_call 29; refine (nstep_any k t _ _ hk hL').mono ?_; rintro e w' ⟨rfl, rfl⟩))
        go_roundw
        case rel => exact ⟨j + 1, by omega, by go_num, rfl, n, rfl⟩
        case measure => simp [intOf]; omega
      · rw [decide_eq_false hP] at hc'
        go_wp2_with (first | (go_at_call 29; refine (nstep_any k t _ _ hk hL').mono ?_; rintro e w' ⟨rfl, rfl⟩))
        go_roundw
        case rel => exact ⟨j + 1, by omega, by go_num, rfl, n, rfl⟩
        case measure => simp [intOf]; omega
    · go_wp2
      go_ret
      exact ⟨rfl, below_drewN hbel _⟩

theorem LfsrSteps_walk (a0 a1 a2 a3 : Int) (w : World) (_w0 : (Lit.int .i64 a0).wf = true) (w1 : (Lit.int .u32 a1).wf = true) (w2 : (Lit.int .u32 a2).wf = true) (_w3 : (Lit.int .i64 a3).wf = true) :
    Calls Try.prog 7 #[.int .i64 a0, .int .u32 a1, .int .u32 a2, .int .i64 a3] w fun e w' => e = .returned (.bool true) ∧ Below w.heap.size w w' := by
  have b1 := bounds_u32 w1
  have b2 := bounds_u32 w2
  obtain ⟨t, rfl⟩ := Int.eq_ofNat_of_zero_le b1.1
  obtain ⟨s, rfl⟩ := Int.eq_ofNat_of_zero_le b2.1
  by_cases h : okB a0 t s = true
  · have h0 := okB_zero h
    obtain ⟨k, rfl, hk, h1, h2, h3⟩ := okB_parts h
    by_cases hm : a3 < 0 ∨ 400 < a3
    · exact LfsrSteps_range k t s a3 w hk h0 h1 h2 h3 hm
    · obtain ⟨m, rfl⟩ := Int.eq_ofNat_of_zero_le (show 0 ≤ a3 by omega)
      exact LfsrSteps_good k t s m w hk h0 h1 h2 h3 (by omega)
  · exact LfsrSteps_bad a0 t s a3 w (by simpa using h)
end Go.Proofs.Ytakjcodfcoaadaa
