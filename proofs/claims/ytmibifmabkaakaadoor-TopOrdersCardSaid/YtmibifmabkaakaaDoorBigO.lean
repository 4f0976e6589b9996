/- The long division: plain. No condition. -/
import Derived.Test.YtmibifmabkaakaaDoorBigA
import Derived.Test.YtmibifmabkaakaaDoorBigX
namespace Go.Proofs.YtmibifmabkaakaaDoor
set_option linter.unusedVariables false

/-! ### q times the divisor -/
/-- What is carried, behind i digits of q times g; and the digits. -/
def pc (q : Nat) (g : Nat → Nat) : Nat → Nat
  | 0 => 0
  | i + 1 => (pc q g i + q * g i) / 4294967296
def pd (q : Nat) (g : Nat → Nat) (i : Nat) : Nat := (pc q g i + q * g i) % 4294967296
theorem pmul_lt {c q a : Nat} (hc : c < 4294967296) (hq : q < 4294967296) (ha : a < 4294967296) : c + q * a < 18446744073709551616 ∧ q * a < 18446744073709551616 := by
  have : q * a ≤ 4294967295 * 4294967295 := Nat.mul_le_mul (by omega) (by omega)
  omega
theorem pc_lt {q n : Nat} {g : Nat → Nat} (hq : q < 4294967296) (hg : fok g n) : ∀ i, i ≤ n → pc q g i < 4294967296 := by
  intro i
  induction i with
  | zero => intro _; show 0 < _; decide
  | succ i ih =>
    intro h
    have := (pmul_lt (ih (by omega)) hq (hg i (by omega))).1
    show (pc q g i + q * g i) / 4294967296 < _
    omega
theorem pd_ok (q : Nat) (g : Nat → Nat) (n : Nat) : fok (pd q g) n := fun i _ => Nat.mod_lt _ (by decide)
theorem pd_inv (q : Nat) (g : Nat → Nat) (i : Nat) : fv (pd q g) i + pc q g i * bp i = q * fv g i := by
  induction i with
  | zero => simp [fv, pc]
  | succ i ih =>
    show fv (pd q g) i + pd q g i * bp i + pc q g (i + 1) * bp (i + 1) = q * (fv g i + g i * bp i)
    have e : pd q g i * bp i + pc q g (i + 1) * bp (i + 1) = (pc q g i + q * g i) * bp i := by
      rw [bp_succ]
      unfold pd
      show _ + (pc q g i + q * g i) / 4294967296 * _ = _
      generalize pc q g i + q * g i = s
      have h := Nat.div_add_mod s 4294967296
      generalize s / 4294967296 = x at *
      generalize s % 4294967296 = r at *
      subst h
      rw [Nat.add_mul, Nat.mul_comm 4294967296 x, Nat.mul_assoc x, Nat.mul_comm 4294967296 (bp i)]
      omega
    rw [Nat.add_mul, Nat.mul_assoc q] at e
    rw [Nat.mul_add]
    omega
theorem pd_dv {q n : Nat} {g : Nat → Nat} (hq : q < 4294967296) (hg : fok g n) (h0 : g n = 0) : fv (pd q g) (n + 1) = q * fv g n := by
  have h1 := pd_inv q g (n + 1)
  have h2 := pc_lt hq hg n (Nat.le_refl _)
  have h3 : pc q g (n + 1) = 0 := by
    show (pc q g n + q * g n) / 4294967296 = 0
    rw [h0]; omega
  rw [h3, Nat.zero_mul, Nat.add_zero] at h1
  rw [h1]
  show q * (fv g n + g n * bp n) = _
  rw [h0]; simp
theorem pd_last {q n : Nat} {g : Nat → Nat} (hq : q < 4294967296) (hg : fok g n) (h0 : g n = 0) : pd q g n = pc q g n := by
  have h2 := pc_lt hq hg n (Nat.le_refl _)
  unfold pd
  rw [h0]; omega

/-! ### digits set in a row -/
def spl (h d : Nat → Nat) (k L j : Nat) : Nat := if j < k then h j else if j < k + L then d (j - k) else h j
theorem spl_zero (h d : Nat → Nat) (k j : Nat) : spl h d k 0 j = h j := by
  unfold spl; split
  · rfl
  · rw [if_neg (by omega)]
theorem spl_set (h d : Nat → Nat) (k i j : Nat) : upd (spl h d k i) (k + i) (d i) j = spl h d k (i + 1) j := by
  unfold upd spl
  by_cases e : j = k + i
  · subst e
    rw [if_pos rfl, if_neg (by omega), if_pos (by omega), show k + i - k = i by omega]
  · rw [if_neg e]
    by_cases h1 : j < k
    · rw [if_pos h1, if_pos h1]
    · rw [if_neg h1, if_neg h1]
      by_cases h2 : j < k + i
      · rw [if_pos h2, if_pos (by omega)]
      · rw [if_neg h2, if_neg (by omega)]
theorem spl_at {h d : Nat → Nat} {k L i : Nat} (hi : i < L) : spl h d k L (k + i) = d i := by
  unfold spl
  rw [if_neg (by omega), if_pos (by omega), show k + i - k = i by omega]
theorem spl_out {h d : Nat → Nat} {k L i : Nat} (hi : L ≤ i) : spl h d k L (k + i) = h (k + i) := by
  unfold spl
  rw [if_neg (by omega), if_neg (by omega)]
theorem spl_ok {h d : Nat → Nat} {k L N : Nat} (hh : fok h N) (hd : fok d L) : fok (spl h d k L) N := fun i hi => by
  unfold spl
  split
  · exact hh i hi
  · split
    · exact hd _ (by omega)
    · exact hh i hi
theorem spl_fv {h d : Nat → Nat} {k L N : Nat} (hN : k + L ≤ N) : fv (spl h d k L) N + bp k * fv (fun i => h (k + i)) L = fv h N + bp k * fv d L := by
  obtain ⟨M, rfl⟩ := Nat.exists_eq_add_of_le hN
  rw [Nat.add_assoc, fv_add, fv_add (fun i => spl h d k L (k + i)) L M, fv_add h k (L + M), fv_add (fun i => h (k + i)) L M]
  have e1 : fv (spl h d k L) k = fv h k := fv_congr fun i hi => by unfold spl; rw [if_pos hi]
  have e2 : fv (fun i => spl h d k L (k + i)) L = fv d L := fv_congr fun i hi => spl_at hi
  have e3 : fv (fun i => spl h d k L (k + (L + i))) M = fv (fun i => h (k + (L + i))) M := fv_congr fun i _ => spl_out (by omega)
  rw [e1, e2, e3, Nat.mul_add, Nat.mul_add]
  omega

/-! ### the loop of the division -/
def DInv (g hu ho : Nat → Nat) (n N K U0 : Nat) : Prop :=
  fok hu N ∧ fok ho N ∧ (∀ i, i < K → ho i = 0) ∧ (∀ i, K + n ≤ i → i < N → hu i = 0) ∧ fv (fun i => hu (K + i)) n < fv g n ∧ fv hu N + fv g n * fv ho N = U0
theorem DInv.step {g hu ho d : Nat → Nat} {n N k U0 q : Nat} (h : DInv g hu ho n N (k + 1) U0) (hg : fok g n) (hk : k + 1 + n ≤ N) (hd : fok d (n + 1)) (hq : q < 4294967296)
    (hv : fv d (n + 1) + q * fv g n = fv (fun i => hu (k + i)) (n + 1)) (hlt : fv d (n + 1) < fv g n) : DInv g (spl hu d k (n + 1)) (upd ho k q) n N k U0 := by
  obtain ⟨h1, h2, h3, h4, h5, h6⟩ := h
  have hb := fv_lt hg
  have hd0 : d n = 0 := by
    rcases Nat.eq_zero_or_pos (d n) with e | e
    · exact e
    · have := fv_top (g := d) (n := n) (by omega)
      omega
  refine ⟨spl_ok h1 hd, upd_ok h2 hq, fun i hi => ?_, fun i hi hN => ?_, ?_, ?_⟩
  · rw [upd_other (by omega)]; exact h3 i (by omega)
  · obtain ⟨j, rfl⟩ := Nat.exists_eq_add_of_le (show k ≤ i by omega)
    by_cases e : j = n
    · subst e; rw [spl_at (by omega)]; exact hd0
    · rw [spl_out (by omega)]; exact h4 _ (by omega) hN
  · rw [fv_congr (f := d) fun i hi => spl_at (by omega)]
    exact Nat.lt_of_le_of_lt (fv_mono d (by omega)) hlt
  · have e1 := spl_fv (h := hu) (d := d) (k := k) (L := n + 1) (N := N) (by omega)
    have e2 := upd_fv (h := ho) (v := q) (show k < N by omega)
    rw [h3 k (by omega), Nat.zero_mul, Nat.add_zero] at e2
    rw [← hv, Nat.mul_add] at e1
    rw [e2, Nat.mul_add]
    have e3 : fv g n * (q * bp k) = bp k * (q * fv g n) := by rw [Nat.mul_comm, Nat.mul_right_comm, Nat.mul_comm]
    omega
/-- The window is less than the divisor's next power. -/
theorem DInv.window {g hu ho : Nat → Nat} {n N k U0 : Nat} (h : DInv g hu ho n N (k + 1) U0) (hk : k < N) : fv (fun i => hu (k + i)) (n + 1) < fv g n * 4294967296 := by
  obtain ⟨h1, h2, h3, h4, h5, h6⟩ := h
  have e : fv (fun i => hu (k + i)) (1 + n) = hu k + 4294967296 * fv (fun i => hu (k + 1 + i)) n := by
    rw [fv_add]
    have e1 : fv (fun i => hu (k + i)) 1 = hu k := by simp [fv, bp]
    have e2 : fv (fun i => hu (k + (1 + i))) n = fv (fun i => hu (k + 1 + i)) n := fv_congr fun i _ => by rw [Nat.add_assoc]
    rw [e1, bp_one, e2]
  rw [Nat.add_comm n 1, e]
  have := h1 k hk
  omega

/-! ### the guess -/
theorem fv_two (f : Nat → Nat) (m : Nat) : fv f (m + 2) = (f (m + 1) * 4294967296 + f m) * bp m + fv f m := by
  show fv f m + f m * bp m + f (m + 1) * bp (m + 1) = _
  rw [bp_succ, Nat.add_mul, Nat.mul_assoc, Nat.mul_comm 4294967296 (bp m)]
  omega
theorem fv_three (f : Nat → Nat) (m : Nat) : fv f (m + 3) = ((f (m + 2) * 4294967296 + f (m + 1)) * 4294967296 + f m) * bp m + fv f m := by
  show fv f (m + 2) + f (m + 2) * bp (m + 2) = _
  rw [fv_two, bp_succ, bp_succ]
  have e1 : f (m + 2) * (bp m * 4294967296 * 4294967296) = f (m + 2) * 4294967296 * 4294967296 * bp m := by
    rw [← Nat.mul_assoc, ← Nat.mul_assoc, Nat.mul_right_comm _ (bp m), Nat.mul_right_comm _ (bp m)]
  have e2 : ((f (m + 2) * 4294967296 + f (m + 1)) * 4294967296 + f m) * bp m = f (m + 2) * 4294967296 * 4294967296 * bp m + (f (m + 1) * 4294967296 + f m) * bp m := by
    have e3 : (f (m + 2) * 4294967296 + f (m + 1)) * 4294967296 + f m = f (m + 2) * 4294967296 * 4294967296 + (f (m + 1) * 4294967296 + f m) := by omega
    rw [e3, Nat.add_mul]
  omega
section
variable {f g : Nat → Nat} {m q r : Nat}
/-- A guess: not too small. -/
def GInv (f g : Nat → Nat) (m q r : Nat) : Prop := q * g (m + 1) + r = f (m + 2) * 4294967296 + f (m + 1) ∧ fv f (m + 3) / fv g (m + 2) ≤ q
theorem GInv.first (hf : fok f (m + 3)) (hv : 0 < g (m + 1)) : GInv f g m ((f (m + 2) * 4294967296 + f (m + 1)) / g (m + 1)) ((f (m + 2) * 4294967296 + f (m + 1)) % g (m + 1)) := by
  refine ⟨by rw [Nat.mul_comm]; exact Nat.div_add_mod _ _, ?_⟩
  exact guess_ge (bp_pos m) hv (fv_two g m) (fv_three f m) (hf m (by omega)) (fv_lt (hf.mono (by omega)))
theorem top_le (hf : fok f (m + 3)) (hg : fok g (m + 2)) (hw : fv f (m + 3) < fv g (m + 2) * 4294967296) : f (m + 2) ≤ g (m + 1) := by
  have h1 : f (m + 2) * bp (m + 2) ≤ fv f (m + 3) := by
    show _ ≤ fv f (m + 2) + f (m + 2) * bp (m + 2)
    omega
  have h2 : fv g (m + 2) < (g (m + 1) + 1) * bp (m + 1) := by
    show fv g (m + 1) + g (m + 1) * bp (m + 1) < _
    have := fv_lt (hg.mono (m := m + 1) (by omega))
    rw [Nat.add_mul]; omega
  have h3 : fv g (m + 2) * 4294967296 < (g (m + 1) + 1) * bp (m + 1) * 4294967296 := Nat.mul_lt_mul_of_pos_right h2 (by decide)
  rw [Nat.mul_assoc, ← bp_succ, show m + 1 + 1 = m + 2 from rfl] at h3
  have h4 : f (m + 2) * bp (m + 2) < (g (m + 1) + 1) * bp (m + 2) := by omega
  have := Nat.lt_of_mul_lt_mul_right h4
  omega
theorem GInv.q_lt (h : GInv f g m q r) (hf : fok f (m + 3)) (hg : 2147483648 ≤ g (m + 1)) (ht : f (m + 2) ≤ g (m + 1)) : q < 4294967298 := by
  obtain ⟨h1, _⟩ := h
  have h2 := hf (m + 1) (by omega)
  rcases Nat.lt_or_ge q 4294967298 with a | a
  · exact a
  · exfalso
    have h3 : 4294967298 * g (m + 1) ≤ q * g (m + 1) := Nat.mul_le_mul_right _ a
    omega
theorem GInv.step (h : GInv f g m q r) (hf : fok f (m + 3)) (hw : fv f (m + 3) < fv g (m + 2) * 4294967296) (hr : r < 4294967296)
    (hc : 4294967296 ≤ q ∨ r * 4294967296 + f m < q * g m) : 0 < q ∧ GInv f g m (q - 1) (r + g (m + 1)) := by
  obtain ⟨h1, h2⟩ := h
  have hq : 0 < q := by
    rcases hc with a | a
    · omega
    · rcases Nat.eq_zero_or_pos q with e | e
      · subst e; rw [Nat.zero_mul] at a; omega
      · exact e
  refine ⟨hq, ?_, ?_⟩
  · have : (q - 1) * g (m + 1) + g (m + 1) = q * g (m + 1) := by
      have e : q = (q - 1) + 1 := by omega
      conv => rhs; rw [e, Nat.add_mul, Nat.one_mul]
    omega
  · have : fv f (m + 3) / fv g (m + 2) < q := by
      rcases hc with a | a
      · refine Nat.lt_of_lt_of_le ?_ a
        rw [Nat.div_lt_iff_lt_mul (by rcases Nat.eq_zero_or_pos (fv g (m + 2)) with e | e; rw [e] at hw; omega; exact e), Nat.mul_comm]
        exact hw
      · exact guess_gt (fv_two g m) (fv_three f m) (fv_lt (hf.mono (by omega))) h1 a
    omega
theorem GInv.last (h : GInv f g m q r) (hf : fok f (m + 3)) (hg : fok g (m + 2)) (h0 : 0 < g (m + 1)) (hq : q < 4294967296) (hc : q * g m ≤ r * 4294967296 + f m) : q * fv g (m + 2) < fv f (m + 3) + fv g (m + 2) :=
  guess_le (bp_pos m) h0 (fv_two g m) (fv_lt (hg.mono (by omega))) (fv_three f m) h.1 hq hc
theorem GInv.broke (h : GInv f g m q r) (hf : fok f (m + 3)) (hg : fok g (m + 2)) (h0 : 0 < g (m + 1)) (ht : f (m + 2) ≤ g (m + 1)) (hr : 4294967296 ≤ r) : q < 4294967296 ∧ q * fv g (m + 2) < fv f (m + 3) + fv g (m + 2) := by
  have h2 := hf (m + 1) (by omega)
  have h1 := h.1
  have hq : q < 4294967296 := by
    rcases Nat.lt_or_ge q 4294967296 with a | a
    · exact a
    · exfalso
      have h3 : 4294967296 * g (m + 1) ≤ q * g (m + 1) := Nat.mul_le_mul_right _ a
      omega
  refine ⟨hq, h.last hf hg h0 hq ?_⟩
  have h4 : q * g m ≤ 4294967296 * 4294967296 := Nat.mul_le_mul (by omega) (by have := hg m (by omega); omega)
  omega
end
/-- What is left, if the guess is right. -/
theorem left_ok {W V q : Nat} (hV : 0 < V) (h1 : W / V ≤ q) : W < q * V + V := by
  have h2 := Nat.lt_div_mul_add hV (a := W)
  have h3 : W / V * V ≤ q * V := Nat.mul_le_mul_right _ h1
  omega
section
variable {f g : Nat → Nat} {n q : Nat}
/-- Taken away, nothing borrowed. -/
theorem sub_fine (hf : fok f (n + 1)) (hg : fok g n) (h0 : g n = 0) (hq : q < 4294967296) (h : q * fv g n ≤ fv f (n + 1)) :
    bor f (pd q g) (n + 1) = 0 ∧ fv (ddig f (pd q g)) (n + 1) + q * fv g n = fv f (n + 1) := by
  have e := pd_dv hq hg h0
  have h1 := ddig_dv hf (pd_ok q g (n + 1)) (by rw [e]; exact h)
  have h2 := diff_inv hf (pd_ok q g (n + 1)) (n + 1) (Nat.le_refl _)
  rw [e] at h1 h2
  refine ⟨?_, by omega⟩
  rcases Nat.eq_zero_or_pos (bor f (pd q g) (n + 1)) with a | a
  · exact a
  · have := bp_pos (n + 1)
    have h3 : 1 * bp (n + 1) ≤ bor f (pd q g) (n + 1) * bp (n + 1) := Nat.mul_le_mul_right _ a
    omega
/-- Taken away too much: the divisor is added. -/
theorem sub_back (hf : fok f (n + 1)) (hg : fok g n) (h0 : g n = 0) (hq : q < 4294967296) (h : fv f (n + 1) < q * fv g n) (h2 : q * fv g n < fv f (n + 1) + fv g n) :
    bor f (pd q g) (n + 1) = 1 ∧ 0 < q ∧ fv (sdig (ddig f (pd q g)) g) (n + 1) + (q - 1) * fv g n = fv f (n + 1) ∧ fv (sdig (ddig f (pd q g)) g) (n + 1) < fv g n := by
  have e := pd_dv hq hg h0
  have h3 := diff_inv hf (pd_ok q g (n + 1)) (n + 1) (Nat.le_refl _)
  rw [e] at h3
  have hb : bor f (pd q g) (n + 1) = 1 := by
    have := bor_le f (pd q g) (n + 1)
    rcases Nat.eq_zero_or_pos (bor f (pd q g) (n + 1)) with a | a
    · rw [a] at h3; omega
    · omega
  rw [hb, Nat.one_mul] at h3
  have hq0 : 0 < q := by
    rcases Nat.eq_zero_or_pos q with a | a
    · subst a; rw [Nat.zero_mul] at h; omega
    · exact a
  have hq1 : (q - 1) * fv g n + fv g n = q * fv g n := by
    have e : q = (q - 1) + 1 := by omega
    conv => rhs; rw [e, Nat.add_mul, Nat.one_mul]
  have h4 := sum_inv (ddig f (pd q g)) g (n + 1)
  have h5 : fv g (n + 1) = fv g n := by
    show fv g n + g n * bp n = _
    rw [h0]; simp
  rw [h5] at h4
  have h6 := fv_lt (sdig_ok (ddig f (pd q g)) g (n + 1))
  have h7 := fv_lt hf
  have h8 := fv_lt hg
  have h9 := bp_le (show n ≤ n + 1 by omega)
  have hc : carry (ddig f (pd q g)) g (n + 1) ≤ 1 := carry_le (ddig_ok hf (pd_ok q g (n + 1))) (fun i hi => by
    by_cases e : i = n
    · subst e; rw [h0]; decide
    · exact hg i (by omega)) (n + 1) (Nat.le_refl _)
  have hc1 : carry (ddig f (pd q g)) g (n + 1) = 1 := by
    rcases Nat.eq_zero_or_pos (carry (ddig f (pd q g)) g (n + 1)) with a | a
    · rw [a, Nat.zero_mul, Nat.add_zero] at h4
      omega
    · omega
  rw [hc1, Nat.one_mul] at h4
  exact ⟨hb, hq0, by omega, by omega⟩
end

/-! ### begin and end -/
theorem top_shift {a b : Nat} (hb : b < 32) (ha : a * 2 ^ b < 4294967296) : (a + 1) * 2 ^ b ≤ 4294967296 := by
  have e : 2 ^ (32 - b) * 2 ^ b = 4294967296 := by rw [← Nat.pow_add, show 32 - b + b = 32 by omega]
  have h1 : a < 2 ^ (32 - b) := by
    rw [← e] at ha
    exact Nat.lt_of_mul_lt_mul_right ha
  rw [← e]
  exact Nat.mul_le_mul_right _ h1
section
variable {ys : List Nat} {g : Nat → Nat} {n b : Nat}
/-- The divisor, shifted until its top bit is set. -/
theorem norm_div (hy : dok ys) (hl : ys.length = n + 1) (hb : b < 32) (h1 : gd ys n * 2 ^ b < 4294967296) (h2 : 2147483648 ≤ gd ys n * 2 ^ b) (hg : fok g (n + 2)) (hv : fv g (n + 2) = dv ys * 2 ^ b) :
    g (n + 1) = 0 ∧ fv g (n + 1) = dv ys * 2 ^ b ∧ 2147483648 ≤ g n := by
  have e : dv ys = fv (gd ys) n + gd ys n * bp n := by unfold dv; rw [hl]; rfl
  have h3 : fv (gd ys) n < bp n := fv_lt fun i hi => gd_lt32 hy i
  have h4 : dv ys * 2 ^ b < bp (n + 1) := by
    have h5 : dv ys < (gd ys n + 1) * bp n := by rw [e, Nat.add_mul]; omega
    have h6 : dv ys * 2 ^ b < (gd ys n + 1) * bp n * 2 ^ b := Nat.mul_lt_mul_of_pos_right h5 (Nat.pow_pos (by decide))
    have h7 : (gd ys n + 1) * bp n * 2 ^ b ≤ bp (n + 1) := by
      rw [Nat.mul_right_comm, bp_succ, Nat.mul_comm (bp n)]
      exact Nat.mul_le_mul_right _ (top_shift hb h1)
    omega
  have h8 : g (n + 1) = 0 := by
    rcases Nat.eq_zero_or_pos (g (n + 1)) with a | a
    · exact a
    · have h6 : bp (n + 1) ≤ fv g (n + 2) := fv_top (g := g) (n := n + 1) (by omega)
      omega
  have h9 : fv g (n + 2) = fv g (n + 1) := by
    show fv g (n + 1) + g (n + 1) * bp (n + 1) = _
    rw [h8]; simp
  refine ⟨h8, by omega, ?_⟩
  rcases Nat.lt_or_ge (g n) 2147483648 with a | a
  · exfalso
    have h10 : fv g (n + 1) = fv g n + g n * bp n := rfl
    have h11 := fv_lt (hg.mono (m := n) (by omega))
    have h12 : (g n + 1) * bp n ≤ 2147483648 * bp n := Nat.mul_le_mul_right _ a
    have h13 : 2147483648 * bp n ≤ gd ys n * 2 ^ b * bp n := Nat.mul_le_mul_right _ h2
    have h14 : gd ys n * 2 ^ b * bp n ≤ dv ys * 2 ^ b := by
      rw [Nat.mul_right_comm]
      exact Nat.mul_le_mul_right _ (by omega)
    rw [Nat.add_mul] at h12
    omega
  · exact a
theorem DInv.first {xs : List Nat} {hu : Nat → Nat} (hx : dok xs) (hn : n + 1 ≤ xs.length) (hb : b < 32) (hg : fok g (n + 1)) (ht : 2147483648 ≤ g n) (hok : fok hu (xs.length + 1)) (hv : fv hu (xs.length + 1) = dv xs * 2 ^ b) :
    DInv g hu (fun _ => 0) (n + 1) (xs.length + 1) (xs.length - n) (dv xs * 2 ^ b) := by
  refine ⟨hok, fun _ _ => (show 0 < 4294967296 by decide), fun _ _ => rfl, fun i h1 h2 => by omega, ?_, by rw [fv_zero fun _ _ => rfl, Nat.mul_zero, Nat.add_zero]; exact hv⟩
  obtain ⟨j, hj⟩ := Nat.exists_eq_add_of_le hn
  rw [show xs.length - n = j + 1 by omega]
  have h1 := fv_add hu (j + 1) (n + 1)
  rw [show j + 1 + (n + 1) = xs.length + 1 by omega, hv] at h1
  have h2 : dv xs * 2 ^ b < bp (j + 1) * (bp n * 2147483648) := by
    have h3 := dv_lt hx
    have h4 : 2 ^ b ≤ 2147483648 := Nat.pow_le_pow_right (show 0 < 2 by decide) (show b ≤ 31 by omega)
    have h5 : dv xs * 2 ^ b < bp xs.length * 2 ^ b := Nat.mul_lt_mul_of_pos_right h3 (Nat.pow_pos (by decide))
    have h6 : bp xs.length * 2 ^ b ≤ bp xs.length * 2147483648 := Nat.mul_le_mul_left _ h4
    rw [← Nat.mul_assoc, ← bp_add, show j + 1 + n = xs.length by omega]
    omega
  have h3 : bp (j + 1) * fv (fun i => hu (j + 1 + i)) (n + 1) < bp (j + 1) * (bp n * 2147483648) := by omega
  have h4 := Nat.lt_of_mul_lt_mul_left h3
  have h5 : bp n * 2147483648 ≤ g n * bp n := by rw [Nat.mul_comm]; exact Nat.mul_le_mul_right _ ht
  have h6 : g n * bp n ≤ fv g (n + 1) := by
    show _ ≤ fv g n + g n * bp n
    omega
  omega
/-- The end: the quotient and what is left. -/
theorem DInv.last {hu ho : Nat → Nat} {N X Y : Nat} (h : DInv g hu ho n N 0 (X * 2 ^ b)) (hn : n ≤ N) (hg : fv g n = Y * 2 ^ b) : fv ho N = X / Y ∧ fv hu n / 2 ^ b = X % Y := by
  obtain ⟨h1, h2, h3, h4, h5, h6⟩ := h
  have hP : 0 < 2 ^ b := Nat.pow_pos (by decide)
  rw [fv_cut n (fun i hi hN => h4 i (by omega) hN) hn, hg] at h6
  have h5' : fv hu n < Y * 2 ^ b := by
    rw [← hg]
    have : fv (fun i => hu (0 + i)) n = fv hu n := fv_congr fun i _ => by rw [Nat.zero_add]
    rw [← this]; exact h5
  have hY : 0 < Y := by
    rcases Nat.eq_zero_or_pos Y with a | a
    · subst a; rw [Nat.zero_mul] at h5'; omega
    · exact a
  have e : X * 2 ^ b / (Y * 2 ^ b) = fv ho N ∧ X * 2 ^ b % (Y * 2 ^ b) = fv hu n := by
    rw [← h6, Nat.add_mul_div_left _ _ (by exact Nat.mul_pos hY hP), Nat.add_mul_mod_self_left, Nat.div_eq_of_lt h5', Nat.mod_eq_of_lt h5', Nat.zero_add]
    exact ⟨rfl, rfl⟩
  rw [Nat.mul_div_mul_right _ _ hP, Nat.mul_mod_mul_right] at e
  refine ⟨e.1.symm, ?_⟩
  rw [← e.2, Nat.mul_div_cancel _ hP]
end

/-! ### a divisor of one digit -/
def OInv (f out : Nat → Nat) (y N K r : Nat) : Prop := fok out N ∧ (∀ i, i < K → out i = 0) ∧ r < y ∧ y * fv out N + r * bp K + fv f K = fv f N
section
variable {f out : Nat → Nat} {y N k r : Nat}
theorem OInv.first (f : Nat → Nat) (N : Nat) (hy : 0 < y) : OInv f (fun _ => 0) y N N 0 := ⟨fun _ _ => (show 0 < 4294967296 by decide), fun _ _ => rfl, hy, by rw [fv_zero fun _ _ => rfl]; simp⟩
theorem OInv.step (h : OInv f out y N (k + 1) r) (hk : k < N) (hf : f k < 4294967296) :
    (r * 4294967296 + f k) / y < 4294967296 ∧ OInv f (upd out k ((r * 4294967296 + f k) / y)) y N k ((r * 4294967296 + f k) % y) := by
  obtain ⟨h1, h2, h3, h4⟩ := h
  have h5 : (r * 4294967296 + f k) / y < 4294967296 := by
    rw [Nat.div_lt_iff_lt_mul (by omega)]
    have : (r + 1) * 4294967296 ≤ y * 4294967296 := Nat.mul_le_mul_right _ h3
    omega
  refine ⟨h5, upd_ok h1 h5, fun i hi => ?_, Nat.mod_lt _ (by omega), ?_⟩
  · rw [upd_other (by omega)]; exact h2 i (by omega)
  · have e2 := upd_fv (h := out) (v := (r * 4294967296 + f k) / y) hk
    rw [h2 k (by omega), Nat.zero_mul, Nat.add_zero] at e2
    rw [← h4, e2, bp_succ]
    show _ = _ + (fv f k + f k * bp k)
    have e3 := Nat.div_add_mod (r * 4294967296 + f k) y
    generalize (r * 4294967296 + f k) / y = q at *
    generalize (r * 4294967296 + f k) % y = r' at *
    have e4 : (y * q + r') * bp k = (r * 4294967296 + f k) * bp k := by rw [e3]
    rw [Nat.add_mul, Nat.add_mul, Nat.mul_assoc, Nat.mul_assoc r, Nat.mul_comm 4294967296 (bp k)] at e4
    rw [Nat.mul_add]
    omega
theorem OInv.last (h : OInv f out y N 0 r) : fv out N = fv f N / y ∧ r = fv f N % y := by
  obtain ⟨h1, h2, h3, h4⟩ := h
  have e : y * fv out N + r = fv f N := by rw [← h4]; simp [bp, fv]
  rw [← e, Nat.mul_add_div (by omega), Nat.div_eq_of_lt h3, Nat.mul_add_mod, Nat.mod_eq_of_lt h3]
  exact ⟨rfl, rfl⟩
end
end Go.Proofs.YtmibifmabkaakaaDoor
