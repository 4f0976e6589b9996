/- Plain facts on the shift register: it is linear, it comes round, steps add up. No condition. -/
import Derived.Test.YtakjcodfcoaadaaLfsrL
namespace Go.Proofs.Ytakjcodfcoaadaa
open Go.RowKit

theorem xor_bit' (a b k : Nat) : (a ^^^ b) / 2 ^ k % 2 = (a / 2 ^ k % 2 + b / 2 ^ k % 2) % 2 := by
  have h := Nat.testBit_xor a b k
  simp only [Nat.testBit_eq_decide_div_mod_eq] at h
  have h1 := Nat.mod_lt ((a ^^^ b) / 2 ^ k) (by decide : 0 < 2)
  rcases (by have := Nat.mod_lt (a / 2 ^ k) (by decide : 0 < 2); omega : a / 2 ^ k % 2 = 0 ∨ a / 2 ^ k % 2 = 1) with e | e <;>
    rcases (by have := Nat.mod_lt (b / 2 ^ k) (by decide : 0 < 2); omega : b / 2 ^ k % 2 = 0 ∨ b / 2 ^ k % 2 = 1) with f | f <;> simp [e, f] at h ⊢ <;> omega
theorem xor_join (i x y : Nat) (hx : x % 2 ^ i = 0) (hy : y < 2 ^ i) : x ^^^ y = x + y := by
  rw [← nat_join i x y hx hy]
  apply Nat.eq_of_testBit_eq
  intro j
  rw [Nat.testBit_xor, Nat.testBit_or]
  by_cases hj : j < i
  · have : x.testBit j = false := by
      have h1 : (x % 2 ^ i).testBit j = x.testBit j := by rw [Nat.testBit_mod_two_pow]; simp [hj]
      rw [← h1, hx, Nat.zero_testBit]
    simp [this]
  · have : y.testBit j = false := Nat.testBit_lt_two_pow (Nat.lt_of_lt_of_le hy (Nat.pow_le_pow_right (by decide) (by omega)))
    simp [this]
theorem par_xor (n a b t : Nat) : par n (a ^^^ b) t = (par n a t + par n b t) % 2 := by
  induction n with
  | zero => rfl
  | succ n ih =>
    rw [par_succ, par_succ, par_succ, ih, xor_bit']
    have h3 := Nat.mod_lt (t / 2 ^ n) (by decide : 0 < 2)
    rcases (by omega : t / 2 ^ n % 2 = 0 ∨ t / 2 ^ n % 2 = 1) with e | e <;> rw [e] <;> omega
theorem lstep_xor_form (n t s : Nat) (h : 1 ≤ n) : lstep n t s = (2 * s % 2 ^ n) ^^^ par n s t := by
  rw [xor_join 1 _ _ ?_ (par_lt n s t)]
  · rfl
  · obtain ⟨m, rfl⟩ : ∃ m, n = m + 1 := ⟨n - 1, by omega⟩
    rw [Nat.pow_succ 2 m, Nat.mul_comm (2 ^ m), Nat.mul_mod_mul_left]
    omega
theorem lstep_xor (n t a b : Nat) (h : 1 ≤ n) : lstep n t (a ^^^ b) = lstep n t a ^^^ lstep n t b := by
  rw [lstep_xor_form n t _ h, lstep_xor_form n t a h, lstep_xor_form n t b h, par_xor]
  have e1 : 2 * (a ^^^ b) = 2 * a ^^^ 2 * b := by
    have := Nat.shiftLeft_xor_distrib (a := a) (b := b) (i := 1)
    simp only [Nat.shiftLeft_eq] at this
    rw [Nat.mul_comm 2, Nat.mul_comm 2 a, Nat.mul_comm 2 b]
    simpa using this
  rw [e1, Nat.xor_mod_two_pow, ← xor_bit _ _ (par_lt n a t) (par_lt n b t)]
  generalize 2 * a % 2 ^ n = X, 2 * b % 2 ^ n = Y, par n a t = p, par n b t = q
  rw [Nat.xor_assoc, Nat.xor_assoc, ← Nat.xor_assoc Y, ← Nat.xor_assoc p, Nat.xor_comm p Y]
theorem lstep_zero (n t : Nat) : lstep n t 0 = 0 := by
  unfold lstep par; simp [popAux_zero]
theorem lit_add (n t s a b : Nat) : lit_ n t s (a + b) = lit_ n t (lit_ n t s a) b := by
  induction b with
  | zero => rfl
  | succ b ih => rw [← Nat.add_assoc]; simp only [lit_, ih]
theorem lit_xor (n t a b e : Nat) (h : 1 ≤ n) : lit_ n t (a ^^^ b) e = lit_ n t a e ^^^ lit_ n t b e := by
  induction e with
  | zero => rfl
  | succ e ih => simp only [lit_, ih]; rw [lstep_xor n t _ _ h]
theorem lit_zero (n t e : Nat) : lit_ n t 0 e = 0 := by
  induction e with
  | zero => rfl
  | succ e ih => simp only [lit_, ih, lstep_zero]

/-- The columns that a number's bits choose, added bit by bit without carry. -/
def comb (c : Nat → Nat) (s : Nat) : Nat → Nat
  | 0 => 0
  | k + 1 => if s / 2 ^ k % 2 = 1 then comb c s k ^^^ c k else comb c s k
theorem comb_lin (f : Nat → Nat) (f0 : f 0 = 0) (fx : ∀ a b, f (a ^^^ b) = f a ^^^ f b) (s k : Nat) : comb (fun i => f (2 ^ i)) s k = f (s % 2 ^ k) := by
  induction k with
  | zero => simp [comb, Nat.mod_one, f0]
  | succ k ih =>
    have h0 : 0 < 2 ^ k := Nat.pow_pos (by decide)
    have hm : s % 2 ^ (k + 1) = s % 2 ^ k + (s / 2 ^ k % 2) * 2 ^ k := by
      rw [Nat.pow_succ, Nat.mod_mul, Nat.mul_comm (2 ^ k)]
    simp only [comb]
    by_cases c : s / 2 ^ k % 2 = 1
    · rw [if_pos c, ih, hm, c, Nat.one_mul, Nat.add_comm, ← xor_join k (2 ^ k) _ (Nat.mod_self _) (Nat.mod_lt _ h0), fx, Nat.xor_comm]
    · have c0 : s / 2 ^ k % 2 = 0 := by omega
      rw [if_neg c, ih, hm, c0]; simp
theorem comb_lit (n t e s k : Nat) (h : 1 ≤ n) (hs : s < 2 ^ k) : comb (fun i => lit_ n t (2 ^ i) e) s k = lit_ n t s e := by
  rw [comb_lin (fun x => lit_ n t x e) (lit_zero n t e) (fun a b => lit_xor n t a b e h), Nat.mod_eq_of_lt hs]
theorem comb_congr (c d : Nat → Nat) (s k : Nat) (h : ∀ i, i < k → c i = d i) : comb c s k = comb d s k := by
  induction k with
  | zero => rfl
  | succ k ih => simp only [comb, ih fun i hi => h i (by omega), h k (by omega)]

/-! it comes round -/
theorem lstep_back (n t s : Nat) (h : 1 ≤ n) (hs : s < 2 ^ n) (ht0 : 2 ^ (n - 1) ≤ t) (ht : t < 2 ^ n) : lback n t (lstep n t s) = s := by
  obtain ⟨m, rfl⟩ : ∃ m, n = m + 1 := ⟨n - 1, by omega⟩
  have h0 : 0 < 2 ^ m := Nat.pow_pos (by decide)
  simp only [Nat.add_sub_cancel] at ht0
  have htop : t / 2 ^ m % 2 = 1 := by
    rw [Nat.pow_succ] at ht
    have : t / 2 ^ m = 1 := by apply Nat.div_eq_of_lt_le <;> omega
    omega
  have hp := par_lt (m + 1) s t
  have e1 : 2 * s % 2 ^ (m + 1) = 2 * (s % 2 ^ m) := by
    rw [Nat.pow_succ, Nat.mul_comm (2 ^ m), Nat.mul_mod_mul_left]
  have e2 : lstep (m + 1) t s / 2 = s % 2 ^ m := by unfold lstep; rw [e1]; omega
  have e3 : lstep (m + 1) t s % 2 = par (m + 1) s t := by unfold lstep; rw [e1]; omega
  have e4 : par (m + 1) (s % 2 ^ m) t = par m (s % 2 ^ m) t := par_big m 1 _ _ (Nat.mod_lt _ h0)
  have e5 : par m (s % 2 ^ m) t = par m s t := by
    unfold par
    rw [← popAux_mod m (s % 2 ^ m &&& t), Nat.and_mod_two_pow, Nat.mod_mod, ← Nat.and_mod_two_pow, popAux_mod]
  have e6 : s % 2 ^ (m + 1) = s % 2 ^ m + (s / 2 ^ m % 2) * 2 ^ m := by rw [Nat.pow_succ, Nat.mod_mul, Nat.mul_comm (2 ^ m)]
  have e7 := par_succ m s t
  rw [htop, Nat.mul_one] at e7
  unfold lback
  rw [e2, e3, e4, e5, Nat.add_sub_cancel, e7]
  have h8 := Nat.mod_lt (s / 2 ^ m) (by decide : 0 < 2)
  have h9 : ((par m s t + s / 2 ^ m % 2) % 2 + par m s t) % 2 = s / 2 ^ m % 2 := by omega
  rw [h9, ← e6, Nat.mod_eq_of_lt hs]

theorem nodup_le : ∀ (N : Nat) (l : List Nat), l.Nodup → (∀ x ∈ l, x < N) → l.length ≤ N
  | 0, [], _, _ => Nat.le_refl _
  | 0, x :: _, _, h => absurd (h x (List.mem_cons_self ..)) (by omega)
  | N + 1, l, hn, h => by
    have h1 := nodup_le N (l.erase N) (hn.erase N) (fun x hx => by
      have h2 := h x (List.mem_of_mem_erase hx)
      have h3 : x ≠ N := by
        rintro rfl
        exact absurd hx (List.Nodup.not_mem_erase hn)
      omega)
    by_cases hm : N ∈ l
    · rw [List.length_erase_of_mem hm] at h1; omega
    · rw [List.erase_of_not_mem hm] at h1; omega

theorem lit_inj (n t s : Nat) (h : 1 ≤ n) (hs : s < 2 ^ n) (ht0 : 2 ^ (n - 1) ≤ t) (ht : t < 2 ^ n) : ∀ i j, lit_ n t s (i + j) = lit_ n t s i → lit_ n t s j = s
  | 0, j, e => by rw [Nat.zero_add] at e; exact e
  | i + 1, j, e => by
    rw [show i + 1 + j = (i + j) + 1 by omega] at e
    simp only [lit_] at e
    have e' := congrArg (lback n t) e
    rw [lstep_back n t _ h (lit_lt n t s h hs _) ht0 ht, lstep_back n t _ h (lit_lt n t s h hs _) ht0 ht] at e'
    exact lit_inj n t s h hs ht0 ht i j e'

theorem comes_round (n t s : Nat) (h : 1 ≤ n) (hs : s < 2 ^ n) (ht0 : 2 ^ (n - 1) ≤ t) (ht : t < 2 ^ n) : ∃ Q, 1 ≤ Q ∧ Q ≤ 2 ^ n ∧ lit_ n t s Q = s := by
  apply Classical.byContradiction
  intro hno
  have hnd : ((List.range (2 ^ n + 1)).map (lit_ n t s)).Nodup := by
    rw [List.nodup_iff_pairwise_ne, List.pairwise_map]
    refine List.Pairwise.imp_of_mem (R := fun a b => a < b) ?_ List.pairwise_lt_range
    intro a b _ hb hab e
    rw [List.mem_range] at hb
    exact hno ⟨b - a, by omega, by omega, lit_inj n t s h hs ht0 ht a (b - a) (by rw [show a + (b - a) = b by omega]; exact e.symm)⟩
  have := nodup_le (2 ^ n) _ hnd (fun x hx => by
    rw [List.mem_map] at hx
    obtain ⟨j, _, rfl⟩ := hx
    exact lit_lt n t s h hs j)
  simp at this
  omega

theorem least_of {p : Nat → Prop} : ∀ N : Nat, 1 ≤ N → p N → ∃ Q, 1 ≤ Q ∧ Q ≤ N ∧ p Q ∧ ∀ i, 1 ≤ i → i < Q → ¬ p i := by
  intro N
  induction N using Nat.strongRecOn with
  | ind N ih =>
    intro h1 hp
    by_cases h : ∃ i, 1 ≤ i ∧ i < N ∧ p i
    · obtain ⟨i, hi1, hi2, hi3⟩ := h
      obtain ⟨Q, a, b, c, d⟩ := ih i hi2 hi1 hi3
      exact ⟨Q, a, by omega, c, d⟩
    · exact ⟨N, h1, Nat.le_refl _, hp, fun i a b c => h ⟨i, a, b, c⟩⟩
theorem period_is (n t s : Nat) (h : 1 ≤ n) (hs : s < 2 ^ n) (ht0 : 2 ^ (n - 1) ≤ t) (ht : t < 2 ^ n) :
    ∃ Q, 1 ≤ Q ∧ Q ≤ 2 ^ n ∧ lit_ n t s Q = s ∧ ∀ i, 1 ≤ i → i < Q → lit_ n t s i ≠ s := by
  obtain ⟨N, h1, h2, h3⟩ := comes_round n t s h hs ht0 ht
  obtain ⟨Q, a, b, c, d⟩ := least_of (p := fun j => lit_ n t s j = s) N h1 h3
  exact ⟨Q, a, by omega, c, d⟩
theorem lit_mul (n t s Q : Nat) (hQ : lit_ n t s Q = s) (q r : Nat) : lit_ n t s (Q * q + r) = lit_ n t s r := by
  induction q with
  | zero => simp
  | succ q ih =>
    rw [Nat.mul_succ, show Q * q + Q + r = Q + (Q * q + r) by omega, lit_add, hQ, ih]
theorem lit_mod (n t s Q b : Nat) (hQ : lit_ n t s Q = s) : lit_ n t s (b % Q) = lit_ n t s b := by
  have := lit_mul n t s Q hQ (b / Q) (b % Q)
  rw [Nat.div_add_mod] at this
  exact this.symm
end Go.Proofs.Ytakjcodfcoaadaa
