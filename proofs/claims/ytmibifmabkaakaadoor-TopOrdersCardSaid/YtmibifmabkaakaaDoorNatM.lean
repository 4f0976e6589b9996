/- Numbers of words: plain facts, no program in sight. No condition. -/
import Derived.Test.YtmibifmabkaakaaDoorBase
namespace Go.Proofs.YtmibifmabkaakaaDoor
set_option linter.unusedVariables false

abbrev wB : Nat := 18446744073709551616
/-- The number of the first n words. -/
def gv (g : Nat → Nat) : Nat → Nat
  | 0 => 0
  | n + 1 => gv g n + g n * wB ^ n
def gok (g : Nat → Nat) (n : Nat) : Prop := ∀ i, i < n → g i < wB
theorem gok.mono {g : Nat → Nat} {n m : Nat} (h : gok g n) (hm : m ≤ n) : gok g m := fun i hi => h i (by omega)
theorem wp_pos (n : Nat) : 0 < wB ^ n := Nat.pow_pos (by decide)
theorem wp_succ (n : Nat) : wB ^ (n + 1) = wB ^ n * wB := Nat.pow_succ ..
theorem gv_lt {g : Nat → Nat} {n : Nat} (h : gok g n) : gv g n < wB ^ n := by
  induction n with
  | zero => simp [gv]
  | succ n ih =>
    have h1 := ih (h.mono (by omega))
    have h2 := h n (by omega)
    rw [wp_succ, gv]
    have h3 : (g n + 1) * wB ^ n ≤ wB * wB ^ n := Nat.mul_le_mul_right _ h2
    rw [Nat.add_mul, Nat.one_mul] at h3
    rw [Nat.mul_comm (wB ^ n) wB]
    omega
theorem gv_congr {g f : Nat → Nat} {n : Nat} (h : ∀ i, i < n → g i = f i) : gv g n = gv f n := by
  induction n with
  | zero => rfl
  | succ n ih => rw [gv, gv, ih (fun i hi => h i (by omega)), h n (by omega)]
theorem gv_cut {g : Nat → Nat} {n k : Nat} (h : ∀ i, k ≤ i → i < n → g i = 0) (hk : k ≤ n) : gv g n = gv g k := by
  induction n with
  | zero => rw [show k = 0 by omega]
  | succ n ih =>
    by_cases e : k = n + 1
    · rw [e]
    · rw [gv, h n (by omega) (by omega), Nat.zero_mul, Nat.add_zero, ih (fun i h1 h2 => h i h1 (by omega)) (by omega)]
theorem gv_low (g : Nat → Nat) (n : Nat) : gv g (n + 1) = g 0 + wB * gv (fun i => g (i + 1)) n := by
  induction n with
  | zero => simp [gv]
  | succ n ih =>
    rw [gv, ih, gv, wp_succ, Nat.mul_add, ← Nat.add_assoc]
    congr 1
    rw [Nat.mul_comm (wB ^ n) wB, ← Nat.mul_assoc, Nat.mul_comm (g (n + 1)) wB, Nat.mul_assoc]
/-- Word k of a list, 0 behind its end. -/
def wo (l : List Nat) (k : Nat) : Nat := l.getD k 0
theorem wo_lt {l : List Nat} {k : Nat} (h : k < l.length) : wo l k = l[k] := by simp [wo, List.getD, h]
theorem wo_ge {l : List Nat} {k : Nat} (h : l.length ≤ k) : wo l k = 0 := by simp [wo, List.getD, h]
def wok (l : List Nat) : Prop := gok (wo l) l.length
/-- The number of a list of words. -/
def nv (l : List Nat) : Nat := gv (wo l) l.length
theorem nv_gv {l : List Nat} {n : Nat} (h : l.length ≤ n) : gv (wo l) n = nv l := gv_cut (fun i h1 _ => wo_ge h1) h
theorem wok.all {l : List Nat} (h : wok l) (i : Nat) : wo l i < wB := by
  by_cases hi : i < l.length
  · exact h i hi
  · rw [wo_ge (by omega)]; decide
theorem nv_lt {l : List Nat} (h : wok l) : nv l < wB ^ l.length := gv_lt h
theorem nv_nil : nv [] = 0 := rfl
theorem wo_cons (a : Nat) (l : List Nat) (k : Nat) : wo (a :: l) (k + 1) = wo l k := by simp [wo]
theorem nv_cons (a : Nat) (l : List Nat) : nv (a :: l) = a + wB * nv l := by
  unfold nv
  rw [List.length_cons, gv_low]
  rfl
theorem wok_cons {a : Nat} {l : List Nat} : wok (a :: l) ↔ a < wB ∧ wok l := by
  constructor
  · intro h
    exact ⟨h 0 (by simp), fun i hi => by have := h (i + 1) (by simpa using hi); rwa [wo_cons] at this⟩
  · rintro ⟨h1, h2⟩ i hi
    cases i with
    | zero => exact h1
    | succ i => rw [wo_cons]; exact h2 i (by simpa using hi)
theorem wo_append_lt {l m : List Nat} {k : Nat} (h : k < l.length) : wo (l ++ m) k = wo l k := by
  rw [wo_lt h, wo_lt (by rw [List.length_append]; omega), List.getElem_append_left h]
theorem wo_append_last (l : List Nat) (a : Nat) : wo (l ++ [a]) l.length = a := by
  rw [wo_lt (by simp)]; simp
theorem nv_snoc (l : List Nat) (a : Nat) : nv (l ++ [a]) = nv l + a * wB ^ l.length := by
  unfold nv
  rw [show (l ++ [a]).length = l.length + 1 by simp, gv, wo_append_last, gv_congr fun i hi => wo_append_lt hi]
theorem wok_snoc {l : List Nat} {a : Nat} (h : wok l) (ha : a < wB) : wok (l ++ [a]) := fun i hi => by
  rw [show (l ++ [a]).length = l.length + 1 by simp] at hi
  by_cases e : i < l.length
  · rw [wo_append_lt e]; exact h i e
  · rw [show i = l.length by omega, wo_append_last]; exact ha
/-- The words of a number, the lowest one first, without noughts at the end. -/
def wd (n : Nat) : List Nat := if h : n = 0 then [] else n % wB :: wd (n / wB)
termination_by n
decreasing_by exact Nat.div_lt_self (by omega) (by decide)
theorem wd_zero : wd 0 = [] := by rw [wd]; simp
theorem wd_pos {n : Nat} (h : n ≠ 0) : wd n = n % wB :: wd (n / wB) := by rw [wd, dif_neg h]
/-- Right words: the last one is not 0. -/
def wnorm (l : List Nat) : Prop := 0 < l.length → wo l (l.length - 1) ≠ 0
theorem nv_eq_zero {l : List Nat} (hn : wnorm l) (h : nv l = 0) : l = [] := by
  cases hl : l.length with
  | zero => exact List.eq_nil_of_length_eq_zero hl
  | succ k =>
    have h1 := hn (by omega)
    unfold nv at h
    rw [hl, gv] at h
    rw [hl, Nat.add_sub_cancel] at h1
    have : 0 < wo l k * wB ^ k := Nat.mul_pos (by omega) (wp_pos k)
    omega
theorem wnorm_tail {a : Nat} {l : List Nat} (h : wnorm (a :: l)) : wnorm l := fun hl => by
  have := h (by simp)
  obtain ⟨k, hk⟩ : ∃ k, l.length = k + 1 := ⟨l.length - 1, by omega⟩
  rw [List.length_cons, Nat.add_sub_cancel, hk, wo_cons] at this
  rw [hk]; exact this
theorem wd_nv {l : List Nat} (hk : wok l) (hn : wnorm l) : wd (nv l) = l := by
  induction l with
  | nil => exact wd_zero
  | cons a l ih =>
    obtain ⟨ha, hl⟩ := wok_cons.1 hk
    have h0 : nv (a :: l) ≠ 0 := fun e => by have := nv_eq_zero hn e; cases this
    rw [wd_pos h0, nv_cons]
    rw [Nat.add_mul_mod_self_left, Nat.mod_eq_of_lt ha, Nat.add_mul_div_left _ _ (by decide), Nat.div_eq_of_lt ha, Nat.zero_add, ih hl (wnorm_tail hn)]
theorem nv_wd (n : Nat) : nv (wd n) = n := by
  induction n using Nat.strongRecOn with
  | _ n ih =>
    by_cases h : n = 0
    · subst h; rw [wd_zero]; rfl
    · rw [wd_pos h, nv_cons, ih _ (Nat.div_lt_self (by omega) (by decide))]
      have := Nat.mod_add_div n wB
      omega
theorem wd_ok (n : Nat) : wok (wd n) := by
  induction n using Nat.strongRecOn with
  | _ n ih =>
    by_cases h : n = 0
    · subst h; rw [wd_zero]; intro i hi; cases hi
    · rw [wd_pos h, wok_cons]
      exact ⟨Nat.mod_lt _ (by decide), ih _ (Nat.div_lt_self (by omega) (by decide))⟩
theorem wd_norm (n : Nat) : wnorm (wd n) := by
  induction n using Nat.strongRecOn with
  | _ n ih =>
    by_cases h : n = 0
    · subst h; rw [wd_zero]; intro h; cases h
    · have h1 := ih _ (Nat.div_lt_self (show 0 < n by omega) (show 1 < wB by decide))
      rw [wd_pos h]
      intro _
      rw [List.length_cons, Nat.add_sub_cancel]
      by_cases hl : wd (n / wB) = []
      · have h2 : n / wB = 0 := by have := nv_wd (n / wB); rw [hl] at this; exact this.symm
        rw [hl]
        have h3 := Nat.mod_add_div n wB
        rw [h2] at h3
        show wo (n % wB :: []) 0 ≠ 0
        simp [wo]; omega
      · obtain ⟨k, hk⟩ : ∃ k, (wd (n / wB)).length = k + 1 := ⟨(wd (n / wB)).length - 1, by have := List.length_pos_iff.2 hl; omega⟩
        have h2 := h1 (by omega)
        rw [hk, wo_cons]
        rw [hk, Nat.add_sub_cancel] at h2
        exact h2
theorem nv_norm {l : List Nat} (hn : wnorm l) (hl : 0 < l.length) : wB ^ (l.length - 1) ≤ nv l := by
  have h1 := hn hl
  obtain ⟨k, hk⟩ : ∃ k, l.length = k + 1 := ⟨l.length - 1, by omega⟩
  unfold nv
  rw [hk, Nat.add_sub_cancel] at h1
  rw [hk, Nat.add_sub_cancel, gv]
  have : 1 * wB ^ k ≤ wo l k * wB ^ k := Nat.mul_le_mul_right _ (by omega)
  omega
theorem wd_len {n k : Nat} (h : n < wB ^ k) : (wd n).length ≤ k := by
  rcases Nat.lt_or_ge k (wd n).length with h1 | h1
  · have h2 := nv_norm (wd_norm n) (by omega)
    rw [nv_wd] at h2
    have h3 : wB ^ k ≤ wB ^ ((wd n).length - 1) := Nat.pow_le_pow_right (by decide) (by omega)
    omega
  · exact h1
/-- How many of n words are left without noughts at the end. -/
def wlen (l : List Nat) : Nat → Nat
  | 0 => 0
  | n + 1 => if wo l n = 0 then wlen l n else n + 1
theorem wlen_le (l : List Nat) (n : Nat) : wlen l n ≤ n := by
  induction n with
  | zero => exact Nat.le_refl _
  | succ n ih => rw [wlen]; split <;> omega
theorem wo_take {l : List Nat} {k i : Nat} (h : i < k) : wo (l.take k) i = wo l i := by
  unfold wo; rw [List.getD_eq_getElem?_getD, List.getD_eq_getElem?_getD, List.getElem?_take_of_lt h]
theorem wlen_zero {l : List Nat} {n : Nat} : ∀ i, wlen l n ≤ i → i < n → wo l i = 0 := by
  induction n with
  | zero => intro i _ h; omega
  | succ n ih =>
    intro i h1 h2
    rw [wlen] at h1
    split at h1
    · next e =>
      by_cases hi : i = n
      · rw [hi]; exact e
      · exact ih i h1 (by omega)
    · omega
theorem wlen_last {l : List Nat} {n : Nat} (h : 0 < wlen l n) : wo l (wlen l n - 1) ≠ 0 := by
  induction n with
  | zero => cases h
  | succ n ih =>
    rw [wlen] at h ⊢
    split at h
    · next e => rw [if_pos e]; exact ih h
    · next e => rw [if_neg e]; exact e
theorem take_wlen {l : List Nat} (h : wok l) : l.take (wlen l l.length) = wd (nv l) := by
  have hle := wlen_le l l.length
  have e1 : (l.take (wlen l l.length)).length = wlen l l.length := by simp; omega
  have e2 : nv (l.take (wlen l l.length)) = nv l := by
    unfold nv
    rw [e1, gv_congr (f := wo l) fun i hi => wo_take hi]
    exact (gv_cut (fun i h1 h2 => wlen_zero i h1 h2) hle).symm
  rw [← e2]
  refine (wd_nv (fun i hi => ?_) fun hp => ?_).symm
  · rw [e1] at hi; rw [wo_take hi]; exact h i (by omega)
  · rw [e1] at hp ⊢
    rw [wo_take (by omega)]
    exact wlen_last hp
/-- Is it a number? -/
def nright (l : List Nat) : Prop := l.length ≤ 64 ∧ (l.length = 0 ∨ wo l (l.length - 1) ≠ 0)
instance (l : List Nat) : Decidable (nright l) := by unfold nright; infer_instance
theorem nright.norm {l : List Nat} (h : nright l) : wnorm l := fun hl => by
  rcases h.2 with h | h
  · omega
  · exact h
theorem nright.wd {l : List Nat} (h : nright l) (hk : wok l) : wd (nv l) = l := wd_nv hk h.norm
/-- A list of words, and an error where it is too long. -/
def nfits (n : Nat) : List Nat × Int := if 64 < (wd n).length then ([], 4) else (wd n, 0)
theorem gv_less {g f : Nat → Nat} {k n : Nat} (hk : k < n) (hg : gok g n) (h : ∀ i, k < i → i < n → g i = f i) (hl : g k < f k) : gv g n < gv f n := by
  induction n with
  | zero => omega
  | succ n ih =>
    by_cases e : k = n
    · subst e
      have h1 := gv_lt (hg.mono (Nat.le_succ k))
      have h2 : (g k + 1) * wB ^ k ≤ f k * wB ^ k := Nat.mul_le_mul_right _ hl
      rw [Nat.add_mul, Nat.one_mul] at h2
      rw [gv, gv]
      omega
    · rw [gv, gv, h n (by omega) (by omega)]
      have := ih (by omega) (hg.mono (by omega)) (fun i h1 h2 => h i h1 (by omega))
      omega
theorem gv_upd {g f : Nat → Nat} {k n : Nat} (hk : k < n) (h : ∀ i, i < n → i ≠ k → f i = g i) : gv f n + g k * wB ^ k = gv g n + f k * wB ^ k := by
  induction n with
  | zero => omega
  | succ n ih =>
    rw [gv, gv]
    by_cases e : k = n
    · subst e
      rw [gv_congr (g := f) (f := g) fun i hi => h i (by omega) (by omega)]
      omega
    · rw [h n (by omega) (by omega)]
      have := ih (by omega) fun i h1 h2 => h i (by omega) h2
      omega
theorem nv_len_lt {l m : List Nat} (hl : wok l) (hm : wnorm m) (h : l.length < m.length) : nv l < nv m := by
  have h1 := nv_lt hl
  have h2 := nv_norm hm (by omega)
  have h3 : wB ^ l.length ≤ wB ^ (m.length - 1) := Nat.pow_le_pow_right (by decide) (by omega)
  omega
/-- -1, 0 or 1. -/
def ncmp (a b : Nat) : Int := if a < b then -1 else if b < a then 1 else 0
end Go.Proofs.YtmibifmabkaakaaDoor
