/- Orders: plain. No condition. -/
import Derived.Test.YtkffakekakhgdaaSeq
namespace Go.Proofs.Ytkffakekakhgdaa
set_option linter.unusedVariables false

/-- The first so many are in range, and each is new. -/
def pokc (p : List Int) : Nat → Bool
  | 0 => true
  | j + 1 => pokc p j && (decide (0 ≤ pat p j) && decide (pat p j < p.length) && !decide (pat p j ∈ p.take j))
def permB (p : List Int) : Bool := decide (p.length ≤ 20) && pokc p p.length
/-- Each of the first so many comes just once. -/
def dokc (p : List Int) : Nat → Bool
  | 0 => true
  | k + 1 => dokc p k && decide (p.count (k : Int) = 1)
/-- How many of a list are one of the first so many. -/
def sumc (p : List Int) : Nat → Nat
  | 0 => 0
  | k + 1 => sumc p k + p.count (k : Int)
theorem sumc_cons (x : Int) (p : List Int) (n : Nat) : sumc (x :: p) n = sumc p n + if 0 ≤ x ∧ x < n then 1 else 0 := by
  induction n with
  | zero => simp [sumc]
  | succ n ih =>
    simp only [sumc, ih, List.count_cons, beq_iff_eq]
    by_cases h : x = (n : Int)
    · subst h
      rw [if_neg (by omega), if_pos rfl, if_pos (by omega)]
      omega
    · rw [if_neg h]
      by_cases h2 : 0 ≤ x ∧ x < n
      · rw [if_pos h2, if_pos (by omega)]; omega
      · rw [if_neg h2, if_neg (by omega)]; omega
theorem sumc_le (p : List Int) (n : Nat) : sumc p n ≤ p.length := by
  induction p with
  | nil => have : ∀ n, sumc [] n = 0 := fun n => by induction n with | zero => rfl | succ n ih => simp [sumc, ih]
           rw [this]; exact Nat.zero_le _
  | cons x p ih => rw [sumc_cons, List.length_cons]; split <;> omega
theorem sumc_all {p : List Int} {n : Nat} (h : ∀ x ∈ p, 0 ≤ x ∧ x < n) : sumc p n = p.length := by
  induction p with
  | nil => have := sumc_le [] n; simp at this; exact this
  | cons x p ih => rw [sumc_cons, if_pos (h x (by simp)), ih fun y hy => h y (by simp [hy])]; rfl
theorem all_sumc {p : List Int} {n : Nat} (h : sumc p n = p.length) : ∀ x ∈ p, 0 ≤ x ∧ x < n := by
  induction p with
  | nil => intro x hx; cases hx
  | cons x p ih =>
    rw [sumc_cons, List.length_cons] at h
    have := sumc_le p n
    by_cases hx : 0 ≤ x ∧ x < n
    · rw [if_pos hx] at h
      intro y hy
      rcases List.mem_cons.1 hy with rfl | hy
      · exact hx
      · exact ih (by omega) y hy
    · rw [if_neg hx] at h; omega
theorem sumc_ones {p : List Int} {n : Nat} (h : ∀ k, k < n → p.count (k : Int) = 1) : sumc p n = n := by
  induction n with
  | zero => rfl
  | succ n ih => simp only [sumc]; rw [ih fun k hk => h k (by omega), h n (by omega)]
theorem ones_sumc {p : List Int} (h1 : ∀ x : Int, p.count x ≤ 1) : ∀ n, sumc p n ≤ n ∧ (sumc p n = n → ∀ k, k < n → p.count (k : Int) = 1) := by
  intro n
  induction n with
  | zero => exact ⟨Nat.le_refl _, fun _ k hk => by omega⟩
  | succ n ih =>
    have := h1 n
    simp only [sumc]
    refine ⟨by omega, fun h k hk => ?_⟩
    by_cases e : k = n
    · subst e; omega
    · exact ih.2 (by omega) k (by omega)
theorem dokc_iff (p : List Int) (n : Nat) : dokc p n = true ↔ ∀ k, k < n → p.count (k : Int) = 1 := by
  induction n with
  | zero => simp [dokc]
  | succ n ih =>
    simp only [dokc, Bool.and_eq_true, ih, decide_eq_true_eq]
    constructor
    · rintro ⟨h1, h2⟩ k hk
      by_cases e : k = n
      · subst e; exact h2
      · exact h1 k (by omega)
    · intro h; exact ⟨fun k hk => h k (by omega), h n (by omega)⟩
theorem pokc_iff (p : List Int) (n : Nat) : pokc p n = true ↔ ∀ k, k < n → 0 ≤ pat p k ∧ pat p k < p.length ∧ pat p k ∉ p.take k := by
  induction n with
  | zero => simp [pokc]
  | succ n ih =>
    simp only [pokc, Bool.and_eq_true, ih, decide_eq_true_eq, Bool.not_eq_true', decide_eq_false_iff_not]
    constructor
    · rintro ⟨h1, ⟨h2, h3⟩, h4⟩ k hk
      by_cases e : k = n
      · subst e; exact ⟨h2, h3, h4⟩
      · exact h1 k (by omega)
    · intro h; exact ⟨fun k hk => h k (by omega), ⟨(h n (by omega)).1, (h n (by omega)).2.1⟩, (h n (by omega)).2.2⟩
theorem nodup_take {p : List Int} : ∀ n, n ≤ p.length → (∀ k, k < n → pat p k ∉ p.take k) → (p.take n).Nodup := by
  intro n
  induction n with
  | zero => intro _ _; simp
  | succ n ih =>
    intro hn h
    rw [pat_take (by omega), List.nodup_append]
    refine ⟨ih (by omega) fun k hk => h k (by omega), by simp, ?_⟩
    intro a ha b hb
    simp at hb
    subst hb
    intro e
    subst e
    exact h n (by omega) ha
theorem permB_eq (p : List Int) : pokc p p.length = dokc p p.length := by
  rw [Bool.eq_iff_iff, pokc_iff, dokc_iff]
  constructor
  · intro h
    have hn : p.Nodup := by
      have := nodup_take (p := p) p.length (Nat.le_refl _) fun k hk => (h k hk).2.2
      rwa [List.take_length] at this
    have hr : ∀ x ∈ p, 0 ≤ x ∧ x < (p.length : Nat) := by
      intro x hx
      obtain ⟨k, hk, rfl⟩ := List.mem_iff_getElem.1 hx
      have := h k hk
      rw [pat_get hk] at this
      exact ⟨this.1, this.2.1⟩
    exact (ones_sumc (fun x => List.nodup_iff_count.1 hn x) p.length).2 (sumc_all hr)
  · intro h k hk
    have hs : sumc p p.length = p.length := sumc_ones h
    have hr := all_sumc hs (pat p k) (by rw [pat_get hk]; exact List.getElem_mem hk)
    refine ⟨hr.1, hr.2, fun hm => ?_⟩
    have h1 := h (pat p k).toNat (by omega)
    rw [show (((pat p k).toNat : Nat) : Int) = pat p k by omega] at h1
    have h2 : p = p.take k ++ pat p k :: p.drop (k + 1) := by
      rw [pat_get hk, ← List.drop_eq_getElem_cons hk, List.take_append_drop]
    have h3 : 0 < (p.take k).count (pat p k) := List.count_pos_iff.2 hm
    have h4 := congrArg (List.count (pat p k)) h2
    rw [List.count_append, List.count_cons_self] at h4
    omega
theorem permB_len {p : List Int} (h : permB p = true) : p.length ≤ 20 := by
  unfold permB at h
  simp at h
  exact h.1
theorem permB_range {p : List Int} (h : permB p = true) {k : Nat} (hk : k < p.length) : 0 ≤ pat p k ∧ pat p k < p.length := by
  unfold permB at h
  simp only [Bool.and_eq_true] at h
  have := (pokc_iff p p.length).1 h.2 k hk
  exact ⟨this.1, this.2.1⟩
theorem permB_inj {p : List Int} (h : permB p = true) {i k : Nat} (hik : i < k) (hk : k < p.length) : pat p i ≠ pat p k := by
  unfold permB at h
  simp only [Bool.and_eq_true] at h
  have := (pokc_iff p p.length).1 h.2 k hk
  intro e
  refine this.2.2 ?_
  rw [← e, pat_get (by omega)]
  exact List.mem_iff_getElem.2 ⟨i, by simp; omega, by simp⟩

/-- The digits may be dealt by. -/
def dgood (d : List Int) : Nat → Bool
  | 0 => true
  | j + 1 => dgood d j && (decide (0 ≤ pat d j) && decide (pat d j ≤ j))
theorem dgood_get {d : List Int} {n : Nat} (h : dgood d n = true) : ∀ k, k < n → 0 ≤ pat d k ∧ pat d k ≤ k := by
  induction n with
  | zero => intro k hk; omega
  | succ n ih =>
    simp only [dgood, Bool.and_eq_true, decide_eq_true_eq] at h
    intro k hk
    by_cases e : k = n
    · subst e; exact h.2
    · exact ih h.1 k (by omega)
theorem dgood_le {d : List Int} {n m : Nat} (hm : m ≤ n) (h : dgood d n = true) : dgood d m = true := by
  induction n with
  | zero => rw [show m = 0 by omega]; rfl
  | succ n ih =>
    by_cases e : m = n + 1
    · rw [e]; exact h
    · simp only [dgood, Bool.and_eq_true] at h
      exact ih (by omega) h.1
/-- What is dealt behind so many steps, from the last place on. -/
def pdl (d : List Int) : Nat → Nat → Int
  | 0 => fun i => i
  | j + 1 => updf (updf (pdl d j) (d.length - 1 - j) (pdl d j (pat d (d.length - 1 - j)).toNat)) (pat d (d.length - 1 - j)).toNat (pdl d j (d.length - 1 - j))
theorem updf_swap (f : Nat → Int) (a b : Nat) : updf (updf f a (f b)) b (f a) = updf (updf f b (f a)) a (f b) := by
  funext i
  unfold updf
  by_cases h1 : i = a
  · by_cases h2 : i = b
    · have : a = b := by omega
      subst this
      rfl
    · rw [if_neg h2, if_pos h1, if_pos h1]
  · by_cases h2 : i = b
    · rw [if_pos h2, if_neg h1, if_pos h2]
    · rw [if_neg h2, if_neg h1, if_neg h1, if_neg h2]
def dealL (d : List Int) : List Int := if d.length ≤ 20 ∧ dgood d d.length = true then tab (pdl d d.length) d.length else []
def dealE (d : List Int) : Int := if d.length ≤ 20 ∧ dgood d d.length = true then 0 else 2

/-- How many of the first so many of a list are less than one. -/
def lessn (l : List Int) (x : Int) : Nat → Nat
  | 0 => 0
  | j + 1 => lessn l x j + if pat l j < x then 1 else 0
theorem lessn_le (l : List Int) (x : Int) (j : Nat) : lessn l x j ≤ j := by
  induction j with
  | zero => exact Nat.le_refl _
  | succ j ih => simp only [lessn]; split <;> omega
theorem pat_drop (l : List Int) (a j : Nat) : pat (l.drop a) j = pat l (a + j) := by simp [pat, List.getD]
theorem lessn_self {l : List Int} {k : Nat} (j : Nat) : lessn (l.drop k) (pat l k) (j + 1) = lessn (l.drop (k + 1)) (pat l k) j := by
  induction j with
  | zero => simp [lessn, pat_drop]
  | succ j ih =>
    rw [lessn, ih, lessn, pat_drop, pat_drop, show k + (j + 1) = k + 1 + j by omega]
/-- How many behind place k are less. -/
def codef (p : List Int) (k : Nat) : Int := (lessn (p.drop (k + 1)) (pat p k) (p.length - (k + 1)) : Nat)
/-- .. of the first so many places, 0 behind these. -/
def cdf (p : List Int) : Nat → Nat → Int
  | 0 => fun _ => 0
  | k + 1 => updf (cdf p k) k (codef p k)
theorem cdf_zero (p : List Int) : ∀ (k i : Nat), k ≤ i → cdf p k i = 0 := by
  intro k
  induction k with
  | zero => intro i _; rfl
  | succ k ih => intro i hi; rw [cdf, updf_other _ (by omega)]; exact ih i (by omega)
theorem cdf_at (p : List Int) : ∀ (k i : Nat), i < k → cdf p k i = codef p i := by
  intro k
  induction k with
  | zero => intro i hi; omega
  | succ k ih =>
    intro i hi
    by_cases e : i = k
    · subst e; exact updf_same _ _ _
    · rw [cdf, updf_other _ e]; exact ih i (by omega)
theorem updf_self (f : Nat → Int) (k : Nat) (u : Int) (h : f k = u) : updf f k u = f := by
  funext i
  unfold updf
  split
  · next e => rw [e, h]
  · rfl
theorem updf_updf (f : Nat → Int) (k : Nat) (u v : Int) : updf (updf f k u) k v = updf f k v := by
  funext i
  unfold updf
  split <;> rfl
def codeL (p : List Int) : List Int := if permB p = true then tab (codef p) p.length else []
def codeE (p : List Int) : Int := if permB p = true then 0 else 1
def thenG (p q : List Int) : Bool := permB p && (permB q && decide (p.length = q.length))
def thenL (p q : List Int) : List Int := if thenG p q = true then tab (fun k => pat q (pat p k).toNat) p.length else []
def thenE (p q : List Int) : Int := if thenG p q = true then 0 else 1
/-- The places of the first so many. -/
def bkf (p : List Int) : Nat → Nat → Int
  | 0 => fun _ => 0
  | j + 1 => updf (bkf p j) (pat p j).toNat j
theorem bkf_at {p : List Int} (h : permB p = true) : ∀ n, n ≤ p.length → ∀ k, k < n → bkf p n (pat p k).toNat = k := by
  intro n
  induction n with
  | zero => intro _ k hk; omega
  | succ n ih =>
    intro hn k hk
    by_cases e : k = n
    · subst e; exact updf_same _ _ _
    · have h1 := permB_range h (show k < p.length by omega)
      have h2 := permB_range h (show n < p.length by omega)
      have h3 := permB_inj h (show k < n by omega) (by omega)
      rw [bkf, updf_other _ (by omega)]
      exact ih (by omega) k (by omega)
def backL (p : List Int) : List Int := if permB p = true then tab (bkf p p.length) p.length else []
end Go.Proofs.Ytkffakekakhgdaa
