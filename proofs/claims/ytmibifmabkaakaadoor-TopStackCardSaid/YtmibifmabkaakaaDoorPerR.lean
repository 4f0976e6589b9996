/- The rank of an order, and the order of a rank: plain. No condition. -/
import Derived.Test.YtmibifmabkaakaaDoorPerM
namespace Go.Proofs.YtmibifmabkaakaaDoor
set_option linter.unusedVariables false

def fct : Nat → Nat
  | 0 => 1
  | n + 1 => (n + 1) * fct n
theorem fct_pos : ∀ n, 0 < fct n
  | 0 => Nat.one_pos
  | n + 1 => Nat.mul_pos (Nat.succ_pos _) (fct_pos n)
theorem fct_mono {a b : Nat} (h : a ≤ b) : fct a ≤ fct b := by
  induction h with
  | refl => exact Nat.le_refl _
  | step h ih =>
    refine Nat.le_trans ih ?_
    rw [fct]
    exact Nat.le_mul_of_pos_left _ (Nat.succ_pos _)
theorem fct_20 : fct 20 = 2432902008176640000 := by decide +kernel
theorem fct_le {n : Nat} (h : n ≤ 20) : fct n ≤ 2432902008176640000 := by rw [← fct_20]; exact fct_mono h
/-- How many orders come ahead. -/
def drk : List Int → Nat
  | [] => 0
  | x :: ys => lessn ys x ys.length * fct ys.length + drk ys
theorem drk_lt : ∀ p : List Int, drk p < fct p.length
  | [] => Nat.one_pos
  | x :: ys => by
    have h1 := lessn_le ys x ys.length
    have h2 := drk_lt ys
    have h3 : lessn ys x ys.length * fct ys.length ≤ ys.length * fct ys.length := Nat.mul_le_mul_right _ h1
    rw [List.length_cons, fct, drk, Nat.add_mul, Nat.one_mul]
    omega
def cN (p : List Int) (k : Nat) : Nat := lessn (p.drop (k + 1)) (pat p k) (p.length - (k + 1))
theorem codef_cN (p : List Int) (k : Nat) : codef p k = (cN p k : Nat) := rfl
theorem drk_drop {p : List Int} {k : Nat} (h : k < p.length) : drk (p.drop k) = cN p k * fct (p.length - (k + 1)) + drk (p.drop (k + 1)) := by
  rw [List.drop_eq_getElem_cons h, drk, ← pat_get h, List.length_drop]; rfl
def rkf (p : List Int) : Nat → Nat
  | 0 => 0
  | k + 1 => rkf p k * (p.length - k) + cN p k
theorem rkf_inv (p : List Int) : ∀ k, k ≤ p.length → rkf p k * fct (p.length - k) + drk (p.drop k) = drk p := by
  intro k
  induction k with
  | zero => intro _; simp [rkf]
  | succ k ih =>
    intro h
    have h1 := ih (by omega)
    rw [drk_drop (show k < p.length by omega)] at h1
    have h2 : fct (p.length - k) = (p.length - k) * fct (p.length - (k + 1)) := by
      rw [show p.length - k = (p.length - (k + 1)) + 1 by omega, fct]
    rw [h2] at h1
    rw [rkf, Nat.add_mul, Nat.mul_assoc]
    omega
theorem rkf_end (p : List Int) : rkf p p.length = drk p := by
  have h := rkf_inv p p.length (Nat.le_refl _)
  rw [Nat.sub_self, List.drop_eq_nil_of_le (Nat.le_refl _)] at h
  simpa [fct, drk] using h
theorem rkf_le {p : List Int} {k : Nat} (h : k ≤ p.length) : rkf p k ≤ drk p := by
  have h1 := rkf_inv p k h
  have h2 := fct_pos (p.length - k)
  have h3 : rkf p k * 1 ≤ rkf p k * fct (p.length - k) := Nat.mul_le_mul_left _ h2
  omega

/-- The digits of a rank. -/
def dg (n r i : Nat) : Nat := r / fct (n - (i + 1)) % (n - i)
theorem dg_lt {n r i : Nat} (h : i < n) : dg n r i < n - i := Nat.mod_lt _ (by omega)
theorem fct_step {n i : Nat} (h : i < n) : fct (n - i) = (n - i) * fct (n - (i + 1)) := by
  rw [show n - i = (n - (i + 1)) + 1 by omega, fct]
theorem div_step {n r i : Nat} (h : i < n) : r / fct (n - (i + 1)) / (n - i) = r / fct (n - i) := by
  rw [Nat.div_div_eq_div_mul, fct_step h, Nat.mul_comm]
theorem skip_step {n r i : Nat} (h : i < n) : r % fct (n - i) / fct (n - (i + 1)) = dg n r i := by
  rw [fct_step h, Nat.mul_comm, Nat.mod_mul_right_div_self]; rfl
theorem mod_step {n r i : Nat} (h : i < n) : r % fct (n - i) % fct (n - (i + 1)) = r % fct (n - (i + 1)) := by
  rw [fct_step h]; exact Nat.mod_mod_of_dvd _ (Nat.dvd_mul_left _ _)
/-- What is left behind so many steps. -/
def lf (n r : Nat) : Nat → List Int
  | 0 => tab (fun i => (i : Int)) n
  | i + 1 => (lf n r i).eraseIdx (dg n r i)
/-- What is taken. -/
def ot (n r : Nat) : Nat → List Int
  | 0 => []
  | i + 1 => ot n r i ++ [pat (lf n r i) (dg n r i)]
theorem lf_len (n r : Nat) : ∀ i, i ≤ n → (lf n r i).length = n - i
  | 0, _ => tab_len _ _
  | i + 1, h => by
    have h1 := lf_len n r i (by omega)
    have h2 := dg_lt (r := r) (show i < n by omega)
    rw [lf, List.length_eraseIdx_of_lt (by omega), h1]; omega
theorem ot_len (n r : Nat) : ∀ i, (ot n r i).length = i
  | 0 => rfl
  | i + 1 => by rw [ot, List.length_append, ot_len]; rfl
theorem lf_sorted (n r : Nat) : ∀ i, (lf n r i).Pairwise (· < ·)
  | 0 => by
    unfold lf tab
    rw [List.pairwise_map]
    exact List.pairwise_lt_range.imp (fun h => by omega)
  | i + 1 => (lf_sorted n r i).sublist (List.eraseIdx_sublist _ _)
theorem pat_lt {l : List Int} (h : l.Pairwise (· < ·)) {a b : Nat} (hab : a < b) (hb : b < l.length) : pat l a < pat l b := by
  rw [pat_get (show a < l.length by omega), pat_get hb]
  exact List.pairwise_iff_getElem.1 h a b (by omega) hb hab
theorem pat_inj {l : List Int} (h : l.Pairwise (· < ·)) {a b : Nat} (ha : a < l.length) (hb : b < l.length) (e : pat l a = pat l b) : a = b := by
  rcases Nat.lt_trichotomy a b with h1 | h1 | h1
  · have := pat_lt h h1 hb; omega
  · exact h1
  · have := pat_lt h h1 ha; omega
theorem mem_pat {l : List Int} {x : Int} : x ∈ l ↔ ∃ j, j < l.length ∧ pat l j = x := by
  rw [List.mem_iff_getElem]
  constructor
  · rintro ⟨j, hj, rfl⟩; exact ⟨j, hj, pat_get hj⟩
  · rintro ⟨j, hj, rfl⟩; exact ⟨j, hj, (pat_get hj).symm⟩
theorem lf_mem (n r : Nat) : ∀ i, i ≤ n → ∀ x : Int, x ∈ lf n r i ↔ 0 ≤ x ∧ x < n ∧ x ∉ ot n r i
  | 0, _, x => by
    unfold lf ot tab
    rw [List.mem_map]
    constructor
    · rintro ⟨j, hj, rfl⟩
      have := List.mem_range.1 hj
      exact ⟨by omega, by omega, by simp⟩
    · rintro ⟨h1, h2, _⟩
      exact ⟨x.toNat, List.mem_range.2 (by omega), by omega⟩
  | i + 1, h, x => by
    have ih := lf_mem n r i (by omega) x
    have hl := lf_len n r i (by omega)
    have hd := dg_lt (r := r) (show i < n by omega)
    have hs := lf_sorted n r i
    rw [lf, ot, List.mem_append, List.mem_singleton]
    have hm : x ∈ (lf n r i).eraseIdx (dg n r i) ↔ x ∈ lf n r i ∧ x ≠ pat (lf n r i) (dg n r i) := by
      rw [List.mem_eraseIdx_iff_getElem]
      constructor
      · rintro ⟨j, hj, hne, rfl⟩
        refine ⟨List.getElem_mem hj, fun e => hne ?_⟩
        rw [← pat_get hj] at e
        exact pat_inj hs hj (by omega) e
      · rintro ⟨h1, h2⟩
        obtain ⟨j, hj, rfl⟩ := mem_pat.1 h1
        exact ⟨j, hj, fun e => h2 (by rw [e]), (pat_get hj).symm⟩
    rw [hm, ih]
    constructor
    · rintro ⟨⟨h1, h2, h3⟩, h4⟩
      exact ⟨h1, h2, fun e => e.elim h3 h4⟩
    · rintro ⟨h1, h2, h3⟩
      exact ⟨⟨h1, h2, fun e => h3 (.inl e)⟩, fun e => h3 (.inr e)⟩
/-- What At answers. -/
def atL (n r : Int) : List Int := if 0 ≤ n ∧ n ≤ 20 ∧ 0 ≤ r ∧ r < fct n.toNat then ot n.toNat r.toNat n.toNat else []
def atE (n r : Int) : Int := if 0 ≤ n ∧ n ≤ 20 ∧ 0 ≤ r then if r < fct n.toNat then 0 else 3 else 2
/-- The scan for the one behind so many that are left: i of these lie below x. -/
def Scan (l : List Int) (s x i : Nat) : Prop := i ≤ s ∧ s < l.length ∧ (∀ j, j < i → pat l j < x) ∧ ∀ j, i ≤ j → j < l.length → (x : Int) ≤ pat l j
theorem scan_start {l : List Int} {s : Nat} (h : s < l.length) (h0 : ∀ x ∈ l, 0 ≤ x) : Scan l s 0 0 :=
  ⟨Nat.zero_le _, h, fun j hj => by omega, fun j _ hj => h0 _ (mem_pat.2 ⟨j, hj, rfl⟩)⟩
theorem scan_in {l : List Int} (hs : l.Pairwise (· < ·)) {s x i : Nat} (h : Scan l s x i) (hx : (x : Int) ∈ l) : pat l i = x := by
  obtain ⟨h1, h2, h3, h4⟩ := h
  obtain ⟨j, hj, e⟩ := mem_pat.1 hx
  rcases Nat.lt_trichotomy i j with h5 | h5 | h5
  · have := pat_lt hs h5 hj
    have := h4 i (Nat.le_refl _) (by omega)
    omega
  · rw [h5]; exact e
  · have := h3 j h5; omega
theorem scan_skip {l : List Int} (hs : l.Pairwise (· < ·)) {s x i : Nat} (h : Scan l s x i) (hx : (x : Int) ∉ l) : Scan l s (x + 1) i := by
  obtain ⟨h1, h2, h3, h4⟩ := h
  refine ⟨h1, h2, fun j hj => by have := h3 j hj; omega, fun j hj hl => ?_⟩
  have h5 := h4 j hj hl
  have h6 : (x : Int) ≠ pat l j := fun e => hx (mem_pat.2 ⟨j, hl, e.symm⟩)
  omega
theorem scan_next {l : List Int} (hs : l.Pairwise (· < ·)) {s x i : Nat} (h : Scan l s x i) (hx : (x : Int) ∈ l) (hi : i < s) : Scan l s (x + 1) (i + 1) := by
  have hp := scan_in hs h hx
  obtain ⟨h1, h2, h3, h4⟩ := h
  refine ⟨hi, h2, fun j hj => ?_, fun j hj hl => ?_⟩
  · by_cases e : j = i
    · subst e; omega
    · have := h3 j (by omega); omega
  · have := pat_lt hs (show i < j by omega) hl
    omega
theorem scan_lt {l : List Int} {s x i n : Nat} (h : Scan l s x i) (hn : ∀ y ∈ l, y < (n : Int)) : x < n := by
  obtain ⟨h1, h2, h3, h4⟩ := h
  have h5 := h4 i (Nat.le_refl _) (by omega)
  have h6 := hn _ (mem_pat.2 ⟨i, by omega, rfl⟩)
  omega
end Go.Proofs.YtmibifmabkaakaaDoor
