/- Package bayes: plain facts, no program in sight. No condition. -/
import Derived.Test.YtkffakekakhgdaaSeq
namespace Go.Proofs.Ytkffakekakhgdaa
open Go.ChangeShapes Go.WideShapes Go.ChangeAt Go.RowKit
set_option linter.unusedVariables false

/-- What divides all, from so much on. -/
def gcdF (g : Nat) (l : List Int) : Nat := l.foldl (fun g x => Nat.gcd g x.natAbs) g
abbrev gcdL (l : List Int) : Nat := gcdF 0 l
theorem gcdF_cons (g : Nat) (x : Int) (l : List Int) : gcdF g (x :: l) = gcdF (Nat.gcd g x.natAbs) l := rfl
theorem gcdF_snoc (g : Nat) (l : List Int) (x : Int) : gcdF g (l ++ [x]) = Nat.gcd (gcdF g l) x.natAbs := by unfold gcdF; rw [List.foldl_append]; rfl
theorem gcdF_dvd (l : List Int) : ∀ g : Nat, gcdF g l ∣ g ∧ ∀ x ∈ l, (gcdF g l : Int) ∣ x := by
  induction l with
  | nil => exact fun g => ⟨Nat.dvd_refl _, fun x hx => by cases hx⟩
  | cons y l ih =>
    intro g
    obtain ⟨h1, h2⟩ := ih (Nat.gcd g y.natAbs)
    rw [gcdF_cons]
    refine ⟨Nat.dvd_trans h1 (Nat.gcd_dvd_left _ _), fun x hx => ?_⟩
    rcases List.mem_cons.1 hx with rfl | hx
    · exact Int.ofNat_dvd_left.2 (Nat.dvd_trans h1 (Nat.gcd_dvd_right _ _))
    · exact h2 x hx
theorem gcdF_scale (c : Nat) (l : List Int) : ∀ g : Nat, gcdF (c * g) (l.map fun x => (c : Int) * x) = c * gcdF g l := by
  induction l with
  | nil => exact fun g => rfl
  | cons y l ih =>
    intro g
    rw [List.map_cons, gcdF_cons, gcdF_cons, Int.natAbs_mul, Int.natAbs_natCast, Nat.gcd_mul_left]
    exact ih _
theorem gcdL_zero {l : List Int} (h : gcdL l = 0) : ∀ x ∈ l, x = 0 := fun x hx => by
  have h1 : ((gcdL l : Nat) : Int) ∣ x := (gcdF_dvd l 0).2 x hx
  rw [h] at h1
  exact Int.zero_dvd.1 h1
/-- Without what divides all. -/
def lowL (l : List Int) : List Int := l.map fun x => x / ((max (gcdL l) 1 : Nat) : Int)
theorem lowL_len (l : List Int) : (lowL l).length = l.length := by simp [lowL]
theorem lowL_one {l : List Int} (h : gcdL l ≤ 1) : lowL l = l := by
  unfold lowL
  rw [show max (gcdL l) 1 = 1 by omega]
  simp
theorem lowL_back (l : List Int) : l = (lowL l).map fun x => ((max (gcdL l) 1 : Nat) : Int) * x := by
  unfold lowL
  rw [List.map_map]
  conv => lhs; rw [← List.map_id l]
  refine List.map_congr_left fun x hx => ?_
  have hd : ((max (gcdL l) 1 : Nat) : Int) ∣ x := by
    by_cases h : gcdL l ≤ 1
    · rw [show max (gcdL l) 1 = 1 by omega]; exact Int.one_dvd x
    · rw [show max (gcdL l) 1 = gcdL l by omega]; exact (gcdF_dvd l 0).2 x hx
  exact (Int.mul_ediv_cancel' hd).symm
theorem lowL_scale {c : Nat} (hc : 0 < c) (l : List Int) : lowL (l.map fun x => (c : Int) * x) = lowL l := by
  have e := gcdF_scale c l 0
  rw [Nat.mul_zero] at e
  rcases Nat.eq_zero_or_pos (gcdL l) with h | h
  · have h0 := gcdL_zero h
    have e2 : l.map (fun x => (c : Int) * x) = l := by
      conv => rhs; rw [← List.map_id l]
      exact List.map_congr_left fun x hx => by rw [h0 x hx]; simp
    rw [e2]
  · unfold lowL
    rw [show gcdL (l.map fun x => (c : Int) * x) = c * gcdL l from e, List.map_map]
    refine List.map_congr_left fun x _ => ?_
    have hp : 0 < c * gcdL l := Nat.mul_pos hc h
    rw [show max (c * gcdL l) 1 = c * gcdL l by omega, show max (gcdL l) 1 = gcdL l by omega]
    show (c : Int) * x / ((c * gcdL l : Nat) : Int) = _
    rw [Int.natCast_mul, Int.mul_ediv_mul_of_pos _ _ (by omega)]
theorem lowL_low (l : List Int) : lowL (lowL l) = lowL l := by
  conv => rhs; rw [lowL_back l]
  exact (lowL_scale (c := max (gcdL l) 1) (by omega) (lowL l)).symm
theorem zip_scale (c : Int) (l m : List Int) : List.zipWith (· * ·) (l.map fun x => c * x) m = (List.zipWith (· * ·) l m).map fun x => c * x := by
  induction l generalizing m with
  | nil => simp
  | cons a l ih =>
    cases m with
    | nil => simp
    | cons b m => simp [ih, Int.mul_assoc]
/-- One step, behind what was left out: nothing turns. -/
theorem lowL_step (l m : List Int) : lowL (List.zipWith (· * ·) (lowL l) m) = lowL (List.zipWith (· * ·) l m) := by
  conv => rhs; rw [lowL_back l, zip_scale]
  exact (lowL_scale (c := max (gcdL l) 1) (by omega) _).symm
theorem lowL_nn {l : List Int} (h : ∀ x ∈ l, 0 ≤ x) : ∀ x ∈ lowL l, 0 ≤ x := fun x hx => by
  obtain ⟨y, hy, rfl⟩ := List.mem_map.1 hx
  exact Int.ediv_nonneg (h y hy) (by omega)
theorem lowL_le {l : List Int} {B : Int} (h : ∀ x ∈ l, 0 ≤ x ∧ x ≤ B) : ∀ x ∈ lowL l, 0 ≤ x ∧ x ≤ B := fun x hx => by
  obtain ⟨y, hy, rfl⟩ := List.mem_map.1 hx
  obtain ⟨h1, h2⟩ := h y hy
  exact ⟨Int.ediv_nonneg h1 (by omega), Int.le_trans (Int.ediv_le_self _ h1) h2⟩

/-! ### what is wrong -/
/-- Of one thing. -/
def bwone (n0 : Nat) (x : Int × List Int) : Int :=
  if x.1 < 0 ∨ 1000 < x.1 then 2 else if x.2.length ≠ n0 then 1 else if x.2.any (fun y => decide (y < 0) || decide (9 < y)) then 2 else 0
def bwall (n0 : Nat) : List (Int × List Int) → Int
  | [] => 0
  | x :: l => if bwone n0 x ≠ 0 then bwone n0 x else bwall n0 l
def bwrong (prior : List Int) (M : List (List Int)) : Int :=
  if prior.length ≠ M.length then 1 else if prior.length < 1 ∨ 8 < prior.length then 2 else bwall (M.headD []).length (prior.zip M)
/-- All is right. -/
structure BOk (prior : List Int) (M : List (List Int)) : Prop where
  len : prior.length = M.length
  pos : 1 ≤ prior.length
  le : prior.length ≤ 8
  p : ∀ k, k < prior.length → 0 ≤ pat prior k ∧ pat prior k ≤ 1000
  row : ∀ k (h : k < M.length), M[k].length = (M.headD []).length
  num : ∀ k (h : k < M.length), ∀ y ∈ M[k], 0 ≤ y ∧ y ≤ 9
theorem bwall_zero {n0 : Nat} {l : List (Int × List Int)} (h : bwall n0 l = 0) : ∀ x ∈ l, bwone n0 x = 0 := by
  induction l with
  | nil => intro x hx; cases hx
  | cons y l ih =>
    rw [bwall] at h
    by_cases e : bwone n0 y = 0
    · rw [if_neg (by simpa using e)] at h
      intro x hx
      rcases List.mem_cons.1 hx with rfl | hx
      · exact e
      · exact ih h x hx
    · rw [if_pos e] at h
      exact absurd h e
theorem bwone_zero {n0 : Nat} {x : Int × List Int} (h : bwone n0 x = 0) : 0 ≤ x.1 ∧ x.1 ≤ 1000 ∧ x.2.length = n0 ∧ ∀ y ∈ x.2, 0 ≤ y ∧ y ≤ 9 := by
  unfold bwone at h
  split at h
  · cases h
  · next h1 =>
    split at h
    · cases h
    · next h2 =>
      split at h
      · cases h
      · next h3 =>
        refine ⟨by omega, by omega, by omega, fun y hy => ?_⟩
        have h4 : ¬ (y < 0 ∨ 9 < y) := fun hy2 => h3 (List.any_eq_true.2 ⟨y, hy, by simpa using hy2⟩)
        omega
theorem bok_of {prior : List Int} {M : List (List Int)} (h : bwrong prior M = 0) : BOk prior M := by
  unfold bwrong at h
  split at h
  · cases h
  · next h1 =>
    split at h
    · cases h
    · next h2 =>
      have h3 := bwall_zero h
      have hl : prior.length = M.length := by omega
      have hk : ∀ k (h : k < M.length), bwone (M.headD []).length (pat prior k, M[k]) = 0 := fun k hk => by
        refine h3 _ ?_
        rw [pat_get (by omega)]
        exact List.mem_iff_getElem.2 ⟨k, by simp; omega, by simp⟩
      exact ⟨hl, by omega, by omega, fun k hk2 => ⟨(bwone_zero (hk k (by omega))).1, (bwone_zero (hk k (by omega))).2.1⟩, fun k hk2 => (bwone_zero (hk k hk2)).2.2.1, fun k hk2 => (bwone_zero (hk k hk2)).2.2.2⟩

/-! ### what is seen -/
theorem snoc_ind {α : Type} {P : List α → Prop} (h0 : P []) (h1 : ∀ l a, P l → P (l ++ [a])) (l : List α) : P l := by
  have h : ∀ m : List α, P m.reverse := fun m => by
    induction m with
    | nil => exact h0
    | cons a m ih => rw [List.reverse_cons]; exact h1 _ _ ih
  have := h l.reverse
  rwa [List.reverse_reverse] at this
def colM (M : List (List Int)) (s : Int) : List Int := M.map fun r => pat r s.toNat
def bprod (prior : List Int) (M : List (List Int)) (seen : List Int) : List Int := seen.foldl (fun l s => List.zipWith (· * ·) l (colM M s)) prior
theorem bprod_snoc (prior : List Int) (M : List (List Int)) (seen : List Int) (s : Int) : bprod prior M (seen ++ [s]) = List.zipWith (· * ·) (bprod prior M seen) (colM M s) := by
  unfold bprod; rw [List.foldl_append]; rfl
def bout (prior : List Int) (M : List (List Int)) (seen : List Int) : List Int := seen.foldl (fun l s => lowL (List.zipWith (· * ·) l (colM M s))) prior
theorem bout_snoc (prior : List Int) (M : List (List Int)) (seen : List Int) (s : Int) : bout prior M (seen ++ [s]) = lowL (List.zipWith (· * ·) (bout prior M seen) (colM M s)) := by
  unfold bout; rw [List.foldl_append]; rfl
theorem bout_low (prior : List Int) (M : List (List Int)) (seen : List Int) : lowL (bout prior M seen) = lowL (bprod prior M seen) := by
  refine snoc_ind (P := fun seen => lowL (bout prior M seen) = lowL (bprod prior M seen)) rfl (fun l s ih => ?_) seen
  rw [bout_snoc, bprod_snoc, lowL_low, ← lowL_step (bout prior M l), ih, lowL_step]
theorem bprod_len {prior : List Int} {M : List (List Int)} (h : prior.length = M.length) (seen : List Int) : (bprod prior M seen).length = prior.length := by
  refine snoc_ind (P := fun seen => (bprod prior M seen).length = prior.length) rfl (fun l s ih => ?_) seen
  rw [bprod_snoc, List.length_zipWith, ih, colM, List.length_map]; omega
theorem bout_len {prior : List Int} {M : List (List Int)} (h : prior.length = M.length) (seen : List Int) : (bout prior M seen).length = prior.length := by
  refine snoc_ind (P := fun seen => (bout prior M seen).length = prior.length) rfl (fun l s ih => ?_) seen
  rw [bout_snoc, lowL_len, List.length_zipWith, ih, colM, List.length_map]; omega
/-- One thing alone. -/
def bone (p : Int) (r : List Int) (seen : List Int) : Int := seen.foldl (fun x s => x * pat r s.toNat) p
theorem bone_snoc (p : Int) (r seen : List Int) (s : Int) : bone p r (seen ++ [s]) = bone p r seen * pat r s.toNat := by unfold bone; rw [List.foldl_append]; rfl
theorem bprod_at {prior : List Int} {M : List (List Int)} (h : prior.length = M.length) (seen : List Int) {k : Nat} (hk : k < M.length) : pat (bprod prior M seen) k = bone (pat prior k) M[k] seen := by
  refine snoc_ind (P := fun seen => pat (bprod prior M seen) k = bone (pat prior k) M[k] seen) rfl (fun l s ih => ?_) seen
  rw [bprod_snoc, bone_snoc, ← ih]
  have h1 : k < (bprod prior M l).length := by rw [bprod_len h]; omega
  have h2 : k < (colM M s).length := by simp [colM]; exact hk
  rw [pat_get (by rw [List.length_zipWith]; omega), List.getElem_zipWith, pat_get h1]
  simp [colM]
end Go.Proofs.Ytkffakekakhgdaa
