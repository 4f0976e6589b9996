/- Choices and their numbers: plain. No condition. -/
import Derived.Test.YtmcbkjepjijfjaaComN
import Derived.Test.YtmcbkjepjijfjaaBinM
import Derived.Test.YtmcbkjepjijfjaaSeq
namespace Go.Proofs.Ytmcbkjepjijfjaa
set_option linter.unusedVariables false

theorem bin_mono1 (n k : Nat) : bin n k ≤ bin (n + 1) k := by
  cases k with
  | zero => rw [bin_zero, bin_zero]; exact Nat.le_refl _
  | succ k => rw [bin_succ]; omega
theorem bin_mono {n m : Nat} (h : n ≤ m) (k : Nat) : bin n k ≤ bin m k := by
  induction h with
  | refl => exact Nat.le_refl _
  | step h ih => exact Nat.le_trans ih (bin_mono1 _ _)
/-- The number of a choice: of its first so many. -/
def erk (c : List Int) : Nat → Nat
  | 0 => 0
  | i + 1 => erk c i + bin (zat c i).toNat (i + 1)
theorem erk_lt {n : Int} {c : List Int} {m : Nat} (h : eokc n c m = true) : ∀ i, i ≤ m → ∀ x : Nat, (∀ j, j < i → (zat c j).toNat < x) → erk c i < bin x i := by
  intro i
  induction i with
  | zero => intro _ x _; rw [bin_zero]; exact Nat.one_pos
  | succ i ih =>
    intro hi x hx
    have h1 := ih (by omega) (zat c i).toNat fun j hj => by
      have h2 := eokc_lt h hj (show i < m by omega)
      have h3 := eokc_nn h (show j < m by omega)
      omega
    have h2 := bin_mono (show (zat c i).toNat + 1 ≤ x from hx i (by omega)) (i + 1)
    rw [bin_succ] at h2
    rw [erk]
    omega
theorem erk_bound {n : Int} {c : List Int} (h : eokc n c c.length = true) (h0 : 0 ≤ n) {i : Nat} (hi : i ≤ c.length) : erk c i < bin n.toNat i :=
  erk_lt h i hi n.toNat fun j hj => by
    have := (eokc_at h (show j < c.length by omega)).2
    have := eokc_nn h (show j < c.length by omega)
    omega
theorem erk_next {n : Int} {c : List Int} {m : Nat} (h : eokc n c m = true) {i : Nat} (hi : i < m) : erk c (i + 1) < bin ((zat c i).toNat + 1) (i + 1) :=
  erk_lt h (i + 1) hi _ fun j hj => by
    by_cases e : j = i
    · subst e; exact Nat.lt_succ_self _
    · have h2 := eokc_lt h (show j < i by omega) hi
      have h3 := eokc_nn h (show j < m by omega)
      omega
/-- The greatest one below n that no more than r come ahead of. -/
def gtop : Nat → Nat → Nat → Nat
  | 0, _, _ => 0
  | t + 1, k, r => if bin t k ≤ r then t else gtop t k r
def Top (k r x : Nat) : Prop := bin x k ≤ r ∧ r < bin (x + 1) k
theorem gtop_eq {k r x : Nat} (h : Top k r x) : ∀ n, x < n → gtop n k r = x := by
  intro n
  induction n with
  | zero => intro hx; omega
  | succ t ih =>
    intro hx
    rw [gtop]
    by_cases e : x = t
    · subst e; rw [if_pos h.1]
    · have h1 := bin_mono (show x + 1 ≤ t by omega) k
      have h2 := h.2
      rw [if_neg (by omega)]
      exact ih (by omega)
theorem gtop_top {k r : Nat} (hk : 0 < k) : ∀ n, r < bin n k → gtop n k r < n ∧ Top k r (gtop n k r) := by
  intro n
  induction n with
  | zero => intro h; rw [bin_gt hk] at h; omega
  | succ t ih =>
    intro h
    rw [gtop]
    by_cases e : bin t k ≤ r
    · rw [if_pos e]; exact ⟨Nat.lt_succ_self _, e, h⟩
    · rw [if_neg e]
      have := ih (by omega)
      exact ⟨by omega, this.2⟩
/-- The choice that so many come ahead of. -/
def eatL : Nat → Nat → Nat → List Int
  | _, 0, _ => []
  | n, k + 1, r => eatL (gtop n (k + 1) r) k (r - bin (gtop n (k + 1) r) (k + 1)) ++ [((gtop n (k + 1) r : Nat) : Int)]
theorem eatL_len : ∀ k n r, (eatL n k r).length = k
  | 0, _, _ => rfl
  | k + 1, n, r => by rw [eatL, List.length_append, eatL_len]; rfl
theorem eat_less {k r n : Nat} (h : r < bin n (k + 1)) : r - bin (gtop n (k + 1) r) (k + 1) < bin (gtop n (k + 1) r) k := by
  have h1 := (gtop_top (k := k + 1) (Nat.succ_pos k) n h).2
  have h2 := h1.2
  rw [bin_succ] at h2
  have h3 := h1.1
  omega
/-- A choice is the one that as many as its number come ahead of. -/
theorem eat_self {n : Int} {c : List Int} {m : Nat} (h : eokc n c m = true) (hm : m ≤ c.length) : ∀ i, i ≤ m → ∀ x : Nat, (∀ j, j < i → (zat c j).toNat < x) → eatL x i (erk c i) = c.take i := by
  intro i
  induction i with
  | zero => intro _ x _; simp [eatL]
  | succ i ih =>
    intro hi x hx
    have hn := eokc_nn h (show i < m by omega)
    have ht : gtop x (i + 1) (erk c (i + 1)) = (zat c i).toNat :=
      gtop_eq ⟨by rw [erk]; omega, erk_next h (by omega)⟩ x (hx i (by omega))
    rw [eatL, ht, show erk c (i + 1) - bin (zat c i).toNat (i + 1) = erk c i by rw [erk]; omega]
    rw [ih (by omega) _ fun j hj => by
      have h2 := eokc_lt h hj (show i < m by omega)
      have h3 := eokc_nn h (show j < m by omega)
      omega]
    rw [List.take_succ_eq_append_getElem (show i < c.length by omega), ← zat_get (show i < c.length by omega), show (((zat c i).toNat : Nat) : Int) = zat c i by omega]
theorem eat_all {n : Int} {c : List Int} (h : eokc n c c.length = true) (h0 : 0 ≤ n) : eatL n.toNat c.length (erk c c.length) = c := by
  rw [eat_self h (Nat.le_refl _) c.length (Nat.le_refl _) n.toNat fun j hj => by
    have := (eokc_at h hj).2
    have := eokc_nn h hj
    omega]
  exact List.take_length
/-- What a count of places behind one another is. -/
def runs (a : Nat) : Nat → Nat
  | 0 => 0
  | k + 1 => runs a k + bin (a + k) (k + 1)
theorem runs_eq (a k : Nat) : runs a k + 1 = bin (a + k) k := by
  induction k with
  | zero => rw [bin_zero]; rfl
  | succ k ih => rw [runs, ← Nat.add_assoc a k 1, bin_succ]; omega
theorem erk_runs {c : List Int} {a : Nat} : ∀ k, (∀ j, j < k → zat c j = (a + j : Nat)) → erk c k = runs a k
  | 0, _ => rfl
  | k + 1, h => by
    rw [erk, runs, erk_runs k fun j hj => h j (by omega), h k (by omega)]; rfl
/-- The end of place k: the next number, or n. -/
def cend (n : Int) (c : List Int) (k : Nat) : Int := if k + 1 < c.length then zat c (k + 1) else n
/-- The first so many have no room to rise. -/
def cstuck (n : Int) (c : List Int) (k : Nat) : Prop := ∀ j, j < k → ¬ zat c j + 1 < cend n c j
theorem stuck_eq {n : Int} {c : List Int} (h : eokc n c c.length = true) {k : Nat} (hk : k < c.length) (hs : cstuck n c k) : ∀ j, j ≤ k → zat c j = zat c 0 + j := by
  intro j
  induction j with
  | zero => intro _; omega
  | succ j ih =>
    intro hj
    have h1 := hs j (by omega)
    unfold cend at h1
    rw [if_pos (by omega)] at h1
    have h2 := eokc_lt h (show j < j + 1 by omega) (by omega)
    have h3 := ih (by omega)
    omega
/-- The choice behind one, that rises at place k. -/
def cnext (c : List Int) (k : Nat) : List Int := tab (fun i => if i < k then (i : Int) else if i = k then zat c k + 1 else zat c i) c.length
theorem zat_pat (c : List Int) (i : Nat) : zat c i = pat c i := rfl
theorem cnext_len (c : List Int) (k : Nat) : (cnext c k).length = c.length := tab_len _ _
theorem cnext_at (c : List Int) (k : Nat) {i : Nat} (hi : i < c.length) : zat (cnext c k) i = if i < k then (i : Int) else if i = k then zat c k + 1 else zat c i := by
  rw [zat_pat, cnext, pat_tab hi]
theorem cnext_ok {n : Int} {c : List Int} (h : eokc n c c.length = true) {k : Nat} (hk : k < c.length) (hs : cstuck n c k) (hr : zat c k + 1 < cend n c k) : eokc n (cnext c k) (cnext c k).length = true := by
  have hst := stuck_eq h hk hs
  have h0 := eokc_nn h (show 0 < c.length by omega)
  rw [cnext_len]
  have key : ∀ m, m ≤ c.length → eokc n (cnext c k) m = true := by
    intro m
    induction m with
    | zero => intro _; rfl
    | succ m ih =>
      intro hm
      have hm' : m < c.length := by omega
      have hv := cnext_at c k hm'
      have hb := (eokc_at h hm').2
      have hnn := eokc_nn h hm'
      show (eokc n (cnext c k) m && (decide (eprev (cnext c k) m < zat (cnext c k) m) && decide (zat (cnext c k) m < n))) = true
      rw [ih (by omega), Bool.true_and, Bool.and_eq_true, decide_eq_true_eq, decide_eq_true_eq]
      have hkk := hst k (Nat.le_refl _)
      have hkn := (eokc_at h hk).2
      constructor
      · cases m with
        | zero =>
          show (-1 : Int) < _
          rw [hv]
          split
          · omega
          · split
            · next e => have := eokc_nn h hk; omega
            · omega
        | succ m =>
          show zat (cnext c k) m < _
          have hv2 := cnext_at c k (show m < c.length by omega)
          rw [hv, hv2]
          by_cases e1 : m + 1 < k
          · rw [if_pos e1, if_pos (by omega)]; omega
          · rw [if_neg e1]
            by_cases e2 : m + 1 = k
            · rw [if_pos e2, if_pos (by omega)]; omega
            · rw [if_neg e2, if_neg (by omega)]
              by_cases e3 : m = k
              · subst e3
                rw [if_pos rfl]
                unfold cend at hr
                rw [if_pos (by omega)] at hr
                exact hr
              · rw [if_neg e3]
                exact eokc_lt h (by omega) hm'
      · rw [hv]
        split
        · next e1 => have := hst m (by omega); omega
        · split
          · next e1 e2 =>
            unfold cend at hr
            split at hr
            · next e3 => have := (eokc_at h e3).2; omega
            · exact hr
          · exact hb
  exact key _ (Nat.le_refl _)
theorem erk_congr {c d : List Int} (k : Nat) (h : ∀ j, j < k → zat c j = zat d j) : erk c k = erk d k := by
  induction k with
  | zero => rfl
  | succ k ih => rw [erk, erk, ih fun j hj => h j (by omega), h k (by omega)]
theorem erk_tail {c d : List Int} {k m : Nat} (hk : k ≤ m) (h : ∀ j, k ≤ j → j < m → zat c j = zat d j) : erk c m + erk d k = erk d m + erk c k := by
  induction m with
  | zero => obtain rfl : k = 0 := by omega
            rfl
  | succ m ih =>
    by_cases e : k = m + 1
    · subst e; omega
    · have := ih (by omega) fun j h1 h2 => h j h1 (by omega)
      rw [erk, erk, h m (by omega) (by omega)]
      omega
theorem erk_low {c : List Int} : ∀ k, (∀ j, j < k → zat c j = j) → erk c k = 0
  | 0, _ => rfl
  | k + 1, h => by rw [erk, erk_low k fun j hj => h j (by omega), h k (by omega), Int.toNat_natCast, bin_gt (by omega)]
theorem cnext_rank {n : Int} {c : List Int} (h : eokc n c c.length = true) {k : Nat} (hk : k < c.length) (hs : cstuck n c k) : erk (cnext c k) c.length = erk c c.length + 1 := by
  have hst := stuck_eq h hk hs
  have h0 := eokc_nn h (show 0 < c.length by omega)
  obtain ⟨a, ha⟩ : ∃ a : Nat, zat c 0 = a := ⟨(zat c 0).toNat, by omega⟩
  have ht := erk_tail (c := cnext c k) (d := c) (k := k + 1) (m := c.length) (by omega) fun j h1 h2 => by
    rw [cnext_at c k h2, if_neg (by omega), if_neg (by omega)]
  have e1 : erk (cnext c k) k = 0 := erk_low k fun j hj => by rw [cnext_at c k (by omega), if_pos hj]
  have e2 : erk c k = runs a k := erk_runs k fun j hj => by have := hst j (by omega); omega
  have e3 : (zat c k).toNat = a + k := by have := hst k (Nat.le_refl _); omega
  have e4 : (zat (cnext c k) k).toNat = a + k + 1 := by
    rw [cnext_at c k hk, if_neg (by omega), if_pos rfl]
    have := hst k (Nat.le_refl _); omega
  have e5 : erk (cnext c k) (k + 1) = bin (a + k + 1) (k + 1) := by rw [erk, e1, e4]; omega
  have e6 : erk c (k + 1) = runs a k + bin (a + k) (k + 1) := by rw [erk, e2, e3]
  have e7 := runs_eq a k
  rw [e5, e6, bin_succ] at ht
  omega
theorem clast_rank {n : Int} {c : List Int} (h : eokc n c c.length = true) (h0 : 0 ≤ n) (hs : cstuck n c c.length) : erk c c.length + 1 = bin n.toNat c.length := by
  by_cases hl : c.length = 0
  · rw [hl, bin_zero]; rfl
  · have hst := stuck_eq h (show c.length - 1 < c.length by omega) fun j hj => hs j (by omega)
    have h1 := eokc_nn h (show 0 < c.length by omega)
    obtain ⟨a, ha⟩ : ∃ a : Nat, zat c 0 = a := ⟨(zat c 0).toNat, by omega⟩
    have h2 := hs (c.length - 1) (by omega)
    unfold cend at h2
    rw [if_neg (by omega)] at h2
    have h3 := (eokc_at h (show c.length - 1 < c.length by omega)).2
    have h4 := hst (c.length - 1) (Nat.le_refl _)
    rw [erk_runs (a := a) c.length fun j hj => by have := hst j (by omega); omega, runs_eq]
    congr 1
    omega
/-- What At answers. -/
def catL (n k r : Int) : List Int := if 0 ≤ n ∧ n ≤ 60 ∧ 0 ≤ k ∧ 0 ≤ r ∧ r < bin n.toNat k.toNat then eatL n.toNat k.toNat r.toNat else []
def catE (n k r : Int) : Int := if 0 ≤ n ∧ n ≤ 60 ∧ 0 ≤ k ∧ 0 ≤ r then if r < bin n.toNat k.toNat then 0 else 3 else 2
/-- What Next answers: the first place that can rise. -/
def nxt (n : Int) (c : List Int) : Nat → Nat → List Int × Int
  | _, 0 => ([], 3)
  | k, f + 1 => if zat c k + 1 < cend n c k then (cnext c k, 0) else nxt n c (k + 1) f
theorem nxt_eat {n : Int} {c : List Int} (h : eokc n c c.length = true) (h0 : 0 ≤ n) (h60 : n ≤ 60) : ∀ f k, k + f = c.length → cstuck n c k →
    nxt n c k f = (catL n c.length ((erk c c.length + 1 : Nat) : Int), catE n c.length ((erk c c.length + 1 : Nat) : Int)) := by
  intro f
  induction f with
  | zero =>
    intro k hk hs
    obtain rfl : k = c.length := by omega
    have hl := clast_rank h h0 hs
    have hn : ¬ ((erk c c.length + 1 : Nat) : Int) < ((bin n.toNat c.length : Nat) : Int) := by omega
    unfold catL catE
    rw [Int.toNat_natCast, if_neg (fun h => hn h.2.2.2.2), if_pos ⟨h0, h60, by omega, by omega⟩, if_neg hn]
    rfl
  | succ f ih =>
    intro k hk hs
    rw [nxt]
    by_cases hr : zat c k + 1 < cend n c k
    · rw [if_pos hr]
      have hok := cnext_ok h (show k < c.length by omega) hs hr
      have hrk := cnext_rank h (show k < c.length by omega) hs
      have he := eat_all hok h0
      have hb := erk_bound hok h0 (i := c.length) (by rw [cnext_len]; exact Nat.le_refl _)
      rw [cnext_len, hrk] at he
      rw [hrk] at hb
      have hn : ((erk c c.length + 1 : Nat) : Int) < ((bin n.toNat c.length : Nat) : Int) := by omega
      unfold catL catE
      rw [Int.toNat_natCast, Int.toNat_natCast, if_pos ⟨h0, h60, by omega, by omega, hn⟩, if_pos ⟨h0, h60, by omega, by omega⟩, if_pos hn, he]
    · rw [if_neg hr]
      refine ih (k + 1) (by omega) fun j hj => ?_
      by_cases e : j = k
      · subst e; exact hr
      · exact hs j (by omega)
end Go.Proofs.Ytmcbkjepjijfjaa
