/- Rounds of orders: how many, how often, odd or even: plain. No condition. -/
import Derived.Test.YtkffakekakhgdaaCycM
namespace Go.Proofs.Ytkffakekakhgdaa
set_option linter.unusedVariables false

/-- The order without its last number. -/
def rmv (q : Nat → Nat) (n : Nat) : Nat → Nat := fun i => if q i = n then q n else q i
theorem rmv_top {q : Nat → Nat} {n i : Nat} (h : q i = n) : rmv q n i = q n := if_pos h
theorem rmv_old {q : Nat → Nat} {n i : Nat} (h : q i ≠ n) : rmv q n i = q i := if_neg h
theorem rmv_perm {q : Nat → Nat} {n : Nat} (h : PermF q (n + 1)) : PermF (rmv q n) n where
  lt := fun k hk => by
    by_cases e : q k = n
    · rw [rmv_top e]
      have h1 := h.lt n (by omega)
      have h2 : q n ≠ n := fun e2 => by
        have := h.inj n k (by omega) (by omega) (by omega)
        omega
      omega
    · rw [rmv_old e]
      have := h.lt k (by omega)
      omega
  inj := fun i k hi hk e => by
    by_cases e1 : q i = n <;> by_cases e2 : q k = n
    · exact h.inj i k (by omega) (by omega) (by omega)
    · rw [rmv_top e1, rmv_old e2] at e
      have := h.inj n k (by omega) (by omega) e
      omega
    · rw [rmv_old e1, rmv_top e2] at e
      have := h.inj i n (by omega) (by omega) e
      omega
    · rw [rmv_old e1, rmv_old e2] at e
      exact h.inj i k (by omega) (by omega) e
theorem Rel.step (q : Nat → Nat) (k : Nat) : Rel q k (q k) := ⟨1, rfl⟩
theorem rel_of_rmv {q : Nat → Nat} {n k y : Nat} : Rel (rmv q n) k y → Rel q k y := by
  rintro ⟨j, rfl⟩
  induction j with
  | zero => exact Rel.refl _ _
  | succ j ih =>
    rw [it_succ]
    refine ih.trans ?_
    generalize it (rmv q n) j k = z
    by_cases e : q z = n
    · rw [rmv_top e]
      have h1 := Rel.step q z
      rw [e] at h1
      exact h1.trans (Rel.step q n)
    · rw [rmv_old e]; exact Rel.step q z
theorem it_head (q : Nat → Nat) (j x : Nat) : it q (j + 1) x = it q j (q x) := it_add q 1 x j
theorem rmv_of_rel {q : Nat → Nat} {n y : Nat} (h : PermF q (n + 1)) (hy : y < n) : ∀ j k, k < n → it q j k = y → Rel (rmv q n) k y := by
  intro j
  induction j using Nat.strongRecOn with
  | _ j ih =>
    intro k hk e
    match j, ih, e with
    | 0, _, e => rw [it_zero] at e; rw [e]; exact Rel.refl _ _
    | j + 1, ih, e =>
      rw [it_head] at e
      have hr := (rmv_perm h).lt k hk
      by_cases e1 : q k = n
      · match j, ih, e with
        | 0, _, e => rw [it_zero] at e; omega
        | j + 1, ih, e =>
          rw [it_head, e1] at e
          have h1 := Rel.step (rmv q n) k
          rw [rmv_top e1] at h1 hr
          exact h1.trans (ih j (by omega) (q n) hr e)
      · have h1 := Rel.step (rmv q n) k
        rw [rmv_old e1] at h1 hr
        exact h1.trans (ih j (by omega) (q k) hr e)
theorem hadB_rmv {q : Nat → Nat} {n k x : Nat} (h : PermF q (n + 1)) (hk : k ≤ n) (hx : x < n) : hadB q (n + 1) k x = hadB (rmv q n) n k x := by
  refine bool_iff ?_
  rw [hadB_iff h (by omega), hadB_iff (rmv_perm h) hk]
  constructor
  · rintro ⟨i, hi, j, hj⟩; exact ⟨i, hi, rmv_of_rel h hx j i (by omega) hj⟩
  · rintro ⟨i, hi, hr⟩; exact ⟨i, hi, rel_of_rmv hr⟩
theorem ofs_rmv {q : Nat → Nat} {n : Nat} (h : PermF q (n + 1)) : (ofs q (n + 1) n).length = (ofs (rmv q n) n n).length := by
  unfold ofs
  rw [List.length_map, List.length_map]
  congr 1
  refine List.filter_congr fun x hx => ?_
  have hx := List.mem_range.1 hx
  rw [hadB_rmv h (by omega) hx]
theorem it_fix {q : Nat → Nat} {n : Nat} (h : q n = n) : ∀ j, it q j n = n
  | 0 => rfl
  | j + 1 => by rw [it_succ, it_fix h j, h]
theorem had_last {q : Nat → Nat} {n : Nat} (h : PermF q (n + 1)) : hadB q (n + 1) n n = !decide (q n = n) := by
  refine bool_iff ?_
  rw [hadB_iff h (by omega)]
  constructor
  · rintro ⟨i, hi, hr⟩
    have hs := hr.symm h (by omega)
    simp
    intro e
    obtain ⟨j, hj⟩ := hs
    rw [it_fix e] at hj
    omega
  · intro hne
    simp at hne
    have := h.lt n (by omega)
    exact ⟨q n, by omega, (Rel.step q n).symm h (by omega)⟩
/-- How many of the first so many go to a greater one than t. -/
def gts (q : Nat → Nat) (t : Nat) : Nat → Nat
  | 0 => 0
  | m + 1 => gts q t m + if t < q m then 1 else 0
/-- How many pairs stand the wrong way round. -/
def invs (q : Nat → Nat) : Nat → Nat
  | 0 => 0
  | x + 1 => invs q x + gts q (q x) x
theorem gts_congr {q r : Nat → Nat} (t : Nat) : ∀ m, (∀ i, i < m → q i = r i) → gts q t m = gts r t m
  | 0, _ => rfl
  | m + 1, h => by rw [gts, gts, gts_congr t m fun i hi => h i (by omega), h m (by omega)]
theorem invs_congr {q r : Nat → Nat} : ∀ m, (∀ i, i < m → q i = r i) → invs q m = invs r m
  | 0, _ => rfl
  | m + 1, h => by rw [invs, invs, invs_congr m fun i hi => h i (by omega), h m (by omega), gts_congr _ m fun i hi => h i (by omega)]
theorem gts_none {q : Nat → Nat} (t : Nat) : ∀ m, (∀ i, i < m → q i ≤ t) → gts q t m = 0
  | 0, _ => rfl
  | m + 1, h => by
    have := h m (by omega)
    rw [gts, gts_none t m fun i hi => h i (by omega), if_neg (by omega)]
theorem gts_le (q : Nat → Nat) (t : Nat) : ∀ m, gts q t m ≤ m
  | 0 => Nat.le_refl _
  | m + 1 => by
    have := gts_le q t m
    rw [gts]; split <;> omega
theorem invs_le (q : Nat → Nat) (n : Nat) : ∀ m, m ≤ n → invs q m ≤ n * m
  | 0, _ => Nat.zero_le _
  | m + 1, h => by
    have h1 := invs_le q n m (by omega)
    have h2 := gts_le q (q m) m
    rw [invs, Nat.mul_succ]; omega
theorem gts_behind {q r : Nat → Nat} {n a b t : Nat} (hb : q b = n) (ra : r b = a) (hne : ∀ i, i < n → i ≠ b → r i = q i) (ht : t < n) : ∀ m, b < m → m ≤ n → gts q t m + (if t < a then 1 else 0) = gts r t m + 1 := by
  intro m
  induction m with
  | zero => intro h; omega
  | succ m ih =>
    intro h1 h2
    rw [gts, gts]
    by_cases e : m = b
    · subst e
      rw [gts_congr t m fun i hi => (hne i (by omega) (by omega)).symm, hb, ra, if_pos ht]
      split <;> omega
    · have := ih (by omega) (by omega)
      rw [hne m (by omega) e]
      omega
theorem invs_behind {q r : Nat → Nat} {n a b : Nat} (h : PermF q (n + 1)) (hb : q b = n) (ha : q n = a) (han : a < n) (hbn : b < n) (ra : r b = a) (hne : ∀ i, i < n → i ≠ b → r i = q i) :
    ∀ m, b < m → m ≤ n → invs q m + 2 * gts q a b + 1 = invs r m + gts q a m := by
  intro m
  induction m with
  | zero => intro h; omega
  | succ m ih =>
    intro h1 h2
    rw [invs, invs]
    have e2 : gts q a (m + 1) = gts q a m + if a < q m then 1 else 0 := rfl
    by_cases e : m = b
    · subst e
      rw [e2, invs_congr (q := r) (r := q) m fun i hi => hne i (by omega) (by omega), gts_congr (q := r) (r := q) (r m) m fun i hi => hne i (by omega) (by omega), ra, hb, if_pos han,
        gts_none (q := q) n m fun i hi => by have := h.lt i (by omega); omega]
      omega
    · have h3 := ih (by omega) (by omega)
      have hq : q m < n := by
        have := h.lt m (by omega)
        have h4 : q m ≠ n := fun e4 => e (h.inj m b (by omega) (by omega) (by omega))
        omega
      have h5 := gts_behind (t := q m) hb ra hne hq m (by omega) (by omega)
      have h6 : q m ≠ a := fun e6 => by
        have := h.inj m n (by omega) (by omega) (by omega)
        omega
      rw [e2, hne m (by omega) e]
      by_cases h7 : a < q m
      · rw [if_pos h7]
        rw [if_neg (by omega)] at h5
        omega
      · rw [if_neg h7]
        rw [if_pos (by omega)] at h5
        omega
/-- ODD OR EVEN: by pairs the wrong way round, and by rounds. -/
theorem sign_is : ∀ (n : Nat) (q : Nat → Nat), PermF q n → (n - (ofs q n n).length) % 2 = invs q n % 2
  | 0, _, _ => rfl
  | n + 1, q, h => by
    have ih := sign_is n (rmv q n) (rmv_perm h)
    have hl := ofs_rmv h
    have hle := ofs_len (rmv q n) n n
    have hd := had_last h
    by_cases e : q n = n
    · rw [ofs_new (by rw [hd]; simp [e]), List.length_append, hl]
      have hz : ∀ i, i < n → q i < n := fun i hi => by
        have h1 := h.lt i (by omega)
        have h2 : q i ≠ n := fun e2 => by
          have := h.inj i n (by omega) (by omega) (by omega)
          omega
        omega
      have e2 : invs q (n + 1) = invs (rmv q n) n := by
        rw [invs, gts_none _ n fun i hi => by have := hz i hi; omega, Nat.add_zero]
        exact invs_congr n fun i hi => (rmv_old (by have := hz i hi; omega)).symm
      rw [e2, ← ih]
      congr 1
      show n + 1 - ((ofs (rmv q n) n n).length + 1) = _
      omega
    · rw [ofs_old (by rw [hd]; simp [e]), hl]
      have han : q n < n := by have := h.lt n (by omega); omega
      obtain ⟨b, hb, hbn⟩ : ∃ b, q b = n ∧ b < n := by
        obtain ⟨h1, _, h3, _⟩ := per_is h (show n < n + 1 by omega)
        refine ⟨it q (per q (n + 1) n - 1) n, ?_, ?_⟩
        · have h6 := it_succ q (per q (n + 1) n - 1) n
          rw [Nat.sub_add_cancel h1, h3] at h6
          exact h6.symm
        · have h4 := it_lt h (show n < n + 1 by omega) (per q (n + 1) n - 1)
          have h5 : it q (per q (n + 1) n - 1) n ≠ n := fun e5 => by
            rw [show per q (n + 1) n = (per q (n + 1) n - 1) + 1 by omega, it_succ, e5] at h3
            exact e h3
          omega
      have h1 := invs_behind h hb rfl han hbn (rmv_top hb) (fun i hi hib => rmv_old fun e5 => hib (h.inj i b (by omega) (by omega) (by omega))) n hbn (Nat.le_refl _)
      rw [invs]
      omega

/-- How many times till all is back. -/
def lcms (l : List (List Nat)) : Nat := l.foldl (fun a r => Nat.lcm a r.length) 1
theorem lcms_snoc (l : List (List Nat)) (r : List Nat) : lcms (l ++ [r]) = Nat.lcm (lcms l) r.length := by unfold lcms; rw [List.foldl_append]; rfl
theorem foldl_lcm (m : Nat) : ∀ (l : List (List Nat)) (a : Nat), l.foldl (fun a r => Nat.lcm a r.length) a ∣ m ↔ a ∣ m ∧ ∀ r ∈ l, r.length ∣ m
  | [], a => by simp
  | r :: l, a => by
    rw [List.foldl_cons, foldl_lcm m l]
    constructor
    · rintro ⟨h1, h2⟩
      refine ⟨Nat.dvd_trans (Nat.dvd_lcm_left _ _) h1, fun x hx => ?_⟩
      rcases List.mem_cons.1 hx with rfl | hx
      · exact Nat.dvd_trans (Nat.dvd_lcm_right _ _) h1
      · exact h2 x hx
    · rintro ⟨h1, h2⟩
      exact ⟨Nat.lcm_dvd h1 (h2 r (by simp)), fun x hx => h2 x (by simp [hx])⟩
theorem lcms_dvd (m : Nat) (l : List (List Nat)) : lcms l ∣ m ↔ ∀ r ∈ l, r.length ∣ m := by
  unfold lcms
  rw [foldl_lcm]
  simp
theorem small_dvd0 : ∀ j, j < 21 → (232792560 % j = 0 ∨ j = 0) := by decide
theorem small_dvd (j : Nat) (h1 : 1 ≤ j) (h2 : j ≤ 20) : j ∣ 232792560 := by
  rcases small_dvd0 j (by omega) with h | h
  · exact Nat.dvd_of_mod_eq_zero h
  · omega
theorem lcms_bd {l : List (List Nat)} (h : ∀ r ∈ l, 1 ≤ r.length ∧ r.length ≤ 20) : 1 ≤ lcms l ∧ lcms l ≤ 232792560 := by
  have hd := (lcms_dvd 232792560 l).2 fun r hr => small_dvd _ (h r hr).1 (h r hr).2
  exact ⟨Nat.pos_of_dvd_of_pos hd (by decide), Nat.le_of_dvd (by decide) hd⟩
/-- Each is in a round that begins. -/
theorem head_ex {q : Nat → Nat} {n : Nat} (h : PermF q n) : ∀ x, x < n → ∃ i, i ≤ x ∧ Rel q i x ∧ hadB q n i i = false := by
  intro x
  induction x using Nat.strongRecOn with
  | _ x ih =>
    intro hx
    cases e : hadB q n x x with
    | false => exact ⟨x, Nat.le_refl _, Rel.refl _ _, e⟩
    | true =>
      obtain ⟨i, hi, hr⟩ := (hadB_iff h (by omega)).1 e
      obtain ⟨i2, h1, h2, h3⟩ := ih i hi (by omega)
      exact ⟨i2, by omega, h2.trans hr, h3⟩
theorem cyc_in_ofs {q : Nat → Nat} {n i : Nat} (hi : i < n) (h : hadB q n i i = false) : cyc q n i ∈ ofs q n n := by
  unfold ofs
  exact List.mem_map.2 ⟨i, List.mem_filter.2 ⟨List.mem_range.2 hi, by simp [h]⟩, rfl⟩
theorem ofs_bd {q : Nat → Nat} {n k : Nat} (h : PermF q n) (hn : n ≤ 20) (hk : k ≤ n) : ∀ r ∈ ofs q n k, 1 ≤ r.length ∧ r.length ≤ 20 := by
  intro r hr
  obtain ⟨i, hi, rfl, _⟩ := mem_ofs hr
  have := per_is h (show i < n by omega)
  rw [cyc_len]
  omega
theorem times_is {q : Nat → Nat} {n : Nat} (h : PermF q n) (m : Nat) : (∀ x, x < n → it q m x = x) ↔ lcms (ofs q n n) ∣ m := by
  rw [lcms_dvd]
  constructor
  · intro h1 r hr
    obtain ⟨i, hi, rfl, _⟩ := mem_ofs hr
    rw [cyc_len]
    exact (it_back h hi m).1 (h1 i hi)
  · intro h1 x hx
    obtain ⟨i, hi, hr, hh⟩ := head_ex h x hx
    rw [it_back h hx, rel_per h (by omega) hr, ← cyc_len]
    exact h1 _ (cyc_in_ofs (by omega) hh)
end Go.Proofs.Ytkffakekakhgdaa
