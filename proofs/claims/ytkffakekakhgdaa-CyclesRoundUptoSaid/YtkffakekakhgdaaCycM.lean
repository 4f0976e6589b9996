/- Rounds of orders: plain. No condition. -/
import Derived.Test.YtkffakekakhgdaaPerM
namespace Go.Proofs.Ytkffakekakhgdaa
set_option linter.unusedVariables false

/-- An order of the first so many, as a function. -/
structure PermF (q : Nat → Nat) (n : Nat) : Prop where
  lt : ∀ k, k < n → q k < n
  inj : ∀ i k, i < n → k < n → q i = q k → i = k
/-- So often done. -/
def it (q : Nat → Nat) : Nat → Nat → Nat
  | 0, x => x
  | j + 1, x => q (it q j x)
theorem it_zero (q : Nat → Nat) (x : Nat) : it q 0 x = x := rfl
theorem it_succ (q : Nat → Nat) (j x : Nat) : it q (j + 1) x = q (it q j x) := rfl
theorem it_add (q : Nat → Nat) (a x : Nat) : ∀ b, it q (b + a) x = it q b (it q a x)
  | 0 => by rw [Nat.zero_add]; rfl
  | b + 1 => by rw [show b + 1 + a = (b + a) + 1 by omega, it_succ, it_add q a x b]; rfl
theorem it_lt {q : Nat → Nat} {n x : Nat} (h : PermF q n) (hx : x < n) : ∀ j, it q j x < n
  | 0 => hx
  | j + 1 => h.lt _ (it_lt h hx j)
theorem it_inj {q : Nat → Nat} {n x y : Nat} (h : PermF q n) (hx : x < n) (hy : y < n) : ∀ j, it q j x = it q j y → x = y
  | 0, e => e
  | j + 1, e => it_inj h hx hy j (h.inj _ _ (it_lt h hx j) (it_lt h hy j) e)
/-- So many places at the most hold so many numbers. -/
theorem nodup_len {l : List Nat} {n : Nat} (hn : l.Nodup) (h : ∀ x ∈ l, x < n) : l.length ≤ n := by
  have h1 : (l.map fun (x : Nat) => (x : Int)).Nodup := by
    rw [List.nodup_iff_pairwise_ne] at hn ⊢
    exact List.pairwise_map.2 (hn.imp fun {a b} hab e => hab (by omega))
  have h2 := sumc_all (p := l.map fun (x : Nat) => (x : Int)) (n := n) fun x hx => by
    obtain ⟨y, hy, rfl⟩ := List.mem_map.1 hx
    have := h y hy
    omega
  have h3 := (ones_sumc (p := l.map fun (x : Nat) => (x : Int)) (fun x => List.nodup_iff_count.1 h1 x) n).1
  rw [h2, List.length_map] at h3
  exact h3
theorem back_ex {q : Nat → Nat} {n k : Nat} (h : PermF q n) (hk : k < n) : ∃ m, 1 ≤ m ∧ m ≤ n ∧ it q m k = k := by
  refine Classical.byContradiction fun hno => ?_
  have hne : ∀ i j, i < j → j ≤ n → it q i k ≠ it q j k := by
    intro i j hij hj e
    rw [show j = i + (j - i) by omega, it_add] at e
    exact hno ⟨j - i, by omega, by omega, (it_inj h hk (it_lt h hk _) i e).symm⟩
  have h1 : ((List.range (n + 1)).map fun j => it q j k).Nodup := by
    rw [List.nodup_iff_pairwise_ne]
    refine List.pairwise_map.2 ?_
    refine (List.pairwise_lt_range (n := n + 1)).imp_of_mem ?_
    intro a b ha hb hab
    exact hne a b hab (by simp at hb; omega)
  have h2 := nodup_len (n := n) h1 fun x hx => by
    obtain ⟨y, _, rfl⟩ := List.mem_map.1 hx
    exact it_lt h hk _
  simp at h2
  omega
/-- The first one from a place on. -/
def fst' (P : Nat → Bool) : Nat → Nat → Nat
  | 0, s => s
  | f + 1, s => if P s then s else fst' P f (s + 1)
theorem fst'_is (P : Nat → Bool) : ∀ f s, (∃ m, s ≤ m ∧ m < s + f ∧ P m = true) → s ≤ fst' P f s ∧ fst' P f s < s + f ∧ P (fst' P f s) = true ∧ ∀ j, s ≤ j → j < fst' P f s → P j = false
  | 0, s, ⟨m, h1, h2, _⟩ => by omega
  | f + 1, s, ⟨m, h1, h2, h3⟩ => by
    unfold fst'
    by_cases e : P s = true
    · rw [if_pos e]
      exact ⟨Nat.le_refl _, by omega, e, fun j ha hb => by omega⟩
    · rw [if_neg e]
      have hms : m ≠ s := fun he => e (he ▸ h3)
      obtain ⟨a, b, c, d⟩ := fst'_is P f (s + 1) ⟨m, by omega, by omega, h3⟩
      refine ⟨by omega, by omega, c, fun j ha hb => ?_⟩
      by_cases ej : j = s
      · subst ej; simpa using e
      · exact d j (by omega) hb
/-- How long a round is. -/
def per (q : Nat → Nat) (n k : Nat) : Nat := fst' (fun j => it q j k == k) n 1
theorem per_is {q : Nat → Nat} {n k : Nat} (h : PermF q n) (hk : k < n) : 1 ≤ per q n k ∧ per q n k ≤ n ∧ it q (per q n k) k = k ∧ ∀ j, 1 ≤ j → j < per q n k → it q j k ≠ k := by
  obtain ⟨m, h1, h2, h3⟩ := back_ex h hk
  obtain ⟨a, b, c, d⟩ := fst'_is (fun j => it q j k == k) n 1 ⟨m, h1, by omega, by simpa using h3⟩
  refine ⟨a, by unfold per; omega, eq_of_beq (show (it q (per q n k) k == k) = true from c), fun j h1 h2 => ?_⟩
  have := d j h1 h2
  simpa using this
theorem it_mul {q : Nat → Nat} {m k : Nat} (h : it q m k = k) : ∀ c, it q (c * m) k = k
  | 0 => by rw [Nat.zero_mul]; rfl
  | c + 1 => by rw [Nat.succ_mul, it_add, h, it_mul h c]
theorem it_mod {q : Nat → Nat} {m k : Nat} (h : it q m k = k) (j : Nat) : it q j k = it q (j % m) k := by
  have e : j % m + j / m * m = j := by rw [Nat.mul_comm]; exact Nat.mod_add_div j m
  conv => lhs; rw [← e]
  rw [it_add, it_mul h]
theorem it_back {q : Nat → Nat} {n k : Nat} (h : PermF q n) (hk : k < n) (j : Nat) : it q j k = k ↔ per q n k ∣ j := by
  obtain ⟨h1, h2, h3, h4⟩ := per_is h hk
  constructor
  · intro e
    rw [it_mod h3] at e
    refine Nat.dvd_of_mod_eq_zero ?_
    have := Nat.mod_lt j (show per q n k > 0 by omega)
    refine Classical.byContradiction fun hne => ?_
    exact h4 _ (by omega) this e
  · rintro ⟨c, rfl⟩
    rw [Nat.mul_comm]
    exact it_mul h3 c
theorem it_ne {q : Nat → Nat} {n k : Nat} (h : PermF q n) (hk : k < n) {i j : Nat} (hij : i < j) (hj : j < per q n k) : it q i k ≠ it q j k := by
  intro e
  rw [show j = i + (j - i) by omega, it_add] at e
  have := it_inj h hk (it_lt h hk _) i e
  exact (per_is h hk).2.2.2 (j - i) (by omega) (by omega) this.symm
/-- The round from a number on. -/
def cyc (q : Nat → Nat) (n k : Nat) : List Nat := (List.range (per q n k)).map fun j => it q j k
theorem cyc_len (q : Nat → Nat) (n k : Nat) : (cyc q n k).length = per q n k := by simp [cyc]
theorem cyc_get {q : Nat → Nat} {n k j : Nat} (h : j < (cyc q n k).length) : (cyc q n k)[j] = it q j k := by simp [cyc]
theorem cyc_nodup {q : Nat → Nat} {n k : Nat} (h : PermF q n) (hk : k < n) : (cyc q n k).Nodup := by
  rw [List.nodup_iff_pairwise_ne]
  refine List.pairwise_map.2 ((List.pairwise_lt_range (n := per q n k)).imp_of_mem ?_)
  intro a b ha hb hab
  exact it_ne h hk hab (by simpa using hb)
/-- One comes behind the other. -/
def Rel (q : Nat → Nat) (k x : Nat) : Prop := ∃ j, it q j k = x
theorem Rel.refl (q : Nat → Nat) (k : Nat) : Rel q k k := ⟨0, rfl⟩
theorem Rel.trans {q : Nat → Nat} {a b c : Nat} : Rel q a b → Rel q b c → Rel q a c := by
  rintro ⟨i, rfl⟩ ⟨j, rfl⟩
  exact ⟨j + i, it_add q i a j⟩
theorem Rel.symm {q : Nat → Nat} {n a b : Nat} (h : PermF q n) (ha : a < n) : Rel q a b → Rel q b a := by
  rintro ⟨i, rfl⟩
  obtain ⟨h1, _, h3, _⟩ := per_is h ha
  refine ⟨i * per q n a - i, ?_⟩
  have hle : i ≤ i * per q n a := Nat.le_mul_of_pos_right i (by omega)
  rw [← it_add, Nat.sub_add_cancel hle, it_mul h3]
theorem Rel.lt {q : Nat → Nat} {n a b : Nat} (h : PermF q n) (ha : a < n) : Rel q a b → b < n := by
  rintro ⟨i, rfl⟩
  exact it_lt h ha i
theorem mem_cyc {q : Nat → Nat} {n k x : Nat} (h : PermF q n) (hk : k < n) : x ∈ cyc q n k ↔ Rel q k x := by
  obtain ⟨h1, _, h3, _⟩ := per_is h hk
  unfold cyc
  rw [List.mem_map]
  constructor
  · rintro ⟨j, _, rfl⟩; exact ⟨j, rfl⟩
  · rintro ⟨j, rfl⟩
    exact ⟨j % per q n k, by simp; exact Nat.mod_lt _ (by omega), (it_mod h3 j).symm⟩
theorem rel_per {q : Nat → Nat} {n k x : Nat} (h : PermF q n) (hk : k < n) (hr : Rel q k x) : per q n x = per q n k := by
  have hx := hr.lt h hk
  have key : ∀ a b, a < n → b < n → Rel q a b → per q n b ∣ per q n a := by
    rintro a b ha hb ⟨i, rfl⟩
    rw [← it_back h hb, ← it_add, Nat.add_comm, it_add, (per_is h ha).2.2.1]
  exact Nat.dvd_antisymm (key k x hk hx hr) (key x k hx hk (hr.symm h hk))
/-- A round, from another one of its numbers on. -/
theorem cyc_turn {q : Nat → Nat} {n k i : Nat} (h : PermF q n) (hk : k < n) (hi : i < per q n k) : (cyc q n k).drop i ++ (cyc q n k).take i = cyc q n (it q i k) := by
  have hp := rel_per h hk ⟨i, rfl⟩
  have h3 := (per_is h hk).2.2.1
  refine List.ext_getElem ?_ fun j h1 h2 => ?_
  · rw [List.length_append, List.length_drop, List.length_take, cyc_len, cyc_len, hp]; omega
  · rw [cyc_get, ← it_add, List.getElem_append]
    rw [cyc_len, hp] at h2
    split
    · next hlt => rw [List.getElem_drop, cyc_get, Nat.add_comm]
    · next hlt =>
      rw [List.length_drop, cyc_len] at hlt
      rw [List.getElem_take, cyc_get]
      simp only [List.length_drop, cyc_len]
      conv => rhs; rw [it_mod h3, show j + i = (j - (per q n k - i)) + per q n k by omega, Nat.add_mod_right, Nat.mod_eq_of_lt (by omega)]

/-- In the round of one of the first so many. -/
def hadB (q : Nat → Nat) (n k x : Nat) : Bool := (List.range k).any fun i => (cyc q n i).contains x
theorem hadB_iff {q : Nat → Nat} {n k x : Nat} (h : PermF q n) (hk : k ≤ n) : hadB q n k x = true ↔ ∃ i, i < k ∧ Rel q i x := by
  unfold hadB
  rw [List.any_eq_true]
  constructor
  · rintro ⟨i, hi, hc⟩
    have hi := List.mem_range.1 hi
    exact ⟨i, hi, (mem_cyc h (by omega)).1 (List.contains_iff_mem.1 hc)⟩
  · rintro ⟨i, hi, hr⟩
    exact ⟨i, List.mem_range.2 hi, List.contains_iff_mem.2 ((mem_cyc h (by omega)).2 hr)⟩
theorem hadB_zero (q : Nat → Nat) (n x : Nat) : hadB q n 0 x = false := rfl
theorem hadB_succ (q : Nat → Nat) (n k x : Nat) : hadB q n (k + 1) x = (hadB q n k x || (cyc q n k).contains x) := by
  unfold hadB
  rw [List.range_succ, List.any_append]
  simp
theorem bool_iff {a b : Bool} (h : a = true ↔ b = true) : a = b := by
  cases a <;> cases b <;> simp at h <;> rfl
/-- Where one was had, its round was. -/
theorem hadB_rel {q : Nat → Nat} {n k x y : Nat} (h : PermF q n) (hk : k ≤ n) (hx : x < n) (hr : Rel q x y) : hadB q n k y = hadB q n k x := by
  refine bool_iff ?_
  rw [hadB_iff h hk, hadB_iff h hk]
  constructor
  · rintro ⟨i, hi, h1⟩; exact ⟨i, hi, h1.trans (hr.symm h hx)⟩
  · rintro ⟨i, hi, h1⟩; exact ⟨i, hi, h1.trans hr⟩
theorem hadB_skip {q : Nat → Nat} {n k : Nat} (h : PermF q n) (hk : k < n) (hh : hadB q n k k = true) (x : Nat) : hadB q n (k + 1) x = hadB q n k x := by
  refine bool_iff ?_
  rw [hadB_iff h (by omega), hadB_iff h (by omega)]
  constructor
  · rintro ⟨i, hi, h1⟩
    by_cases e : i = k
    · subst e
      obtain ⟨i', hi', h2⟩ := (hadB_iff h (by omega)).1 hh
      exact ⟨i', hi', h2.trans h1⟩
    · exact ⟨i, by omega, h1⟩
  · rintro ⟨i, hi, h1⟩; exact ⟨i, by omega, h1⟩
/-- What was had in the midst of a round. -/
def midB (q : Nat → Nat) (n k j x : Nat) : Bool := hadB q n k x || ((List.range j).map fun i => it q i k).contains x
theorem midB_zero (q : Nat → Nat) (n k x : Nat) : midB q n k 0 x = hadB q n k x := by simp [midB]
theorem midB_succ (q : Nat → Nat) (n k j x : Nat) : midB q n k (j + 1) x = (midB q n k j x || x == it q j k) := by
  unfold midB
  rw [List.range_succ, List.map_append, Bool.or_assoc]
  congr 1
  refine bool_iff ?_
  rw [List.contains_iff_mem, List.mem_append, Bool.or_eq_true, List.contains_iff_mem]
  simp
theorem midB_end (q : Nat → Nat) (n k x : Nat) : midB q n k (per q n k) x = hadB q n (k + 1) x := by rw [hadB_succ]; rfl
theorem midB_go {q : Nat → Nat} {n k j : Nat} (h : PermF q n) (hk : k < n) (hh : hadB q n k k = false) (hj : j < per q n k) : midB q n k j (it q j k) = false := by
  unfold midB
  rw [hadB_rel h (by omega) hk ⟨j, rfl⟩, hh, Bool.false_or, Bool.eq_false_iff]
  intro hc
  obtain ⟨i, hi, e⟩ := List.mem_map.1 (List.contains_iff_mem.1 hc)
  exact it_ne h hk (List.mem_range.1 hi) hj e
theorem midB_stop {q : Nat → Nat} {n k : Nat} (h : PermF q n) (hk : k < n) : midB q n k (per q n k) (it q (per q n k) k) = true := by
  rw [midB_end, (per_is h hk).2.2.1, hadB_succ, Bool.or_eq_true]
  exact Or.inr (List.contains_iff_mem.2 ((mem_cyc h hk).2 (Rel.refl _ _)))
/-- The rounds that begin at one of the first so many. -/
def ofs (q : Nat → Nat) (n k : Nat) : List (List Nat) := ((List.range k).filter fun i => !hadB q n i i).map (cyc q n)
theorem ofs_zero (q : Nat → Nat) (n : Nat) : ofs q n 0 = [] := rfl
theorem ofs_new {q : Nat → Nat} {n k : Nat} (h : hadB q n k k = false) : ofs q n (k + 1) = ofs q n k ++ [cyc q n k] := by
  unfold ofs; rw [List.range_succ, List.filter_append, List.map_append]; simp [h]
theorem ofs_old {q : Nat → Nat} {n k : Nat} (h : hadB q n k k = true) : ofs q n (k + 1) = ofs q n k := by
  unfold ofs; rw [List.range_succ, List.filter_append, List.map_append]; simp [h]
theorem ofs_len (q : Nat → Nat) (n k : Nat) : (ofs q n k).length ≤ k := by
  unfold ofs
  rw [List.length_map]
  exact Nat.le_trans (List.length_filter_le _ _) (by simp)
theorem mem_ofs {q : Nat → Nat} {n k : Nat} {r : List Nat} (h : r ∈ ofs q n k) : ∃ i, i < k ∧ r = cyc q n i ∧ hadB q n i i = false := by
  unfold ofs at h
  obtain ⟨i, hi, rfl⟩ := List.mem_map.1 h
  obtain ⟨h1, h2⟩ := List.mem_filter.1 hi
  exact ⟨i, List.mem_range.1 h1, rfl, by simpa using h2⟩
end Go.Proofs.Ytkffakekakhgdaa
