/- Rounds of orders, each from its greatest one on: plain. No condition. -/
import Derived.Test.YtkffakekakhgdaaCycN
namespace Go.Proofs.Ytkffakekakhgdaa
set_option linter.unusedVariables false

/-- The first number of a list. -/
def hd (r : List Nat) : Nat := r.headD 0
/-- Each begins higher than those ahead. -/
def Rise (l : List (List Nat)) : Prop := l.Pairwise fun a b => hd a < hd b
theorem rise_eq {l m : List (List Nat)} (hl : Rise l) (hm : Rise m) (h : ∀ r, r ∈ l ↔ r ∈ m) : l = m := by
  have n1 : l.Nodup := List.nodup_iff_pairwise_ne.2 (hl.imp fun {a b} hab e => by subst e; omega)
  have n2 : m.Nodup := List.nodup_iff_pairwise_ne.2 (hm.imp fun {a b} hab e => by subst e; omega)
  have hp := (List.perm_ext_iff_of_nodup n1 n2).2 h
  exact hp.eq_of_pairwise (le := fun a b => hd a < hd b) (fun a b ha hb h1 h2 => by omega) hl hm
/-- In the round of one of the last so many. -/
def inU (q : Nat → Nat) (n d x : Nat) : Bool := (List.range d).any fun e => (cyc q n (n - 1 - e)).contains x
theorem inU_iff {q : Nat → Nat} {n d x : Nat} (h : PermF q n) (hd : d ≤ n) : inU q n d x = true ↔ ∃ i, n - d ≤ i ∧ i < n ∧ Rel q i x := by
  unfold inU
  rw [List.any_eq_true]
  constructor
  · rintro ⟨i, hi, hc⟩
    have hi := List.mem_range.1 hi
    exact ⟨n - 1 - i, by omega, by omega, (mem_cyc h (by omega)).1 (List.contains_iff_mem.1 hc)⟩
  · rintro ⟨i, h1, h2, hr⟩
    refine ⟨n - 1 - i, List.mem_range.2 (by omega), List.contains_iff_mem.2 ?_⟩
    rw [show n - 1 - (n - 1 - i) = i by omega]
    exact (mem_cyc h h2).2 hr
theorem inU_zero (q : Nat → Nat) (n x : Nat) : inU q n 0 x = false := rfl
theorem inU_succ (q : Nat → Nat) (n d x : Nat) : inU q n (d + 1) x = (inU q n d x || (cyc q n (n - 1 - d)).contains x) := by
  unfold inU
  rw [List.range_succ, List.any_append]
  simp
theorem inU_skip {q : Nat → Nat} {n d : Nat} (h : PermF q n) (hd : d < n) (hh : inU q n d (n - 1 - d) = true) (x : Nat) : inU q n (d + 1) x = inU q n d x := by
  refine bool_iff ?_
  rw [inU_iff h (by omega), inU_iff h (by omega)]
  constructor
  · rintro ⟨i, h1, h2, hr⟩
    by_cases e : i = n - 1 - d
    · subst e
      obtain ⟨i', h3, h4, h5⟩ := (inU_iff h (by omega)).1 hh
      exact ⟨i', h3, h4, h5.trans hr⟩
    · exact ⟨i, by omega, h2, hr⟩
  · rintro ⟨i, h1, h2, hr⟩; exact ⟨i, by omega, h2, hr⟩
/-- The rounds of the last so many, each from its greatest one on. -/
def tops (q : Nat → Nat) (n : Nat) : Nat → List (List Nat)
  | 0 => []
  | d + 1 => if inU q n d (n - 1 - d) then tops q n d else cyc q n (n - 1 - d) :: tops q n d
theorem cyc_hd {q : Nat → Nat} {n k : Nat} (h : PermF q n) (hk : k < n) : hd (cyc q n k) = k := by
  obtain ⟨h1, _⟩ := per_is h hk
  obtain ⟨m, hm⟩ : ∃ m, per q n k = m + 1 := ⟨per q n k - 1, by omega⟩
  unfold hd cyc
  rw [hm, List.range_succ_eq_map]
  rfl
/-- No greater one is in its round. -/
def Top (q : Nat → Nat) (m : Nat) : Prop := ∀ x, Rel q m x → x ≤ m
theorem top_iff {q : Nat → Nat} {n d : Nat} (h : PermF q n) (hd : d < n) : inU q n d (n - 1 - d) = false ↔ Top q (n - 1 - d) := by
  rw [Bool.eq_false_iff, Ne, inU_iff h (by omega)]
  constructor
  · intro hno x hr
    refine Classical.byContradiction fun hx => hno ⟨x, by omega, hr.lt h (by omega), hr.symm h (by omega)⟩
  · rintro ht ⟨i, h1, h2, hr⟩
    have := ht i (hr.symm h h2)
    omega
theorem mem_tops {q : Nat → Nat} {n : Nat} (h : PermF q n) (r : List Nat) : ∀ d, d ≤ n → (r ∈ tops q n d ↔ ∃ m, n - d ≤ m ∧ m < n ∧ Top q m ∧ r = cyc q n m)
  | 0, _ => by
    constructor
    · intro hr; cases hr
    · rintro ⟨m, h1, h2, _⟩; omega
  | d + 1, hd => by
    have ih := mem_tops h r d (by omega)
    rw [tops]
    cases e : inU q n d (n - 1 - d) with
    | true =>
      rw [if_pos rfl, ih]
      constructor
      · rintro ⟨m, h1, h2, h3⟩; exact ⟨m, by omega, h2, h3⟩
      · rintro ⟨m, h1, h2, h3, h4⟩
        refine ⟨m, ?_, h2, h3, h4⟩
        refine Classical.byContradiction fun hm => ?_
        have e2 : m = n - 1 - d := by omega
        subst e2
        rw [(top_iff h (by omega)).2 h3] at e
        cases e
    | false =>
      rw [if_neg (by simp), List.mem_cons, ih]
      constructor
      · rintro (hr | ⟨m, h1, h2, h3⟩)
        · exact ⟨n - 1 - d, by omega, by omega, (top_iff h (by omega)).1 e, hr⟩
        · exact ⟨m, by omega, h2, h3⟩
      · rintro ⟨m, h1, h2, h3, h4⟩
        by_cases e2 : m = n - 1 - d
        · subst e2; exact Or.inl h4
        · exact Or.inr ⟨m, by omega, h2, h3, h4⟩
theorem rise_tops {q : Nat → Nat} {n : Nat} (h : PermF q n) : ∀ d, d ≤ n → Rise (tops q n d)
  | 0, _ => List.Pairwise.nil
  | d + 1, hd => by
    have ih := rise_tops h d (by omega)
    rw [tops]
    split
    · exact ih
    · refine List.pairwise_cons.2 ⟨fun r hr => ?_, ih⟩
      obtain ⟨m, h1, h2, _, rfl⟩ := (mem_tops h r d (by omega)).1 hr
      rw [cyc_hd h (by omega), cyc_hd h h2]
      omega
/-- One stands behind another, and so on. -/
def flatT (q : Nat → Nat) (n d : Nat) : List Nat := (tops q n d).flatten
theorem flatT_zero (q : Nat → Nat) (n : Nat) : flatT q n 0 = [] := rfl
theorem flatT_old {q : Nat → Nat} {n d : Nat} (h : inU q n d (n - 1 - d) = true) : flatT q n (d + 1) = flatT q n d := by
  unfold flatT; rw [tops, if_pos h]
theorem flatT_new {q : Nat → Nat} {n d : Nat} (h : inU q n d (n - 1 - d) = false) : flatT q n (d + 1) = cyc q n (n - 1 - d) ++ flatT q n d := by
  unfold flatT; rw [tops, if_neg (by simp [h]), List.flatten_cons]
/-- The greatest number of a list. -/
def mx (r : List Nat) : Nat := r.foldl max 0
theorem foldl_max (r : List Nat) : ∀ a, (∀ x ∈ r, x ≤ r.foldl max a) ∧ a ≤ r.foldl max a ∧ (r.foldl max a = a ∨ r.foldl max a ∈ r) := by
  induction r with
  | nil => intro a; simp
  | cons y r ih =>
    intro a
    obtain ⟨h1, h2, h3⟩ := ih (max a y)
    rw [List.foldl_cons]
    refine ⟨fun x hx => ?_, by omega, ?_⟩
    · rcases List.mem_cons.1 hx with rfl | hx
      · omega
      · exact h1 x hx
    · rcases h3 with h3 | h3
      · rw [h3]
        by_cases e : a ≤ y
        · right; rw [Nat.max_eq_right e]; simp
        · left; omega
      · right; simp [h3]
theorem mx_is {r : List Nat} (h : r ≠ []) : mx r ∈ r ∧ ∀ x ∈ r, x ≤ mx r := by
  obtain ⟨h1, h2, h3⟩ := foldl_max r 0
  refine ⟨?_, h1⟩
  rcases h3 with h3 | h3
  · obtain ⟨y, r', rfl⟩ := List.exists_cons_of_ne_nil h
    have := h1 y (by simp)
    unfold mx
    rw [h3]
    have : y = 0 := by omega
    simp [this]
  · exact h3
/-- A row, from its greatest number on. -/
def turned (r : List Nat) : List Nat := r.drop (r.idxOf (mx r)) ++ r.take (r.idxOf (mx r))
theorem turned_cyc {q : Nat → Nat} {n k : Nat} (h : PermF q n) (hk : k < n) : turned (cyc q n k) = cyc q n (mx (cyc q n k)) ∧ Rel q k (mx (cyc q n k)) ∧ Top q (mx (cyc q n k)) := by
  obtain ⟨hp, _⟩ := per_is h hk
  have hne : cyc q n k ≠ [] := fun e => by
    have := cyc_len q n k
    rw [e] at this
    simp at this
    omega
  obtain ⟨h1, h2⟩ := mx_is hne
  have hr := (mem_cyc h hk).1 h1
  have hi := List.idxOf_lt_length_of_mem h1
  have hg := List.getElem_idxOf hi
  rw [cyc_get] at hg
  refine ⟨?_, hr, fun x hx => h2 x ((mem_cyc h hk).2 (hr.trans hx))⟩
  unfold turned
  rw [cyc_turn h hk (by rwa [cyc_len] at hi), hg]
theorem turned_mem {q : Nat → Nat} {n : Nat} (h : PermF q n) (r : List Nat) : r ∈ (ofs q n n).map turned ↔ r ∈ tops q n n := by
  rw [mem_tops h r n (Nat.le_refl _)]
  constructor
  · intro hr
    obtain ⟨r0, h0, rfl⟩ := List.mem_map.1 hr
    obtain ⟨i, hi, rfl, _⟩ := mem_ofs h0
    obtain ⟨h1, h2, h3⟩ := turned_cyc h hi
    exact ⟨_, by omega, h2.lt h hi, h3, h1⟩
  · rintro ⟨m, _, hm, ht, rfl⟩
    obtain ⟨i, hi, hr, hh⟩ := head_ex h m hm
    refine List.mem_map.2 ⟨cyc q n i, cyc_in_ofs (by omega) hh, ?_⟩
    obtain ⟨h1, h2, h3⟩ := turned_cyc h (show i < n by omega)
    have e : mx (cyc q n i) = m := by
      have a := ht _ ((hr.symm h (by omega)).trans h2)
      have b := h3 m ((h2.symm h (by omega)).trans hr)
      omega
    rw [h1, e]
theorem ofs_pairwise {q : Nat → Nat} {n : Nat} (h : PermF q n) : ((ofs q n n).map turned).Nodup := by
  rw [List.nodup_iff_pairwise_ne]
  refine List.pairwise_map.2 ?_
  unfold ofs
  refine List.pairwise_map.2 ?_
  have hp : ((List.range n).filter fun i => !hadB q n i i).Pairwise (· < ·) := List.pairwise_lt_range.filter _
  refine hp.imp_of_mem ?_
  intro a b ha hb hab e
  have ha := List.mem_filter.1 ha
  have hb := List.mem_filter.1 hb
  have hb1 := List.mem_range.1 hb.1
  obtain ⟨e1, r1, _⟩ := turned_cyc h (show a < n by omega)
  obtain ⟨e2, r2, _⟩ := turned_cyc h hb1
  rw [e1, e2] at e
  have e3 := congrArg hd e
  rw [cyc_hd h (r1.lt h (by omega)), cyc_hd h (r2.lt h hb1)] at e3
  rw [← e3] at r2
  have hr := r1.trans (r2.symm h hb1)
  have hh := hb.2
  rw [(hadB_iff h (by omega)).2 ⟨a, hab, hr⟩] at hh
  cases hh
/-- SORTED: the turned rounds, brought into order by their first numbers, are those from the greatest on. -/
theorem sorted_tops {q : Nat → Nat} {n : Nat} (h : PermF q n) {S : List (List Nat)} (hp : S.Perm ((ofs q n n).map turned)) (hs : S.Pairwise fun a b => hd a ≤ hd b) : S = tops q n n := by
  have hn : S.Nodup := hp.nodup_iff.2 (ofs_pairwise h)
  have hm : ∀ r, r ∈ S ↔ r ∈ tops q n n := fun r => by rw [hp.mem_iff, turned_mem h]
  refine rise_eq ?_ (rise_tops h n (Nat.le_refl _)) hm
  refine (hs.and (List.nodup_iff_pairwise_ne.1 hn)).imp_of_mem ?_
  rintro a b ha hb ⟨h1, h2⟩
  obtain ⟨m1, _, k1, _, rfl⟩ := (mem_tops h a n (Nat.le_refl _)).1 ((hm a).1 ha)
  obtain ⟨m2, _, k2, _, rfl⟩ := (mem_tops h b n (Nat.le_refl _)).1 ((hm b).1 hb)
  rw [cyc_hd h k1, cyc_hd h k2] at h1 ⊢
  have : m1 ≠ m2 := fun e => h2 (by rw [e])
  omega
end Go.Proofs.Ytkffakekakhgdaa
