/- The statement TopDealt: plain. No condition. -/
import Derived.Test.YtmibifmabkaakaaDoorPerM
import Derived.Test.YtmibifmabkaakaaDoorTapM
namespace Go.Proofs.YtmibifmabkaakaaDoor
set_option linter.unusedVariables false

/-! ### a tape that is cut behind what was used -/
theorem tval_take {t t' : List Bool} (h : ∀ i, i < t'.length → t'.getD i false = t.getD i false) (a : Nat) : ∀ m, a + m ≤ t'.length → tval t' a m = tval t a m
  | 0, _ => rfl
  | m + 1, hm => by
    rw [tval, tval, tval_take h a m (by omega)]
    unfold tb
    rw [h (a + m) (by omega)]
theorem pbel_take {t t' : List Bool} (h : ∀ i, i < t'.length → t'.getD i false = t.getD i false) (hl : t'.length ≤ t.length) (w n : Nat) (hn : 1 ≤ n) : ∀ (f c f' : Nat), (pbel t w n f c).2.2 = 0 → (pbel t w n f c).2.1 ≤ t'.length → f' ≠ 0 → (w ≠ 0 → t'.length < c + f') →
    pbel t' w n f' c = pbel t w n f c
  | 0, c, f', h0, _, _, _ => by unfold pbel at h0; simp at h0
  | f + 1, c, f', h0, hu, hf, hw => by
    by_cases e1 : t.length < (c + 1) * w
    · rw [pbel_end e1] at h0; simp at h0
    · by_cases e2 : tval t (c * w) w < n
      · rw [pbel_hit (Nat.succ_ne_zero _) e1 e2] at hu ⊢
        simp only at hu
        have hu2 : (c + 1) * w ≤ t'.length := by omega
        have e3 : tval t' (c * w) w = tval t (c * w) w := tval_take h _ _ (by rw [← Nat.succ_mul]; exact hu2)
        rw [pbel_hit hf (by omega) (by rw [e3]; exact e2), e3]
      · by_cases w0 : w = 0
        · subst w0; exact absurd (show tval t (c * 0) 0 < n by rw [tval]; omega) e2
        · rw [pbel_next e1 e2] at h0 hu ⊢
          have hlen : (c + 2) * w ≤ t'.length := by
            clear hw
            have : ∀ (f c : Nat), (pbel t w n f c).2.2 = 0 → (((c + 1) * w : Nat) : Int) ≤ (pbel t w n f c).2.1 := by
              intro f
              induction f with
              | zero => intro c h0; unfold pbel at h0; simp at h0
              | succ f ih =>
                intro c h0
                by_cases a1 : t.length < (c + 1) * w
                · rw [pbel_end a1] at h0; simp at h0
                · by_cases a2 : tval t (c * w) w < n
                  · rw [pbel_hit (Nat.succ_ne_zero _) a1 a2]; exact Int.le_refl _
                  · rw [pbel_next a1 a2] at h0 ⊢
                    have := ih (c + 1) h0
                    have h3 : (c + 1) * w ≤ (c + 1 + 1) * w := Nat.mul_le_mul_right w (by omega)
                    omega
            have h4 := this f (c + 1) h0
            have h5 : (((c + 1 + 1) * w : Nat) : Int) = (((c + 2) * w : Nat) : Int) := rfl
            omega
          have hcw : c + 2 ≤ (c + 2) * w := Nat.le_mul_of_pos_right _ (Nat.pos_of_ne_zero w0)
          have hfl := hw w0
          obtain ⟨g, rfl⟩ : ∃ g, f' = g + 1 := ⟨f' - 1, by omega⟩
          have h3 : (c + 1) * w ≤ (c + 2) * w := Nat.mul_le_mul_right w (by omega)
          have e3 : tval t' (c * w) w = tval t (c * w) w := tval_take h _ _ (by rw [← Nat.succ_mul]; show (c + 1) * w ≤ _; omega)
          rw [pbel_next (by omega) (by rw [e3]; exact e2)]
          exact pbel_take h hl w n hn f (c + 1) g h0 hu (by omega) (fun _ => by omega)
theorem pbelow_ok {t : List Bool} {m : Int} (h0 : (pbelow t m).2.2 = 0) : ¬ (m < 1 ∨ 1099511627776 < m) := by
  intro h
  unfold pbelow at h0
  rw [if_pos h] at h0
  simp at h0
theorem pbelow_take {t t' : List Bool} {m : Int} (h : ∀ i, i < t'.length → t'.getD i false = t.getD i false) (hl : t'.length ≤ t.length) (h0 : (pbelow t m).2.2 = 0) (hu : (pbelow t m).2.1 ≤ t'.length) : pbelow t' m = pbelow t m := by
  have hm := pbelow_ok h0
  unfold pbelow at h0 hu ⊢
  rw [if_neg hm] at h0 hu ⊢
  rw [if_neg hm]
  exact pbel_take h hl _ _ (by omega) _ 0 _ h0 hu (Nat.succ_ne_zero _) (fun _ => by omega)
theorem pbel_val (t : List Bool) (w n : Nat) : ∀ (f c : Nat), (pbel t w n f c).2.2 = 0 ∨ (pbel t w n f c).2.2 = 7
  | 0, c => Or.inr rfl
  | f + 1, c => by
    by_cases a1 : t.length < (c + 1) * w
    · rw [pbel_end a1]; exact Or.inr rfl
    · by_cases a2 : tval t (c * w) w < n
      · rw [pbel_hit (Nat.succ_ne_zero _) a1 a2]; exact Or.inl rfl
      · rw [pbel_next a1 a2]; exact pbel_val t w n f (c + 1)
theorem pbel_lt (t : List Bool) (w n : Nat) : ∀ (f c : Nat), (pbel t w n f c).2.2 = 0 → 0 ≤ (pbel t w n f c).1 ∧ (pbel t w n f c).1 < n
  | 0, c, h => by unfold pbel at h; simp at h
  | f + 1, c, h => by
    by_cases a1 : t.length < (c + 1) * w
    · rw [pbel_end a1] at h; simp at h
    · by_cases a2 : tval t (c * w) w < n
      · rw [pbel_hit (Nat.succ_ne_zero _) a1 a2]
        show 0 ≤ ((tval t (c * w) w : Nat) : Int) ∧ ((tval t (c * w) w : Nat) : Int) < n
        omega
      · rw [pbel_next a1 a2] at h ⊢; exact pbel_lt t w n f (c + 1) h
theorem pbelow_val (t : List Bool) {m : Int} (hm : 1 ≤ m ∧ m ≤ 20) : (pbelow t m).2.2 = 0 ∨ (pbelow t m).2.2 = 7 := by
  unfold pbelow
  rw [if_neg (by omega)]
  exact pbel_val _ _ _ _ _
theorem pbelow_lt {t : List Bool} {m : Int} (h : (pbelow t m).2.2 = 0) : 0 ≤ (pbelow t m).1 ∧ (pbelow t m).1 < m := by
  have hm := pbelow_ok h
  unfold pbelow at h ⊢
  rw [if_neg hm] at h ⊢
  have := pbel_lt _ _ _ _ _ h
  omega
theorem pmany_nil (t : List Bool) (u : Nat) (out : List Int) : pmany t [] u out = (out, (u : Int), 0) := rfl
theorem pmany_no {t : List Bool} {m : Int} {l : List Int} {u : Nat} {out : List Int} (h : (pbelow (t.drop u) m).2.2 ≠ 0) : pmany t (m :: l) u out = ([], 0, (pbelow (t.drop u) m).2.2) := if_pos h
theorem pmany_go {t : List Bool} {m : Int} {l : List Int} {u : Nat} {out : List Int} (h : (pbelow (t.drop u) m).2.2 = 0) : pmany t (m :: l) u out = pmany t l (u + (pbelow (t.drop u) m).2.1.toNat) (out ++ [(pbelow (t.drop u) m).1]) := if_neg (by rw [h]; simp)
theorem pmany_val (t : List Bool) : ∀ (l : List Int) (u : Nat) (out : List Int), (∀ m ∈ l, 1 ≤ m ∧ m ≤ 20) → (pmany t l u out).2.2 = 0 ∨ (pmany t l u out).2.2 = 7
  | [], u, out, _ => Or.inl rfl
  | m :: l, u, out, h => by
    by_cases e : (pbelow (t.drop u) m).2.2 = 0
    · rw [pmany_go e]; exact pmany_val t l _ _ fun x hx => h x (by simp [hx])
    · rw [pmany_no e]
      exact (pbelow_val (t.drop u) (h m (by simp))).elim (fun h => absurd h e) Or.inr
theorem pmany_used (t : List Bool) : ∀ (l : List Int) (u : Nat) (out : List Int), u ≤ t.length → (pmany t l u out).2.2 = 0 → (u : Int) ≤ (pmany t l u out).2.1 ∧ (pmany t l u out).2.1 ≤ t.length
  | [], u, out, hu, _ => ⟨Int.le_refl _, by show (u : Int) ≤ t.length; omega⟩
  | m :: l, u, out, hu, h => by
    by_cases e : (pbelow (t.drop u) m).2.2 = 0
    · rw [pmany_go e] at h ⊢
      have h1 := pbelow_used (t.drop u) m
      rw [List.length_drop] at h1
      have := pmany_used t l _ _ (by omega) h
      omega
    · rw [pmany_no e] at h; exact absurd h e
theorem pmany_take (t : List Bool) (U : Nat) (hU : U ≤ t.length) : ∀ (l : List Int) (u : Nat) (out : List Int), u ≤ t.length → (pmany t l u out).2.2 = 0 → (pmany t l u out).2.1 ≤ U → pmany (t.take U) l u out = pmany t l u out
  | [], u, out, _, _, _ => rfl
  | m :: l, u, out, hu, h, hle => by
    by_cases e : (pbelow (t.drop u) m).2.2 = 0
    · have h1 := pbelow_used (t.drop u) m
      rw [List.length_drop] at h1
      rw [pmany_go e] at h hle ⊢
      have h2 := pmany_used t l _ _ (by omega) h
      have e2 : pbelow ((t.take U).drop u) m = pbelow (t.drop u) m := by
        refine pbelow_take (fun i hi => ?_) ?_ e ?_
        · rw [List.length_drop, List.length_take] at hi
          rw [List.getD_eq_getElem?_getD, List.getD_eq_getElem?_getD, List.getElem?_drop, List.getElem?_drop, List.getElem?_take, if_pos (by omega)]
        · rw [List.length_drop, List.length_drop, List.length_take]; omega
        · rw [List.length_drop, List.length_take, Nat.min_eq_left hU]; omega
      rw [pmany_go (by rw [e2]; exact e), e2]
      exact pmany_take t U hU l _ _ (by omega) h hle
    · rw [pmany_no e] at h; exact absurd h e
/-- What was drawn. -/
theorem pmany_out (t : List Bool) : ∀ (l : List Int) (u : Nat) (out : List Int), (pmany t l u out).2.2 = 0 → ∃ ds : List Int, (pmany t l u out).1 = out ++ ds ∧ ds.length = l.length ∧ ∀ k, k < l.length → 0 ≤ pat ds k ∧ pat ds k < pat l k
  | [], u, out, _ => ⟨[], by rw [pmany_nil]; simp, rfl, fun k hk => by simp at hk⟩
  | m :: l, u, out, h => by
    by_cases e : (pbelow (t.drop u) m).2.2 = 0
    · rw [pmany_go e] at h ⊢
      obtain ⟨ds, h1, h2, h3⟩ := pmany_out t l _ _ h
      refine ⟨(pbelow (t.drop u) m).1 :: ds, by rw [h1, List.append_assoc]; rfl, by simp [h2], fun k hk => ?_⟩
      cases k with
      | zero => exact pbelow_lt e
      | succ k => exact h3 k (by simpa using hk)
    · rw [pmany_no e] at h; exact absurd h e

/-! ### what is dealt is an order -/
structure Rank (f : Nat → Int) (n : Nat) : Prop where
  r : ∀ i, i < n → 0 ≤ f i ∧ f i < n
  i : ∀ i k, i < n → k < n → f i = f k → i = k
def swp (a b i : Nat) : Nat := if i = b then a else if i = a then b else i
theorem swp_is (f : Nat → Int) (a b i : Nat) : updf (updf f a (f b)) b (f a) i = f (swp a b i) := by
  unfold updf swp
  split
  · rfl
  · split <;> rfl
theorem swp_lt {n a b i : Nat} (ha : a < n) (hb : b < n) (hi : i < n) : swp a b i < n := by
  unfold swp
  split
  · exact ha
  · split <;> omega
theorem swp_inj {a b i k : Nat} (h : swp a b i = swp a b k) : i = k := by
  unfold swp at h
  split at h <;> split at h <;> (try split at h) <;> (try split at h) <;> omega
theorem rank_swap {f : Nat → Int} {n a b : Nat} (h : Rank f n) (ha : a < n) (hb : b < n) : Rank (updf (updf f a (f b)) b (f a)) n where
  r := fun i hi => by
    rw [swp_is]
    exact h.r _ (swp_lt ha hb hi)
  i := fun i k hi hk e => by
    rw [swp_is, swp_is] at e
    exact swp_inj (h.i _ _ (swp_lt ha hb hi) (swp_lt ha hb hk) e)
theorem rank_id (n : Nat) : Rank (fun i => (i : Int)) n where
  r := fun i hi => by simp; omega
  i := fun i k hi hk e => by omega
theorem rank_pdl {d : List Int} (h : dgood d d.length = true) : ∀ j, j ≤ d.length → Rank (pdl d j) d.length
  | 0, _ => rank_id d.length
  | j + 1, hj => by
    have ih := rank_pdl h j (by omega)
    have hd := dgood_get h (d.length - 1 - j) (by omega)
    exact rank_swap ih (by omega) (by omega)
theorem deal_right {d : List Int} (hl : d.length ≤ 20) (h : dgood d d.length = true) : dealE d = 0 ∧ permB (dealL d) = true ∧ (dealL d).length = d.length := by
  have hc : d.length ≤ 20 ∧ dgood d d.length = true := ⟨hl, h⟩
  unfold dealE dealL
  rw [if_pos hc, if_pos hc]
  have hr := rank_pdl h d.length (Nat.le_refl _)
  refine ⟨rfl, ?_, tab_len _ _⟩
  unfold permB
  rw [tab_len, Bool.and_eq_true]
  refine ⟨by simpa using hl, (pokc_iff _ _).2 fun k hk => ?_⟩
  rw [tab_len, pat_tab hk]
  refine ⟨(hr.r k hk).1, (hr.r k hk).2, fun hm => ?_⟩
  obtain ⟨i, hi, e⟩ := List.mem_iff_getElem.1 hm
  rw [List.length_take, tab_len] at hi
  rw [List.getElem_take, ← pat_get, pat_tab (by omega)] at e
  have := hr.i i k (by omega) hk e
  omega
theorem dgood_of {d : List Int} : ∀ n, (∀ k, k < n → 0 ≤ pat d k ∧ pat d k ≤ k) → dgood d n = true
  | 0, _ => rfl
  | n + 1, h => by
    rw [dgood, dgood_of n fun k hk => h k (by omega)]
    have := h n (by omega)
    simp [this.1, this.2]
/-- THE DEAL: what so many draws give. -/
theorem dealt_is (t : List Bool) {n : Nat} (hn : n ≤ 20) : ((pmany t (tab (fun k => (k : Int) + 1) n) 0 []).2.2 = 0 ∨ (pmany t (tab (fun k => (k : Int) + 1) n) 0 []).2.2 = 7) ∧
    ((pmany t (tab (fun k => (k : Int) + 1) n) 0 []).2.2 = 0 → ∃ (d : List Int) (U : Nat), pmany t (tab (fun k => (k : Int) + 1) n) 0 [] = (d, (U : Int), 0) ∧ U ≤ t.length ∧ pmany (t.take U) (tab (fun k => (k : Int) + 1) n) 0 [] = (d, (U : Int), 0) ∧ d.length = n ∧ dealE d = 0 ∧ permB (dealL d) = true ∧ (dealL d).length = n) := by
  refine ⟨pmany_val t _ _ _ fun m hm => ?_, fun h => ?_⟩
  · unfold tab at hm
    obtain ⟨k, hk, rfl⟩ := List.mem_map.1 hm
    have := List.mem_range.1 hk
    omega
  · obtain ⟨ds, h1, h2, h3⟩ := pmany_out t _ _ _ h
    have h4 := pmany_used t _ _ _ (Nat.zero_le _) h
    rw [List.nil_append] at h1
    rw [tab_len] at h2 h3
    have hd : dgood ds ds.length = true := dgood_of _ fun k hk => by
      have := h3 k (by omega)
      rw [pat_tab (by omega)] at this
      omega
    have hdr := deal_right (by omega) hd
    have e : pmany t (tab (fun k => (k : Int) + 1) n) 0 [] = (ds, (((pmany t (tab (fun k => (k : Int) + 1) n) 0 []).2.1.toNat : Nat) : Int), 0) := by
      refine Prod.ext h1 (Prod.ext ?_ h)
      show (pmany t (tab (fun k => (k : Int) + 1) n) 0 []).2.1 = (((pmany t (tab (fun k => (k : Int) + 1) n) 0 []).2.1.toNat : Nat) : Int)
      omega
    refine ⟨ds, _, e, by omega, ?_, h2, hdr.1, hdr.2.1, hdr.2.2.trans h2⟩
    rw [pmany_take t _ (by omega) _ _ _ (Nat.zero_le _) h (by omega)]
    exact e
end Go.Proofs.YtmibifmabkaakaaDoor
