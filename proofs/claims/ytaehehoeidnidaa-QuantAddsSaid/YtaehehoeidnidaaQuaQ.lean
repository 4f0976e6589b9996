/- The reference's OAdd: its second loop's list, told plainly. Nothing of the program. No condition. -/
import Derived.Test.YtaehehoeidnidaaQuaW
namespace Go.Proofs.Ytaehehoeidnidaa
open Go.ChangeShapes Go.WideShapes Go.ChangeAt Go.RowKit
set_option linter.unusedVariables false

/-- What is behind, from the last one on, down to place K. -/
def bkL (M : Int) (all : List Rk) (K : Nat) : List Rk := if K = 0 then (qst M all 1).reverse else (qsq M (all.drop K)).reverse
theorem bkL_end (M : Int) (all : List Rk) : bkL M all all.length = [] ∨ all.length = 0 := by
  by_cases h : all.length = 0
  · exact .inr h
  · left
    unfold bkL
    rw [if_neg h, List.drop_length]
    rfl
theorem bkL_zero (M : Int) (all : List Rk) : (bkL M all 0).reverse = qst M all 1 := by unfold bkL; rw [if_pos rfl, List.reverse_reverse]
theorem kat_last {l : List Rk} {b : Rk} : kat (l ++ [b]) l.length = b := by unfold kat; simp [List.getD_eq_getElem?_getD]
/-- The next one is taken as it is. -/
theorem bkL_push (M : Int) (all : List Rk) (J : Nat) (hJ : J < all.length)
    (h : (bkL M all (J + 1)).length = 0 ∨ J = 0 ∨ M < (kat all J).2.1 + (kat (bkL M all (J + 1)) ((bkL M all (J + 1)).length - 1)).2.1 + (kat (bkL M all (J + 1)) ((bkL M all (J + 1)).length - 1)).2.2) :
    bkL M all J = bkL M all (J + 1) ++ [kat all J] := by
  have e3 : all.drop J = all[J] :: all.drop (J + 1) := List.drop_eq_getElem_cons hJ
  have hk : kat all J = all[J] := kat_get hJ
  have e1 : bkL M all (J + 1) = (qsq M (all.drop (J + 1))).reverse := by unfold bkL; rw [if_neg (by omega)]
  rw [e1] at h ⊢
  rw [hk] at h ⊢
  by_cases h0 : J = 0
  · subst h0
    unfold bkL
    rw [if_pos rfl]
    unfold qst
    have : all.take 1 = [all[0]] := by
      have := List.take_succ_eq_append_getElem (l := all) hJ
      simpa using this
    rw [this, List.reverse_append]
    rfl
  · unfold bkL
    rw [if_neg h0, e3]
    cases hq : qsq M (all.drop (J + 1)) with
    | nil =>
      conv => lhs; rw [qsq]
      rw [hq]; rfl
    | cons b bs =>
      rw [hq] at h
      have hl : ((b :: bs).reverse.length - 1) = bs.reverse.length := by simp
      rw [hl, List.reverse_cons, kat_last] at h
      rcases h with h | h | h
      · simp at h
      · exact absurd h h0
      · conv => lhs; rw [qsq]
        rw [hq]
        simp only
        rw [if_neg (by omega)]
        simp
/-- The next one goes into the last one. -/
theorem bkL_into (M : Int) (all : List Rk) (J : Nat) (hJ : J < all.length) (h0 : 0 < J) (hl : 0 < (bkL M all (J + 1)).length)
    (h : (kat all J).2.1 + (kat (bkL M all (J + 1)) ((bkL M all (J + 1)).length - 1)).2.1 + (kat (bkL M all (J + 1)) ((bkL M all (J + 1)).length - 1)).2.2 ≤ M) :
    bkL M all J = (bkL M all (J + 1)).set ((bkL M all (J + 1)).length - 1) ((kat (bkL M all (J + 1)) ((bkL M all (J + 1)).length - 1)).1, (kat (bkL M all (J + 1)) ((bkL M all (J + 1)).length - 1)).2.1 + (kat all J).2.1, (kat (bkL M all (J + 1)) ((bkL M all (J + 1)).length - 1)).2.2) := by
  have e3 : all.drop J = all[J] :: all.drop (J + 1) := List.drop_eq_getElem_cons hJ
  have hk : kat all J = all[J] := kat_get hJ
  have e1 : bkL M all (J + 1) = (qsq M (all.drop (J + 1))).reverse := by unfold bkL; rw [if_neg (by omega)]
  rw [e1] at h hl ⊢
  rw [hk] at h ⊢
  have e2 : bkL M all J = (qsq M (all[J] :: all.drop (J + 1))).reverse := by unfold bkL; rw [if_neg (by omega), e3]
  rw [e2]
  cases hq : qsq M (all.drop (J + 1)) with
  | nil => rw [hq] at hl; simp at hl
  | cons b bs =>
    rw [hq] at h
    have hl2 : ((b :: bs).reverse.length - 1) = bs.reverse.length := by simp
    rw [hl2, List.reverse_cons, kat_last] at h ⊢
    conv => lhs; rw [qsq]
    rw [hq]
    simp only
    rw [if_pos h, List.reverse_cons, List.set_append_right _ _ (Nat.le_refl _), Nat.sub_self]
    rfl
theorem QB.bkL {all : List Rk} (h : QB all) (M : Int) (K : Nat) : QB (bkL M all K) := by
  unfold Proofs.Ytaehehoeidnidaa.bkL
  split
  · exact fun r hr => h.qst M 1 r (List.mem_reverse.1 hr)
  · exact fun r hr => (h.drop K).qsq M r (List.mem_reverse.1 hr)
theorem bkL_gap {all : List Rk} (h : QB all) (M : Int) (K : Nat) : ∀ r ∈ bkL M all K, r.2.1 ≤ qsum all := by
  intro r hr
  unfold bkL at hr
  split at hr
  · have := (h.qst M 1).sum.2 r (List.mem_reverse.1 hr)
    rw [qst_sum] at this
    exact this
  · have h1 := ((h.drop K).qsq M).sum.2 r (List.mem_reverse.1 hr)
    rw [qsq_sum] at h1
    have h2 := (h.take K).sum.1
    have h3 : qsum all = qsum (all.take K) + qsum (all.drop K) := by rw [← qsum_app, List.take_append_drop]
    omega
theorem bkL_len (M : Int) (all : List Rk) (K : Nat) : (bkL M all K).length ≤ all.length := by
  unfold bkL
  split
  · rw [List.length_reverse]
    unfold qst
    rw [List.length_append]
    have := qsq_len M (all.drop 1)
    rw [List.length_take]
    rw [List.length_drop] at this
    omega
  · rw [List.length_reverse]
    have := qsq_len M (all.drop K)
    rw [List.length_drop] at this
    omega
theorem rev_step {l : List Rk} {J : Nat} (h : J < l.length) : (l.drop J).reverse = (l.drop (J + 1)).reverse ++ [kat l J] := by
  rw [List.drop_eq_getElem_cons h, List.reverse_cons, kat_get h]
theorem QOk.qb {parts : Int} {ps : List Rk} (h : QOk parts ps) : ∀ r ∈ ps, 1 ≤ r.2.1 ∧ r.2.1 ≤ 1099511627776 ∧ 0 ≤ r.2.2 ∧ r.2.2 ≤ 1099511627776 := fun r hr => by
  obtain ⟨i, hi, rfl⟩ := List.mem_iff_getElem.1 hr
  have := h.one i hi
  unfold Q1 at this
  rw [kat_get hi] at this
  omega
theorem qall_ok {parts : Int} {ps : List Rk} (h : QOk parts ps) (x : Int) (hl : ps.length < 400) : (1 ≤ (qall ps x).length ∧ (qall ps x).length ≤ 400) ∧ QB (qall ps x) ∧ qsum (qall ps x) ≤ 2199023255552 := by
  have hp := q_parts ps x
  have hq := h.qb
  have hin1 : ∀ r, r ∈ qlow ps x → r ∈ ps := fun r hr => by have := List.mem_append_left (qhigh ps x) hr; rwa [hp] at this
  have hin2 : ∀ r, r ∈ qhigh ps x → r ∈ ps := fun r hr => by have := List.mem_append_right (qlow ps x) hr; rwa [hp] at this
  have hown : 0 ≤ (qown ps x).2.2 ∧ (qown ps x).2.2 ≤ 4398046511104 ∧ (qown ps x).2.1 = 1 := by
    unfold qown
    split
    · next hc =>
      have hpos : 0 < (qhigh ps x).length := by have := hc.2; cases hh : qhigh ps x with | nil => exact absurd hh this | cons _ _ => simp
      have h1 := hq (kat (qhigh ps x) 0) (hin2 _ (kat_mem hpos))
      exact ⟨by show 0 ≤ _ + _ - 1; omega, by show _ + _ - 1 ≤ (4398046511104 : Int); omega, rfl⟩
    · exact ⟨Int.le_refl _, by show (0 : Int) ≤ 4398046511104; omega, rfl⟩
  have hlen : (qlow ps x).length + (qhigh ps x).length = ps.length := by rw [← List.length_append, hp]
  have hsum : qsum (qlow ps x) + qsum (qhigh ps x) = qsum ps := by rw [← qsum_app, hp]
  have hall := h.all
  unfold qall
  refine ⟨?_, ?_, ?_⟩
  · rw [List.length_append, List.length_cons]; omega
  · intro r hr
    rcases List.mem_append.1 hr with hr | hr
    · have := hq r (hin1 r hr); omega
    · rcases List.mem_cons.1 hr with rfl | hr
      · omega
      · have := hq r (hin2 r hr); omega
  · rw [qsum_app]
    simp only [qsum]
    omega
end Go.Proofs.Ytaehehoeidnidaa
