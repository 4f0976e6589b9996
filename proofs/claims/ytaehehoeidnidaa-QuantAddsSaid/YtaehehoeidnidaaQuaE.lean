/- Package quant: what squeeze does, told plainly; a gap stored. Nothing of the program's own functions. No condition. -/
import Derived.Test.YtaehehoeidnidaaQuaL
namespace Go.Proofs.Ytaehehoeidnidaa
open Go.ChangeShapes Go.WideShapes Go.ChangeAt Go.RowKit
set_option linter.unusedVariables false

/-- Squeezed from the back on down to place K. -/
def qst (most : Int) (ps : List Rk) (K : Nat) : List Rk := ps.take K ++ qsq most (ps.drop K)
theorem qsq_ne (most : Int) (r : Rk) (ts : List Rk) : qsq most (r :: ts) ≠ [] := by
  unfold qsq
  split
  · simp
  · split <;> simp
theorem qsq_sum (most : Int) : ∀ l, qsum (qsq most l) = qsum l
  | [] => rfl
  | r :: ts => by
    have h := qsq_sum most ts
    unfold qsq
    split
    · next e => rw [e] at h; simp only [qsum] at h ⊢; omega
    · next b bs e =>
      rw [e] at h
      split <;> (simp only [qsum] at h ⊢; omega)
theorem qsq_len (most : Int) : ∀ l, (qsq most l).length ≤ l.length
  | [] => Nat.le_refl _
  | r :: ts => by
    have h := qsq_len most ts
    unfold qsq
    split
    · simp
    · next b bs e =>
      rw [e] at h
      split <;> (simp only [List.length_cons] at h ⊢; omega)
/-- Gaps are not negative, and what more stands for is bounded. -/
def QB (l : List Rk) : Prop := ∀ r ∈ l, 0 ≤ r.2.1 ∧ 0 ≤ r.2.2 ∧ r.2.2 ≤ 4398046511104
theorem QB.cons {r : Rk} {l : List Rk} (h : QB (r :: l)) : (0 ≤ r.2.1 ∧ 0 ≤ r.2.2 ∧ r.2.2 ≤ 4398046511104) ∧ QB l := ⟨h r (List.mem_cons_self ..), fun x hx => h x (List.mem_cons_of_mem _ hx)⟩
theorem QB.qsq (most : Int) : ∀ {l}, QB l → QB (qsq most l)
  | [], h => h
  | r :: ts, h => by
    obtain ⟨h1, h2⟩ := h.cons
    have h3 := QB.qsq most h2
    unfold Proofs.Ytaehehoeidnidaa.qsq
    split
    · intro x hx; rw [List.mem_singleton] at hx; subst hx; exact h1
    · next b bs e =>
      rw [e] at h3
      obtain ⟨h4, h5⟩ := h3.cons
      split
      · intro x hx
        rcases List.mem_cons.1 hx with rfl | hx
        · exact ⟨by show 0 ≤ b.2.1 + r.2.1; omega, h4.2⟩
        · exact h5 x hx
      · intro x hx
        rcases List.mem_cons.1 hx with rfl | hx
        · exact h1
        · exact h3 x hx
theorem QB.sum {l : List Rk} (h : QB l) : 0 ≤ qsum l ∧ ∀ r ∈ l, r.2.1 ≤ qsum l := by
  induction l with
  | nil => exact ⟨Int.le_refl _, fun r hr => by cases hr⟩
  | cons p ps ih =>
    obtain ⟨h1, h2⟩ := h.cons
    obtain ⟨h3, h4⟩ := ih h2
    refine ⟨by simp only [qsum]; omega, fun r hr => ?_⟩
    simp only [qsum]
    rcases List.mem_cons.1 hr with rfl | hr
    · omega
    · have := h4 r hr; omega
theorem QB.take {l : List Rk} (h : QB l) (k : Nat) : QB (l.take k) := fun r hr => h r (List.mem_of_mem_take hr)
theorem QB.drop {l : List Rk} (h : QB l) (k : Nat) : QB (l.drop k) := fun r hr => h r (List.mem_of_mem_drop hr)
theorem QB.app {a b : List Rk} (h : QB a) (h2 : QB b) : QB (a ++ b) := fun r hr => by
  rcases List.mem_append.1 hr with hr | hr
  · exact h r hr
  · exact h2 r hr
theorem qst_sum (most : Int) (ps : List Rk) (K : Nat) : qsum (qst most ps K) = qsum ps := by
  unfold qst
  rw [qsum_app, qsq_sum, ← qsum_app, List.take_append_drop]
theorem QB.qst {ps : List Rk} (h : QB ps) (most : Int) (K : Nat) : QB (qst most ps K) := (h.take K).app ((h.drop K).qsq most)
theorem kat_mem {l : List Rk} {k : Nat} (h : k < l.length) : kat l k ∈ l := by rw [kat_get h]; exact List.getElem_mem h
/-- One round. -/
theorem qst_step (most : Int) (ps : List Rk) (K : Nat) (hK : K + 1 < ps.length) :
    K + 1 < (qst most ps (K + 1)).length ∧
    qst most ps K = if (kat (qst most ps (K + 1)) K).2.1 + (kat (qst most ps (K + 1)) (K + 1)).2.1 + (kat (qst most ps (K + 1)) (K + 1)).2.2 ≤ most then
      ((qst most ps (K + 1)).set (K + 1) ((kat (qst most ps (K + 1)) (K + 1)).1, (kat (qst most ps (K + 1)) (K + 1)).2.1 + (kat (qst most ps (K + 1)) K).2.1, (kat (qst most ps (K + 1)) (K + 1)).2.2)).take K ++
      ((qst most ps (K + 1)).set (K + 1) ((kat (qst most ps (K + 1)) (K + 1)).1, (kat (qst most ps (K + 1)) (K + 1)).2.1 + (kat (qst most ps (K + 1)) K).2.1, (kat (qst most ps (K + 1)) (K + 1)).2.2)).drop (K + 1)
    else qst most ps (K + 1) := by
  have h1 : (ps.take (K + 1)).length = K + 1 := by rw [List.length_take]; omega
  obtain ⟨r, ts, hr⟩ : ∃ r ts, ps.drop (K + 1) = r :: ts := by
    cases hd : ps.drop (K + 1) with
    | nil => have := congrArg List.length hd; rw [List.length_drop] at this; simp at this; omega
    | cons r ts => exact ⟨r, ts, rfl⟩
  obtain ⟨b, bs, hb⟩ : ∃ b bs, qsq most (ps.drop (K + 1)) = b :: bs := by
    cases hd : qsq most (ps.drop (K + 1)) with
    | nil => rw [hr] at hd; exact absurd hd (qsq_ne most r ts)
    | cons b bs => exact ⟨b, bs, rfl⟩
  have e1 : qst most ps (K + 1) = ps.take (K + 1) ++ b :: bs := by unfold qst; rw [hb]
  have e2 : ps.take (K + 1) = ps.take K ++ [ps[K]] := List.take_succ_eq_append_getElem (by omega)
  have e3 : ps.drop K = ps[K] :: ps.drop (K + 1) := List.drop_eq_getElem_cons (by omega)
  have h0 : (ps.take K).length = K := by rw [List.length_take]; omega
  have k1 : kat (qst most ps (K + 1)) K = ps[K] := by
    rw [e1, e2]; unfold kat; rw [List.getD_eq_getElem?_getD, List.append_assoc, List.getElem?_append_right (by omega), h0, Nat.sub_self]; rfl
  have k2 : kat (qst most ps (K + 1)) (K + 1) = b := by
    rw [e1]; unfold kat; rw [List.getD_eq_getElem?_getD, List.getElem?_append_right (by omega), h1, Nat.sub_self]; rfl
  refine ⟨by rw [e1, List.length_append, h1, List.length_cons]; omega, ?_⟩
  rw [k1, k2]
  have e4 : qst most ps K = ps.take K ++ (if ps[K].2.1 + b.2.1 + b.2.2 ≤ most then (b.1, b.2.1 + ps[K].2.1, b.2.2) :: bs else ps[K] :: b :: bs) := by
    unfold qst
    rw [e3]
    show ps.take K ++ qsq most (ps[K] :: ps.drop (K + 1)) = _
    conv => lhs; rw [qsq]
    rw [hb]
  rw [e4]
  by_cases hc : ps[K].2.1 + b.2.1 + b.2.2 ≤ most
  · rw [if_pos hc, if_pos hc, e1]
    have s1 : (ps.take (K + 1) ++ b :: bs).set (K + 1) (b.1, b.2.1 + ps[K].2.1, b.2.2) = ps.take (K + 1) ++ (b.1, b.2.1 + ps[K].2.1, b.2.2) :: bs := by
      rw [List.set_append_right _ _ (by omega), h1, Nat.sub_self, List.set_cons_zero]
    rw [s1]
    have s2 : (ps.take (K + 1) ++ (b.1, b.2.1 + ps[K].2.1, b.2.2) :: bs).drop (K + 1) = (b.1, b.2.1 + ps[K].2.1, b.2.2) :: bs := by
      conv => lhs; arg 1; rw [← h1]
      rw [List.drop_left]
    have s3 : (ps.take (K + 1) ++ (b.1, b.2.1 + ps[K].2.1, b.2.2) :: bs).take K = ps.take K := by
      rw [e2, List.append_assoc]
      conv => lhs; arg 1; rw [← h0]
      rw [List.take_left]
    rw [s2, s3]
  · rw [if_neg hc, if_neg hc, e1, e2, List.append_assoc]; rfl
theorem qst_start (most : Int) (ps : List Rk) (h : 1 ≤ ps.length) : qst most ps (ps.length - 1) = ps := by
  unfold qst
  have : (ps.drop (ps.length - 1)).length = 1 := by rw [List.length_drop]; omega
  obtain ⟨r, hr⟩ := List.length_eq_one_iff.1 this
  rw [hr]
  show ps.take _ ++ [r] = ps
  rw [← hr, List.take_append_drop]
theorem qst_end (parts : Int) (ps : List Rk) (x : Int) (K : Nat) (hK : K ≤ 1) (h0 : K = 0 → (qall ps x).length = 1) : qst (2 * qsum (qall ps x) / parts) (qall ps x) K = qnew parts ps x := by
  have hne : qall ps x ≠ [] := by unfold qall; simp
  cases hq : qall ps x with
  | nil => exact absurd hq hne
  | cons r ts =>
    rcases (by omega : K = 1 ∨ K = 0) with rfl | rfl
    · unfold qnew qst; rw [hq]; rfl
    · have := h0 rfl
      rw [hq] at this
      have : ts = [] := List.eq_nil_of_length_eq_zero (by simpa using this)
      subst this
      unfold qnew qst; rw [hq]; rfl
/-- The cells of an own slice. -/
theorem row_cells {w : World} {g : Nat} {t : TypeId} {ps : List Rk} {X : List Value} (hg : w.heap[g]? = some (.cells (flat3 ps ++ X).toArray t (0, 0))) {k : Nat} (hk : k < ps.length) :
    w.cell? ⟨g, k * 3, none⟩ = some (.int .i64 (kat ps k).1) ∧ w.cell? ⟨g, k * 3 + 1, none⟩ = some (.int .i64 (kat ps k).2.1) ∧ w.cell? ⟨g, k * 3 + 2, none⟩ = some (.int .i64 (kat ps k).2.2) := by
  obtain ⟨h1, h2, h3⟩ := flat3_at ps k hk
  have hl := flat3_len ps
  refine ⟨?_, ?_, ?_⟩
  · rw [cell_of_row w g _ _ t (0, 0) hg, List.getElem?_toArray, List.getElem?_append_left (by omega)]; exact h1
  · rw [cell_of_row w g _ _ t (0, 0) hg, List.getElem?_toArray, List.getElem?_append_left (by omega)]; exact h2
  · rw [cell_of_row w g _ _ t (0, 0) hg, List.getElem?_toArray, List.getElem?_append_left (by omega)]; exact h3
theorem flat3_set : ∀ (ps : List Rk) (k : Nat) (x : Int), k < ps.length → (flat3 ps).set (k * 3 + 1) (.int .i64 x) = flat3 (ps.set k ((kat ps k).1, x, (kat ps k).2.2))
  | [], k, x, h => by simp at h
  | p :: ps, 0, x, h => rfl
  | p :: ps, k + 1, x, h => by
    have ih := flat3_set ps k x (by simpa using h)
    rw [show (k + 1) * 3 + 1 = (k * 3 + 1) + 1 + 1 + 1 by omega]
    simp only [flat3, List.set_cons_succ]
    rw [ih]
    rfl
theorem Own3.setgap {w : World} {base g cap : Nat} {ps : List Rk} {X : List Value} (hbg : base ≤ g) (hg : w.heap[g]? = some (.cells (flat3 ps ++ X).toArray 104 (0, 0))) (hn : ps.length ≤ cap) (hm : cap ≤ maxLen) (hX : (flat3 ps ++ X).length = cap * 3) {k : Nat} (hk : k < ps.length) (x : Int) :
    Own3 (w.setCell ⟨g, k * 3 + 1, none⟩ (.int .i64 x)) base (.slice (some ⟨g, 0, none⟩) ps.length cap) (ps.set k ((kat ps k).1, x, (kat ps k).2.2)) := by
  have hl := flat3_len ps
  have hb : (w.setCell ⟨g, k * 3 + 1, none⟩ (.int .i64 x)).heap[g]? = some (.cells (flat3 (ps.set k ((kat ps k).1, x, (kat ps k).2.2)) ++ X).toArray 104 (0, 0)) := by
    have h1 := Blk.set_ (w := w) (g := g) (t := 104) hg (k * 3 + 1) (.int .i64 x)
    unfold Blk at h1
    rw [h1]
    congr 2
    rw [← flat3_set ps k x hk]
    rw [List.setIfInBounds_toArray, List.set_append_left _ _ (by omega)]
  have hlen : (ps.set k ((kat ps k).1, x, (kat ps k).2.2)).length = ps.length := List.length_set
  have := Own3.mk_ (base := base) (ps := ps.set k ((kat ps k).1, x, (kat ps k).2.2)) (cap := cap) hbg hb (by rw [hlen]; exact hn) hm (by rw [List.length_append, flat3_len, hlen]; rw [List.length_append, hl] at hX; exact hX) (by rw [← flat3_len, List.take_left])
  rw [hlen] at this
  exact this
end Go.Proofs.Ytaehehoeidnidaa
