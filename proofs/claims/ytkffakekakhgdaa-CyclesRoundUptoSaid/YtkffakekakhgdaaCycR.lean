/- Rounds put together again: plain. No condition. -/
import Derived.Test.YtkffakekakhgdaaCycO
namespace Go.Proofs.Ytkffakekakhgdaa
set_option linter.unusedVariables false

/-- Whom a row sends where. -/
def rowp (r : List Int) : List (Int × Int) := (List.range r.length).map fun k => (pat r k, pat r ((k + 1) % r.length))
def prs (l : List (List Int)) : List (Int × Int) := l.flatMap rowp
/-- The last one told of x. -/
def lkp (ps : List (Int × Int)) (x : Int) : Int := ps.foldl (fun a kv => if kv.1 = x then kv.2 else a) (-1)
theorem lkp_nil (x : Int) : lkp [] x = -1 := rfl
theorem lkp_snoc (ps : List (Int × Int)) (k v x : Int) : lkp (ps ++ [(k, v)]) x = if k = x then v else lkp ps x := by
  unfold lkp; rw [List.foldl_append]; rfl
theorem foldl_no (x : Int) : ∀ (ps : List (Int × Int)) (a : Int), x ∉ ps.map (·.1) → ps.foldl (fun a kv => if kv.1 = x then kv.2 else a) a = a
  | [], _, _ => rfl
  | kv :: ps, a, h => by
    simp only [List.map_cons, List.mem_cons, not_or] at h
    rw [List.foldl_cons, if_neg (fun e => h.1 e.symm)]
    exact foldl_no x ps a h.2
theorem lkp_no {ps : List (Int × Int)} {x : Int} (h : x ∉ ps.map (·.1)) : lkp ps x = -1 := foldl_no x ps _ h
theorem foldl_in (x v : Int) : ∀ (ps : List (Int × Int)) (a : Int), (ps.map (·.1)).Nodup → (x, v) ∈ ps → ps.foldl (fun a kv => if kv.1 = x then kv.2 else a) a = v
  | [], _, _, h => by cases h
  | kv :: ps, a, hn, h => by
    rw [List.map_cons, List.nodup_cons] at hn
    rw [List.foldl_cons]
    rcases List.mem_cons.1 h with e | h
    · rw [← e] at hn ⊢
      rw [if_pos rfl]
      exact foldl_no x ps v hn.1
    · exact foldl_in x v ps _ hn.2 h
theorem lkp_in {ps : List (Int × Int)} {x v : Int} (hn : (ps.map (·.1)).Nodup) (h : (x, v) ∈ ps) : lkp ps x = v := foldl_in x v ps _ hn h
theorem lkp_mem {ps : List (Int × Int)} {x : Int} : x ∈ ps.map (·.1) → ∃ v, (x, v) ∈ ps ∧ lkp ps x = v := by
  suffices h : ∀ (ps : List (Int × Int)) (a : Int), x ∈ ps.map (·.1) → ∃ v, (x, v) ∈ ps ∧ ps.foldl (fun a kv => if kv.1 = x then kv.2 else a) a = v from h ps (-1)
  intro ps
  induction ps with
  | nil => intro a h; cases h
  | cons kv ps ih =>
    intro a h
    rw [List.foldl_cons]
    by_cases e : x ∈ ps.map (·.1)
    · obtain ⟨v, h1, h2⟩ := ih (if kv.1 = x then kv.2 else a) e
      exact ⟨v, by simp [h1], h2⟩
    · rw [foldl_no x ps _ e]
      simp only [List.map_cons, List.mem_cons] at h
      rcases h with h | h
      · subst h
        exact ⟨kv.2, by simp, if_pos rfl⟩
      · exact absurd h e
theorem rowp_len (r : List Int) : (rowp r).length = r.length := by simp [rowp]
theorem rowp_fst (r : List Int) : (rowp r).map (·.1) = r := by
  unfold rowp
  rw [List.map_map]
  exact tab_pat r
theorem prs_fst (l : List (List Int)) : (prs l).map (·.1) = l.flatten := by
  unfold prs
  induction l with
  | nil => rfl
  | cons r l ih => rw [List.flatMap_cons, List.map_append, rowp_fst, ih, List.flatten_cons]
theorem rowp_snd (r : List Int) : (rowp r).map (·.2) = r.drop 1 ++ r.take 1 := by
  unfold rowp
  rw [List.map_map]
  refine List.ext_getElem (by simp; omega) fun j h1 h2 => ?_
  simp only [List.length_map, List.length_range] at h1
  simp only [List.getElem_map, List.getElem_range, Function.comp]
  by_cases e : j + 1 < r.length
  · rw [Nat.mod_eq_of_lt e, pat_get e, List.getElem_append_left (by simp; omega), List.getElem_drop]
    congr 1
    omega
  · have e2 : j + 1 = r.length := by omega
    rw [e2, Nat.mod_self, pat_get (by omega), List.getElem_append_right (by simp; omega), List.getElem_take]
    congr 1
    simp
    omega
theorem rowp_perm (r : List Int) : ((rowp r).map (·.2)).Perm r := by
  rw [rowp_snd]
  have h : (r.drop 1 ++ r.take 1).Perm (r.take 1 ++ r.drop 1) := List.perm_append_comm
  rwa [List.take_append_drop] at h
theorem prs_perm (l : List (List Int)) : ((prs l).map (·.2)).Perm l.flatten := by
  unfold prs
  induction l with
  | nil => exact List.Perm.refl _
  | cons r l ih =>
    rw [List.flatMap_cons, List.map_append, List.flatten_cons]
    exact (rowp_perm r).append ih
/-- What an order is, as a list. -/
theorem permB_nodup {p : List Int} (h : permB p = true) : p.Nodup := by
  unfold permB at h
  simp only [Bool.and_eq_true] at h
  have := nodup_take (p := p) p.length (Nat.le_refl _) fun k hk => ((pokc_iff p p.length).1 h.2 k hk).2.2
  rwa [List.take_length] at this
theorem permB_mem {p : List Int} (h : permB p = true) {x : Int} : x ∈ p ↔ 0 ≤ x ∧ x < p.length := by
  constructor
  · intro hx
    obtain ⟨i, hi, rfl⟩ := List.mem_iff_getElem.1 hx
    rw [← pat_get hi]
    exact permB_range h hi
  · rintro ⟨h1, h2⟩
    unfold permB at h
    simp only [Bool.and_eq_true, permB_eq] at h
    have := (dokc_iff p p.length).1 h.2 x.toNat (by omega)
    rw [show ((x.toNat : Nat) : Int) = x by omega] at this
    exact List.count_pos_iff.1 (by omega)
theorem permB_of_perm {p r : List Int} (h : permB p = true) (hp : r.Perm p) : permB r = true := by
  unfold permB at h ⊢
  simp only [Bool.and_eq_true, permB_eq, decide_eq_true_eq] at h ⊢
  rw [hp.length_eq]
  refine ⟨h.1, (dokc_iff r p.length).2 fun k hk => ?_⟩
  rw [hp.count_eq]
  exact (dokc_iff p p.length).1 h.2 k hk
/-- The order of some rounds. -/
def outR (l : List (List Int)) : List Int := tab (fun (k : Nat) => lkp (prs l) (k : Int)) l.flatten.length
def backR (l : List (List Int)) : List Int × Int := if permB l.flatten = true then (outR l, 0) else ([], 1)
theorem outR_len (l : List (List Int)) : (outR l).length = l.flatten.length := tab_len _ _
theorem outR_perm {l : List (List Int)} (h : permB l.flatten = true) : permB (outR l) = true := by
  refine permB_of_perm h ?_
  have hk : (List.range l.flatten.length).map (fun (k : Nat) => (k : Int)) |>.Perm l.flatten := by
    refine (List.perm_ext_iff_of_nodup ?_ (permB_nodup h)).2 fun x => ?_
    · rw [List.nodup_iff_pairwise_ne]
      exact List.pairwise_map.2 ((List.pairwise_lt_range).imp fun {a b} hab e => by omega)
    · rw [permB_mem h, List.mem_map]
      constructor
      · rintro ⟨k, hk, rfl⟩
        have := List.mem_range.1 hk
        omega
      · rintro ⟨h1, h2⟩
        exact ⟨x.toNat, List.mem_range.2 (by omega), by omega⟩
  have e1 : outR l = ((List.range l.flatten.length).map (fun (k : Nat) => (k : Int))).map (lkp (prs l)) := by
    unfold outR tab; rw [List.map_map]; rfl
  have e2 : l.flatten.map (lkp (prs l)) = (prs l).map (·.2) := by
    conv => lhs; rw [← prs_fst l]
    rw [List.map_map]
    refine List.map_congr_left fun kv hkv => ?_
    exact lkp_in (by rw [prs_fst]; exact permB_nodup h) hkv
  rw [e1]
  refine (hk.map _).trans ?_
  rw [e2]
  exact prs_perm l

/-- An order as a function. -/
def qf (p : List Int) : Nat → Nat := fun k => (pat p k).toNat
theorem qf_cast {p : List Int} (h : permB p = true) {k : Nat} (hk : k < p.length) : ((qf p k : Nat) : Int) = pat p k := by
  have := permB_range h hk
  unfold qf; omega
theorem permF_of {p : List Int} (h : permB p = true) : PermF (qf p) p.length where
  lt := fun k hk => by have := permB_range h hk; unfold qf; omega
  inj := fun i k hi hk e => by
    have h1 := permB_range h hi
    have h2 := permB_range h hk
    unfold qf at e
    have e2 : pat p i = pat p k := by omega
    refine Classical.byContradiction fun hne => ?_
    rcases Nat.lt_or_gt_of_ne hne with hlt | hlt
    · exact permB_inj h hlt hk e2
    · exact permB_inj h hlt hi e2.symm

/-- Rows as they are made: a greater one than all ahead begins a row. -/
def recS (st : List (List Int) × Int) (x : Int) : List (List Int) × Int :=
  if st.2 < x then (st.1 ++ [[x]], x) else (st.1.dropLast ++ [st.1.getLastD [] ++ [x]], st.2)
def recR (f : List Int) (j : Nat) : List (List Int) × Int := (f.take j).foldl recS ([], -1)
theorem recR_zero (f : List Int) : recR f 0 = ([], -1) := rfl
theorem recR_succ {f : List Int} {j : Nat} (hj : j < f.length) : recR f (j + 1) = recS (recR f j) (pat f j) := by
  unfold recR
  rw [pat_take hj, List.foldl_append]
  rfl
theorem recR_new {f : List Int} {j : Nat} (hj : j < f.length) (h : (recR f j).2 < pat f j) : recR f (j + 1) = ((recR f j).1 ++ [[pat f j]], pat f j) := by
  rw [recR_succ hj]; unfold recS; rw [if_pos h]
theorem recR_old {f : List Int} {j : Nat} (hj : j < f.length) (h : ¬ (recR f j).2 < pat f j) : recR f (j + 1) = ((recR f j).1.dropLast ++ [(recR f j).1.getLastD [] ++ [pat f j]], (recR f j).2) := by
  rw [recR_succ hj]; unfold recS; rw [if_neg h]
/-- The first number of a row. -/
def hdI (r : List Int) : Int := r.headD (-1)
/-- What the rows are, on the way. -/
structure RecI (l : List (List Int)) (m : Int) (g : List Int) : Prop where
  flat : l.flatten = g
  rise : l.Pairwise fun a b => hdI a < hdI b
  most : ∀ r ∈ l, r ≠ [] ∧ (∀ x ∈ r, x ≤ hdI r) ∧ hdI r ≤ m
  last : ∀ l0 r, l = l0 ++ [r] → hdI r = m
  none : l = [] → m = -1
theorem recI_is {f : List Int} (hf : ∀ x ∈ f, 0 ≤ x) : ∀ j, j ≤ f.length → RecI (recR f j).1 (recR f j).2 (f.take j)
  | 0, _ => {
      flat := rfl
      rise := List.Pairwise.nil
      most := fun r hr => by cases hr
      last := fun l0 r e => absurd (show l0 ++ [r] = [] from e.symm) (by simp)
      none := fun _ => rfl }
  | j + 1, hj => by
    have ih := recI_is hf j (by omega)
    have hlt : j < f.length := hj
    rw [pat_take hlt]
    by_cases hc : (recR f j).2 < pat f j
    · rw [recR_new hlt hc]
      refine ⟨by rw [List.flatten_append, ih.flat]; rfl, ?_, ?_, ?_, ?_⟩
      · refine List.pairwise_append.2 ⟨ih.rise, List.pairwise_singleton _ _, fun a ha b hb => ?_⟩
        rw [List.mem_singleton.1 hb]
        have := (ih.most a ha).2.2
        show hdI a < pat f j
        omega
      · intro r hr
        rcases List.mem_append.1 hr with hr | hr
        · obtain ⟨h1, h2, h3⟩ := ih.most r hr
          exact ⟨h1, h2, by show hdI r ≤ pat f j; omega⟩
        · rw [List.mem_singleton.1 hr]
          exact ⟨by simp, fun x hx => by rw [List.mem_singleton.1 hx]; exact Int.le_refl _, Int.le_refl _⟩
      · intro l0 r e
        have := List.append_inj_right' e rfl
        simp at this
        rw [← this]
        rfl
      · intro e; simp at e
    · rw [recR_old hlt hc]
      generalize (recR f j).1 = l at *
      generalize (recR f j).2 = m at *
      have hne : l ≠ [] := fun e => by
        have h1 := ih.none e
        have h2 := hf (pat f j) (by rw [pat_get hlt]; exact List.getElem_mem hlt)
        omega
      obtain ⟨l0, r, rfl⟩ : ∃ l0 r, l = l0 ++ [r] := ⟨l.dropLast, l.getLast hne, (List.dropLast_concat_getLast hne).symm⟩
      have eD : (l0 ++ [r]).dropLast = l0 := by simp
      have eL : (l0 ++ [r]).getLastD [] = r := by simp [List.getLastD_eq_getLast?]
      rw [eD, eL]
      obtain ⟨h1, h2, h3⟩ := ih.most r (by simp)
      have hm := ih.last l0 r rfl
      have hh : hdI (r ++ [pat f j]) = hdI r := by
        obtain ⟨y, r', rfl⟩ := List.exists_cons_of_ne_nil h1
        rfl
      refine ⟨?_, ?_, ?_, ?_, ?_⟩
      · rw [← ih.flat]; simp
      · have := List.pairwise_append.1 ih.rise
        refine List.pairwise_append.2 ⟨this.1, List.pairwise_singleton _ _, fun a ha b hb => ?_⟩
        rw [List.mem_singleton.1 hb, hh]
        exact this.2.2 a ha r (by simp)
      · intro r2 hr
        rcases List.mem_append.1 hr with hr | hr
        · exact ih.most r2 (by simp [hr])
        · rw [List.mem_singleton.1 hr, hh]
          refine ⟨by simp, fun x hx => ?_, h3⟩
          rcases List.mem_append.1 hx with hx | hx
          · exact h2 x hx
          · rw [List.mem_singleton.1 hx]; omega
      · intro l1 r1 e
        have := List.append_inj_right' e rfl
        simp at this
        rw [← this, hh]
        exact hm
      · intro e; simp at e
/-- ROUND: the order made of the rows has them for its rounds. -/
theorem round_flat {l : List (List Int)} {m : Int} {f : List Int} (hi : RecI l m f) (hf : permB f = true) :
    (flatT (qf (outR l)) f.length f.length).map (fun (k : Nat) => (k : Int)) = f := by
  have hfl : permB l.flatten = true := by rw [hi.flat]; exact hf
  have hop := outR_perm hfl
  have hlen : (outR l).length = f.length := by rw [outR_len, hi.flat]
  have hP := permF_of hop
  rw [hlen] at hP
  have hcast : ∀ k : Nat, k < f.length → ((qf (outR l) k : Nat) : Int) = lkp (prs l) (k : Int) := fun k hk => by
    rw [qf_cast hop (by omega)]
    unfold outR
    exact pat_tab (by rw [hi.flat]; exact hk)
  have hnd : ((prs l).map (·.1)).Nodup := by rw [prs_fst]; exact permB_nodup hfl
  have hmem : ∀ r ∈ l, ∀ x ∈ r, 0 ≤ x ∧ x < f.length := fun r hr x hx => (permB_mem hf).1 (by rw [← hi.flat]; exact List.mem_flatten.2 ⟨r, hr, hx⟩)
  have hstep : ∀ r ∈ l, ∀ j, j < r.length → qf (outR l) (pat r j).toNat = (pat r ((j + 1) % r.length)).toNat := by
    intro r hr j hj
    have h1 := hmem r hr (pat r j) (by rw [pat_get hj]; exact List.getElem_mem hj)
    have h2 : (pat r j, pat r ((j + 1) % r.length)) ∈ prs l := List.mem_flatMap.2 ⟨r, hr, List.mem_map.2 ⟨j, List.mem_range.2 hj, rfl⟩⟩
    have h3 := hcast (pat r j).toNat (by omega)
    rw [show (((pat r j).toNat : Nat) : Int) = pat r j by omega, lkp_in hnd h2] at h3
    omega
  have hit : ∀ r ∈ l, ∀ j, it (qf (outR l)) j (pat r 0).toNat = (pat r (j % r.length)).toNat := by
    intro r hr j
    have hp : 0 < r.length := List.length_pos_iff.2 (hi.most r hr).1
    induction j with
    | zero => rw [it_zero, Nat.zero_mod]
    | succ j ih =>
      rw [it_succ, ih, hstep r hr _ (Nat.mod_lt _ hp)]
      congr 2
      rw [Nat.add_mod, Nat.mod_mod, ← Nat.add_mod]
  have hcyc : ∀ r ∈ l, cyc (qf (outR l)) f.length (pat r 0).toNat = r.map Int.toNat ∧ (pat r 0).toNat < f.length ∧ Top (qf (outR l)) (pat r 0).toNat := by
    intro r hr
    have hp : 0 < r.length := List.length_pos_iff.2 (hi.most r hr).1
    have h0 := hmem r hr (pat r 0) (by rw [pat_get hp]; exact List.getElem_mem hp)
    have hlt : (pat r 0).toNat < f.length := by omega
    obtain ⟨p1, p2, p3, p4⟩ := per_is hP hlt
    have hrn : r.Nodup := by
      have := permB_nodup hfl
      rw [List.nodup_iff_pairwise_ne, List.pairwise_flatten] at this
      exact List.nodup_iff_pairwise_ne.2 (this.1 r hr)
    have d1 : per (qf (outR l)) f.length (pat r 0).toNat ∣ r.length := by
      rw [← it_back hP hlt, hit r hr, Nat.mod_self]
    have d2 : r.length ∣ per (qf (outR l)) f.length (pat r 0).toNat := by
      rw [hit r hr] at p3
      refine Nat.dvd_of_mod_eq_zero ?_
      generalize hx : per (qf (outR l)) f.length (pat r 0).toNat % r.length = x at p3
      have hxl : x < r.length := by rw [← hx]; exact Nat.mod_lt _ hp
      have h1 := hmem r hr (pat r x) (by rw [pat_get hxl]; exact List.getElem_mem hxl)
      have h2 : pat r x = pat r 0 := by omega
      rw [pat_get hxl, pat_get hp] at h2
      exact (List.getElem_inj hrn).1 h2
    have hper := Nat.dvd_antisymm d1 d2
    refine ⟨?_, hlt, ?_⟩
    · refine List.ext_getElem (by rw [cyc_len, hper, List.length_map]) fun j h1 h2 => ?_
      rw [cyc_get, hit r hr, List.getElem_map]
      rw [cyc_len, hper] at h1
      rw [Nat.mod_eq_of_lt h1, pat_get h1]
    · rintro x ⟨j, rfl⟩
      rw [hit r hr]
      have hxl := Nat.mod_lt j hp
      have h1 := (hi.most r hr).2.1 (pat r (j % r.length)) (by rw [pat_get hxl]; exact List.getElem_mem hxl)
      have h2 : hdI r = pat r 0 := by
        obtain ⟨y, r', rfl⟩ := List.exists_cons_of_ne_nil (hi.most r hr).1
        rfl
      omega
  have hrise : Rise (l.map fun r => r.map Int.toNat) := by
    refine List.pairwise_map.2 (hi.rise.imp_of_mem ?_)
    intro a b ha hb hab
    have ea : hd (a.map Int.toNat) = (hdI a).toNat := by
      obtain ⟨y, r', rfl⟩ := List.exists_cons_of_ne_nil (hi.most a ha).1
      rfl
    have eb : hd (b.map Int.toNat) = (hdI b).toNat := by
      obtain ⟨y, r', rfl⟩ := List.exists_cons_of_ne_nil (hi.most b hb).1
      rfl
    have h0 : 0 ≤ hdI a := by
      obtain ⟨y, r', rfl⟩ := List.exists_cons_of_ne_nil (hi.most a ha).1
      exact (hmem _ ha y (by simp)).1
    rw [ea, eb]
    omega
  have hT : tops (qf (outR l)) f.length f.length = l.map fun r => r.map Int.toNat := by
    refine rise_eq (rise_tops hP f.length (Nat.le_refl _)) hrise fun r => ?_
    rw [mem_tops hP r f.length (Nat.le_refl _)]
    constructor
    · rintro ⟨k, _, hk, ht, rfl⟩
      have hkf : ((k : Nat) : Int) ∈ l.flatten := by rw [hi.flat]; exact (permB_mem hf).2 (by omega)
      obtain ⟨r0, hr0, hx⟩ := List.mem_flatten.1 hkf
      obtain ⟨c1, c2, c3⟩ := hcyc r0 hr0
      obtain ⟨i, hi2, e⟩ := List.mem_iff_getElem.1 hx
      have hrel : Rel (qf (outR l)) (pat r0 0).toNat k := ⟨i, by rw [hit r0 hr0, Nat.mod_eq_of_lt hi2, pat_get hi2, e]; omega⟩
      have e1 := c3 k hrel
      have e2 := ht _ (hrel.symm hP c2)
      have e3 : k = (pat r0 0).toNat := by omega
      rw [e3, c1]
      exact List.mem_map.2 ⟨r0, hr0, rfl⟩
    · intro hr
      obtain ⟨r0, hr0, rfl⟩ := List.mem_map.1 hr
      obtain ⟨c1, c2, c3⟩ := hcyc r0 hr0
      exact ⟨_, by omega, c2, c3, c1.symm⟩
  unfold flatT
  rw [hT, ← List.map_flatten, hi.flat, List.map_map]
  conv => rhs; rw [← List.map_id f]
  refine List.map_congr_left fun x hx => ?_
  have := (permB_mem hf).1 hx
  show ((x.toNat : Nat) : Int) = x
  omega
end Go.Proofs.Ytkffakekakhgdaa
