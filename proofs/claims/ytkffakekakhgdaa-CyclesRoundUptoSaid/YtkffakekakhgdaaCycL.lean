/- cycles.Flat, walked. No condition but the list's own size. -/
import Derived.Test.YtkffakekakhgdaaCycK
import Derived.Test.YtkffakekakhgdaaCycF
import Derived.Test.YtkffakekakhgdaaHeld
import Derived.Deep.DeepCutAuto
namespace Go.Proofs.Ytkffakekakhgdaa
open Go.ChangeShapes Go.WideShapes Go.ChangeAt Go.RowKit Go.Sort
set_option linter.unusedVariables false

theorem rows_split {W : World} {base : Nat} : ∀ (vals : List Value) (R : List (List Int)), vals.length = R.length → (∀ (i : Nat) (u : Value) (r : List Int), vals[i]? = some u → R[i]? = some r → Own W base 3 u (r.map (.int .i64))) →
    ∃ L : List Rc, vals = L.map rcV ∧ L.map (·.2.1) = R ∧ ∀ x ∈ L, Own W base 3 (rcV x) (x.2.1.map (.int .i64))
  | [], R, h, _ => by
    obtain rfl : R = [] := List.eq_nil_of_length_eq_zero h.symm
    exact ⟨[], rfl, rfl, fun x hx => by cases hx⟩
  | v :: vals, [], h, _ => by simp at h
  | v :: vals, r :: R, h, ho => by
    obtain ⟨L, h1, h2, h3⟩ := rows_split vals R (by simpa using h) (fun i u r hu hr => ho (i + 1) u r hu hr)
    have h0 := ho 0 v r rfl rfl
    obtain ⟨A, c, e⟩ := own_slice h0
    rw [List.length_map] at e
    refine ⟨(A, r, c) :: L, by rw [h1, e]; rfl, by rw [← h2]; rfl, fun x hx => ?_⟩
    rcases List.mem_cons.1 hx with rfl | hx
    · rw [e] at h0; exact h0
    · exact h3 x hx
theorem RowsO.split {W : World} {base : Nat} {v : Value} {R : List (List Int)} (h : RowsO W base v R) : ∃ L : List Rc, Own W base 36 v (L.map rcV) ∧ L.map (·.2.1) = R ∧ ∀ x ∈ L, Own W base 3 (rcV x) (x.2.1.map (.int .i64)) := by
  obtain ⟨vals, h1, h2, h3⟩ := h
  obtain ⟨L, e1, e2, e3⟩ := rows_split vals R h2 h3
  exact ⟨L, by rw [← e1]; exact h1, e2, e3⟩
theorem RowsO.set {W : World} {base g M c k : Nat} {R : List (List Int)} {nv : Value} {r : List Int} (h : RowsO W base (.slice (some ⟨g, 0, none⟩) M c) R) (hn : Own W base 3 nv (r.map (.int .i64))) :
    RowsO (W.setCell ⟨g, k, none⟩ nv) base (.slice (some ⟨g, 0, none⟩) M c) (R.set k r) := by
  obtain ⟨vals, h1, h2, h3⟩ := h
  have keepI : ∀ {u : Value} {xs : List Value}, Own W base 3 u xs → Own (W.setCell ⟨g, k, none⟩ nv) base 3 u xs := fun {u xs} hu => hu.stand fun b e => by
    refine Go.Deep.blk_setCell_other _ _ _ _ fun e2 => ?_
    have e3 : b = g := e2
    subst e3
    exact hu.ne h1 ints_ne b e rfl
  refine ⟨vals.set k nv, h1.set k nv, by rw [List.length_set, List.length_set, h2], fun i u r' hu hr => ?_⟩
  by_cases e : k = i
  · subst e
    by_cases hk : k < vals.length
    · rw [List.getElem?_set_self hk] at hu
      rw [List.getElem?_set_self (by omega)] at hr
      injection hu with hu
      injection hr with hr
      subst hu
      subst hr
      exact keepI hn
    · rw [List.getElem?_eq_none (by rw [List.length_set]; omega)] at hu
      cases hu
  · rw [List.getElem?_set_ne e] at hu hr
    exact keepI (h3 i u r' hu hr)
theorem seg_pair (w : World) (a b : Value) (t : TypeId) : Seg (w.alloc (.cells #[a, b] t)) (w.alloc (.cells #[a, b] t)).heap.size (some ⟨w.heap.size, 0, none⟩) [a, b] := fun _ => by
  refine ⟨_, rfl, by simp, fun k v hk => ?_⟩
  have e : (⟨w.heap.size, 0, none⟩ : Addr).add k = ⟨w.heap.size, k, none⟩ := by unfold Addr.add; split <;> simp [*]
  rw [e]
  unfold World.cell?
  rw [heap_alloc_new w _]
  simpa using hk
/-- Two rows put together. -/
theorem conc_two (A1 A2 : Option Addr) (xs ys : List Int) (c1 c2 c : Nat) (w : World) (h1 : Seg w w.heap.size A1 (xs.map (.int .i64))) (h2 : Seg w w.heap.size A2 (ys.map (.int .i64))) (hl : xs.length + ys.length ≤ 1000) (n1 n2 : Nat) (e1 : n1 = xs.length) (e2 : n2 = ys.length) (t : TypeId) :
    Calls Try.prog 60 #[.slice (some ⟨w.heap.size, 0, none⟩) 2 c] (w.alloc (.cells #[.slice A1 n1 c1, .slice A2 n2 c2] t)) fun e w' => ∃ v, e = .returned v ∧ Own w' w.heap.size 3 v ((xs ++ ys).map (.int .i64)) ∧ Below w.heap.size (w.alloc (.cells #[.slice A1 n1 c1, .slice A2 n2 c2] t)) w' := by
  subst e1
  subst e2
  have hb : Below w.heap.size w (w.alloc (.cells #[.slice A1 xs.length c1, .slice A2 ys.length c2] t)) := (Below.refl _ _).alloc (Nat.le_refl _) _
  have hs := conc_ints (some ⟨w.heap.size, 0, none⟩) [(A1, xs.map (.int .i64), c1), (A2, ys.map (.int .i64), c2)] c (w.alloc (.cells #[.slice A1 xs.length c1, .slice A2 ys.length c2] t)).heap.size (w.alloc (.cells #[.slice A1 xs.length c1, .slice A2 ys.length c2] t))
    ⟨by have h := seg_pair w (.slice A1 xs.length c1) (.slice A2 ys.length c2) t; simpa [vwV] using h, fun x hx => by
      simp at hx
      rcases hx with rfl | rfl
      · exact ⟨(h1.below hb).more (by simp), ints_cell xs⟩
      · exact ⟨(h2.below hb).more (by simp), ints_cell ys⟩⟩ (Nat.le_refl _) (by simp) (by simp [vlen]; omega)
  refine Calls.mono (show Calls Try.prog 60 #[.slice (some ⟨w.heap.size, 0, none⟩) 2 c] _ _ from hs) ?_
  rintro e w' ⟨v, h3, h4, h5⟩
  refine ⟨v, h3, ?_, h5.mono (by simp)⟩
  have h6 := h4.base (base' := w.heap.size) (by simp)
  simpa [vall] using h6
/-- The rounds, the first so many turned. -/
def mixT (q : Nat → Nat) (n k : Nat) : List (List Int) := ((ofs q n n).take k).map (fun r => NI (turned r)) ++ ((ofs q n n).drop k).map NI
theorem mixT_zero (q : Nat → Nat) (n : Nat) : mixT q n 0 = (ofs q n n).map NI := by simp [mixT]
theorem mixT_len (q : Nat → Nat) (n k : Nat) : (mixT q n k).length = (ofs q n n).length := by simp [mixT]; omega
theorem mixT_at {q : Nat → Nat} {n k : Nat} (hk : k < (ofs q n n).length) : (mixT q n k)[k]'(by rw [mixT_len]; exact hk) = NI ((ofs q n n)[k]) := by
  unfold mixT
  rw [List.getElem_append_right (by simp; omega)]
  simp [Nat.min_eq_left (Nat.le_of_lt hk)]
theorem mixT_set {q : Nat → Nat} {n k : Nat} (hk : k < (ofs q n n).length) : (mixT q n k).set k (NI (turned ((ofs q n n)[k]))) = mixT q n (k + 1) := by
  unfold mixT
  rw [List.set_append_right _ _ (by simp; omega)]
  rw [List.take_succ_eq_append_getElem hk, List.map_append, List.append_assoc]
  congr 1
  rw [List.length_map, List.length_take, Nat.min_eq_left (Nat.le_of_lt hk), Nat.sub_self, List.drop_eq_getElem_cons hk]
  rfl
theorem mixT_all (q : Nat → Nat) (n : Nat) : mixT q n (ofs q n n).length = (ofs q n n).map (fun r => NI (turned r)) := by
  unfold mixT; rw [List.take_length, List.drop_length, List.map_nil, List.append_nil]
theorem vall_flat : ∀ (Y : List Rc), vall (Y.map fun x => ((x.1, x.2.1.map (Value.int .i64), x.2.2) : Vw)) Y.length = ((Y.map (·.2.1)).flatten).map (.int .i64) := by
  intro Y
  have h : ∀ k, k ≤ Y.length → vall (Y.map fun x => ((x.1, x.2.1.map (Value.int .i64), x.2.2) : Vw)) k = (((Y.take k).map (·.2.1)).flatten).map (.int .i64) := by
    intro k
    induction k with
    | zero => intro _; rfl
    | succ k ih =>
      intro hk
      rw [vall, ih (by omega), List.take_succ_eq_append_getElem hk, List.map_append, List.flatten_append, List.map_append]
      congr 1
      rw [List.getD_eq_getElem?_getD, List.getElem?_map, List.getElem?_eq_getElem hk]
      simp
  rw [h Y.length (Nat.le_refl _), List.take_length]
/-- SORTED: what the rows then are. -/
theorem sorted_rows {q : Nat → Nat} {n : Nat} (h : PermF q n) {Y : List Rc} (hp : (Y.map (·.2.1)).Perm ((ofs q n n).map (fun r => NI (turned r)))) (hs : Y.Pairwise (fun a b => pat a.2.1 0 ≤ pat b.2.1 0)) :
    (Y.map (·.2.1)).flatten = NI (flatT q n n) := by
  have hback : ∀ r : List Nat, (NI r).map Int.toNat = r := fun r => by
    unfold NI; rw [List.map_map]
    conv => rhs; rw [← List.map_id r]
    exact List.map_congr_left fun x _ => by simp
  have hnn : ∀ r ∈ Y.map (·.2.1), NI (r.map Int.toNat) = r := fun r hr => by
    obtain ⟨r0, _, rfl⟩ := List.mem_map.1 (hp.mem_iff.1 hr)
    rw [hback]
  have h1 : ((Y.map (·.2.1)).map fun r => r.map Int.toNat).Perm ((ofs q n n).map turned) := by
    have h2 := hp.map (fun r => r.map Int.toNat)
    have e : (fun r : List Int => r.map Int.toNat) ∘ (fun r => NI (turned r)) = turned := funext fun r => hback (turned r)
    have e2 : ((ofs q n n).map (fun r => NI (turned r))).map (fun r => r.map Int.toNat) = (ofs q n n).map turned := by rw [List.map_map, e]
    rwa [e2] at h2
  have h2 : ((Y.map (·.2.1)).map fun r => r.map Int.toNat).Pairwise fun a b => hd a ≤ hd b := by
    rw [List.map_map]
    refine List.pairwise_map.2 (hs.imp ?_)
    intro a b hab
    show hd (a.2.1.map Int.toNat) ≤ hd (b.2.1.map Int.toNat)
    have e : ∀ r : List Int, hd (r.map Int.toNat) = (pat r 0).toNat := fun r => by cases r <;> simp [hd, pat]
    rw [e, e]
    omega
  have h3 := sorted_tops h h1 h2
  unfold flatT
  rw [← h3]
  unfold NI
  rw [List.map_flatten, List.map_map]
  congr 1
  conv => lhs; rw [← List.map_id (Y.map (·.2.1))]
  exact List.map_congr_left fun r hr => (hnn r hr).symm
end Go.Proofs.Ytkffakekakhgdaa
