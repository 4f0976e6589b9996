/- A region that draws its order: loads beside what makes memory, and stores that wait for the loads: walked once. Nothing of the program's own functions. No condition. -/
import Derived.Test.YtkffakekakhgdaaBase2
import Derived.StillTail
import Derived.OrdersHeld
import Derived.Deep.RegionHeld3
namespace Go.Proofs.Ytkffakekakhgdaa
open Go.ChangeShapes Go.WideShapes Go.ChangeAt Go.RowKit

section
variable {P : Program} {ops : Array Oper} {Q : Exit → Act → World → Prop} {md : Region.Mode} {S : World → Prop} {R : List Nat}

/-- Has one of the operations R come up? -/
def anyOf (R : List Nat) (listed : Array Bool) : Bool := R.any fun r => listed.getD r false
/-- Whatever order is picked from here on; and S holds behind each operation, as long as none of R has come up. -/
def wpAnyG (P : Program) (md : Region.Mode) (ops : Array Oper) (Q : Exit → Act → World → Prop) (S : World → Prop) (R : List Nat) : Nat → Array Bool → Act → World → Prop
  | 0, listed, a, w => Region.ready md ops listed = [] ∧ Q .normal a w
  | f + 1, listed, a, w => (Region.ready md ops listed = [] → Q .normal a w) ∧
    ∀ i ∈ Region.ready md ops listed, wpOp P ops Q i (fun a' w' => (anyOf R (listed.setIfInBounds i true) = false → S w') ∧ wpAnyG P md ops Q S R f (listed.setIfInBounds i true) a' w') a w

theorem wpAny_of_g : ∀ (f : Nat) (listed : Array Bool) (a : Act) (w : World), wpAnyG P md ops Q S R f listed a w → wpAny P md ops Q f listed a w
  | 0, _, _, _, h => h
  | f + 1, _, _, _, h => ⟨h.1, fun i hi => wpOp_mono (fun a' w' h' => wpAny_of_g f _ a' w' h'.2) (h.2 i hi)⟩

theorem anyOf_set {listed : Array Bool} {i : Nat} (h : i ∉ R) : anyOf R (listed.setIfInBounds i true) = anyOf R listed := by
  unfold anyOf
  rw [Bool.eq_iff_iff, List.any_eq_true, List.any_eq_true]
  constructor
  · rintro ⟨r, hr, hl⟩
    have hne : i ≠ r := fun e => h (by rw [e]; exact hr)
    exact ⟨r, hr, by rwa [getD_set_ne false hne] at hl⟩
  · rintro ⟨r, hr, hl⟩
    have hne : i ≠ r := fun e => h (by rw [e]; exact hr)
    exact ⟨r, hr, by rwa [getD_set_ne false hne]⟩

/-- An operation that may come up now may be taken first: T says in which worlds it yields, inv why the world at hand is such a one till it comes. -/
theorem wpAnyG_first {i : Nat} {oi : Oper} {v : Value} {T : World → Prop} {inv : Array Bool → Prop} (hi : ops[i]? = some oi) (hsel : ∀ (j : Nat) (o : Oper) cs b, ops[j]? = some o → o.op ≠ .select cs b)
    (hQ : ∀ c a w, Q (.panic c) (a.put oi.dst v) w → Q (.panic c) a w) (hiR : i ∉ R)
    (hinv : ∀ listed j, inv listed → i ∈ Region.ready md ops listed → j ∈ Region.ready md ops listed → j ≠ i → inv (listed.setIfInBounds j true))
    (hT : ∀ listed w, inv listed → (anyOf R listed = false → S w) → T w) :
    ∀ (f : Nat) (listed : Array Bool) (a : Act) (w : World), inv listed →
      (∀ j oj, ops[j]? = some oj → j ≠ i → listed.getD j true = false → (∀ e ∈ oj.after, Region.binds md e = true → e.on ≠ i) → oi.apart ops oj = true) →
      i ∈ Region.ready md ops listed → YieldsIf P ops T oi v a → (anyOf R listed = false → S w) →
      wpAnyG P md ops Q S R f (listed.setIfInBounds i true) (a.put oi.dst v) w → wpAnyG P md ops Q S R (f + 1) listed a w := by
  intro f
  induction f with
  | zero =>
    intro listed a w hv _ hr hy hS H
    refine ⟨fun h => (by rw [h] at hr; cases hr), fun j hj => ?_⟩
    by_cases hji : j = i
    · subst hji; exact hy.wpOp hi (hT _ _ hv hS) ⟨fun h => hS (by rwa [anyOf_set hiR] at h), H⟩
    · have := ready_mono hj hji
      rw [H.1] at this
      cases this
  | succ f ih =>
    intro listed a w hv hfree hr hy hS H
    refine ⟨fun h => (by rw [h] at hr; cases hr), fun j hj => ?_⟩
    by_cases hji : j = i
    · subst hji; exact hy.wpOp hi (hT _ _ hv hS) ⟨fun h => hS (by rwa [anyOf_set hiR] at h), H⟩
    · have h1 := H.2 j (ready_mono hj hji)
      obtain ⟨hjun, oj, hoj, hall⟩ := mem_ready.1 hj
      have hun := (mem_ready.1 hr).1
      have hnot : ∀ e ∈ oj.after, Region.binds md e = true → e.on ≠ i := fun e he hb heq => by
        have h1 := hall e he hb
        rw [heq, getD_both hun] at h1
        cases h1
      have h2 := wpOp_putIf hoj (hfree j oj hoj hji hjun hnot) (fun cs b => hsel i oi cs b hi) (fun cs b => hsel j oj cs b hoj) hQ hy h1
      have hfree' : ∀ k ok, ops[k]? = some ok → k ≠ i → (listed.setIfInBounds j true).getD k true = false →
          (∀ e ∈ ok.after, Region.binds md e = true → e.on ≠ i) → oi.apart ops ok = true := fun k ok hk hki hun hno => by
        refine hfree k ok hk hki ?_ hno
        by_cases hjk : j = k
        · subst hjk; exact hjun
        · rw [getD_set_ne true hjk] at hun; exact hun
      have hset : anyOf R ((listed.setIfInBounds i true).setIfInBounds j true) = anyOf R (listed.setIfInBounds j true) := by
        rw [Array.setIfInBounds_comm _ _ (Ne.symm hji), anyOf_set hiR]
      refine wpOp_mono (fun a' w' h3 => ?_) h2
      have h4 : anyOf R (listed.setIfInBounds j true) = false → S w' := fun h => h3.2.1 (by rw [hset]; exact h)
      refine ⟨h4, ih (listed.setIfInBounds j true) a' w' (hinv _ _ hv hr hj hji) hfree' (ready_mono hr (Ne.symm hji)) h3.1 h4 ?_⟩
      rw [Array.setIfInBounds_comm _ _ hji]
      exact h3.2.2

/-- A plan: each operation with its kind: 0: it yields in every world; 1: in every world that meets S; 2: it may change the world, S holds behind it; 3: it is one of R. -/
def wpPlan (P : Program) (ops : Array Oper) (Q : Exit → Act → World → Prop) (S : World → Prop) : List (Nat × Nat) → Act → World → Prop
  | [], a, w => Q .normal a w
  | (k, 0) :: ks, a, w => ∃ o v, ops[k]? = some o ∧ YieldsIf P ops (fun _ => True) o v a ∧ wpPlan P ops Q S ks (a.put o.dst v) w
  | (k, 1) :: ks, a, w => ∃ o v, ops[k]? = some o ∧ YieldsIf P ops S o v a ∧ wpPlan P ops Q S ks (a.put o.dst v) w
  | (k, 2) :: ks, a, w => wpOp P ops Q k (fun a' w' => S w' ∧ wpPlan P ops Q S ks a' w') a w
  | (k, _) :: ks, a, w => wpOp P ops Q k (fun a' w' => wpPlan P ops Q S ks a' w') a w

def planR (plan : List (Nat × Nat)) : List Nat := (plan.filter fun p => decide (3 ≤ p.2)).map (·.1)
def planB (md : Region.Mode) (ops : Array Oper) (R : List Nat) : List (Nat × Nat) → Array Bool → Bool
  | [], listed => (Region.ready md ops listed).isEmpty
  | (k, 0) :: ks, listed => !R.contains k && (Region.ready md ops listed).contains k && Region.free md ops listed k && planB md ops R ks (listed.setIfInBounds k true)
  | (k, 1) :: ks, listed => !R.contains k && !anyOf R listed && R.all (fun r => Region.waitsFor md ops r k) && (Region.ready md ops listed).contains k && Region.free md ops listed k && planB md ops R ks (listed.setIfInBounds k true)
  | (k, 2) :: ks, listed => !R.contains k && decide (Region.ready md ops listed = [k]) && planB md ops R ks (listed.setIfInBounds k true)
  | (k, _) :: ks, listed => R.contains k && decide (k < listed.size) && decide (Region.ready md ops listed = [k]) && planB md ops R ks (listed.setIfInBounds k true)

theorem wpAnyG_of_plan (hsel : Region.noSelect ops = true) (hQ : ∀ c d v a w, Q (.panic c) (a.put d v) w → Q (.panic c) a w) :
    ∀ (ks : List (Nat × Nat)) (listed : Array Bool) (a : Act) (w : World), planB md ops R ks listed = true → (anyOf R listed = false → S w) → wpPlan P ops Q S ks a w → wpAnyG P md ops Q S R ks.length listed a w
  | [], listed, a, w, hB, _, h => ⟨by simpa [planB] using hB, h⟩
  | (k, 0) :: ks, listed, a, w, hB, hS, h => by
    simp only [planB, Bool.and_eq_true, Bool.not_eq_true'] at hB
    obtain ⟨⟨⟨hk, hr⟩, hf⟩, hB'⟩ := hB
    obtain ⟨o, v, ho, hy, h'⟩ := h
    have hkR : k ∉ R := by simpa using hk
    exact wpAnyG_first (T := fun _ => True) (inv := fun _ => True) ho (Region.noSelect_spec hsel) (fun c a w => hQ c _ _ a w) hkR (fun _ _ _ _ _ _ => trivial) (fun _ _ _ _ => trivial) _ listed a w trivial (Region.free_spec ho hf) (by simpa using hr) hy hS
      (wpAnyG_of_plan hsel hQ ks _ _ w hB' (fun hh => hS (by rwa [anyOf_set hkR] at hh)) h')
  | (k, 1) :: ks, listed, a, w, hB, hS, h => by
    simp only [planB, Bool.and_eq_true, Bool.not_eq_true'] at hB
    obtain ⟨⟨⟨⟨⟨hk, hany⟩, hwait⟩, hr⟩, hf⟩, hB'⟩ := hB
    obtain ⟨o, v, ho, hy, h'⟩ := h
    have hkR : k ∉ R := by simpa using hk
    exact wpAnyG_first (T := S) (inv := fun l => anyOf R l = false) ho (Region.noSelect_spec hsel) (fun c a w => hQ c _ _ a w) hkR (fun l j hl hkr hj hne => by
        have hjR : j ∉ R := fun hjR => by
          obtain ⟨oj, hoj, e, he, hb, hon⟩ := Region.waitsFor_spec (List.all_eq_true.1 hwait j hjR)
          obtain ⟨_, oj', hoj', hall⟩ := mem_ready.1 hj
          have : oj' = oj := Option.some.inj (hoj'.symm.trans hoj)
          subst this
          have h1 := hall e he hb
          rw [hon, getD_both (mem_ready.1 hkr).1] at h1
          cases h1
        rw [anyOf_set hjR]; exact hl) (fun l w' hl hs => hs hl) _ listed a w hany (Region.free_spec ho hf) (by simpa using hr) hy hS
      (wpAnyG_of_plan hsel hQ ks _ _ w hB' (fun hh => hS (by rwa [anyOf_set hkR] at hh)) h')
  | (k, 2) :: ks, listed, a, w, hB, hS, h => by
    simp only [planB, Bool.and_eq_true, Bool.not_eq_true', decide_eq_true_eq] at hB
    obtain ⟨⟨hk, hr⟩, hB'⟩ := hB
    refine ⟨fun h0 => (by rw [h0] at hr; cases hr), fun i hi => ?_⟩
    rw [hr] at hi
    have hik : i = k := by simpa using hi
    subst hik
    exact wpOp_mono (fun a' w' h' => ⟨fun _ => h'.1, wpAnyG_of_plan hsel hQ ks _ a' w' hB' (fun _ => h'.1) h'.2⟩) h
  | (k, n + 3) :: ks, listed, a, w, hB, hS, h => by
    simp only [planB, Bool.and_eq_true, decide_eq_true_eq] at hB
    obtain ⟨⟨⟨hk, hks⟩, hr⟩, hB'⟩ := hB
    refine ⟨fun h0 => (by rw [h0] at hr; cases hr), fun i hi => ?_⟩
    rw [hr] at hi
    have hik : i = k := by simpa using hi
    subst hik
    have hany : anyOf R (listed.setIfInBounds i true) = true := List.any_eq_true.2 ⟨i, by simpa using hk, by simp [hks]⟩
    exact wpOp_mono (fun a' w' h' => ⟨fun h0 => (by rw [hany] at h0; cases h0), wpAnyG_of_plan hsel hQ ks _ a' w' hB' (fun h0 => (by rw [hany] at h0; cases h0)) h'⟩) h

def plannedB (ops : Array Oper) (plan : List (Nat × Nat)) : Bool := Region.noSelect ops && decide (plan.length = ops.size) && planB .any ops (planR plan) plan (Array.replicate ops.size false)

theorem wp_region_plan {id : Nat} {a : Act} {w : World} (plan : List (Nat × Nat)) (S : World → Prop) (hm : P.follows .mixedOrders = true) (hB : plannedB ops plan = true)
    (hQ : ∀ c d v a w, Q (.panic c) (a.put d v) w → Q (.panic c) a w) (hS : S w.drew)
    (h : wpPlan P ops Q S plan a w.drew) : (Code.region id ops true).wp P Q a w := by
  simp only [plannedB, Bool.and_eq_true, decide_eq_true_eq] at hB
  obtain ⟨⟨hsel, hlen⟩, hp⟩ := hB
  have H := wpAny_of_g _ _ _ _ (wpAnyG_of_plan (md := .any) hsel hQ plan _ a w.drew hp (fun _ => hS) h)
  rw [hlen] at H
  exact wp_region_any hm H

theorem planEnd {a : Act} {w : World} (h : Q .normal a w) : wpPlan P ops Q S [] a w := h
variable {l : List Oper}
theorem plan0 {k j : Nat} {ks : List (Nat × Nat)} {a : Act} {w : World} {o : Oper} {v : Value} (ho : l[k]? = some o) (hd : o.dst = some j) (hw : Region.wanted o (yielded l.toArray a.tmps) = true) (hy : ∀ w, (execOp a.eval o).run P w = .ok (.value v) w)
    (h : wpPlan P l.toArray Q S ks { a with tmps := a.tmps.setIfInBounds j v } w) : wpPlan P l.toArray Q S ((k, 0) :: ks) a w := ⟨o, v, by simpa using ho, .inl ⟨hw, fun w _ => hy w⟩, by rw [hd]; exact h⟩
theorem plan1 {k j : Nat} {ks : List (Nat × Nat)} {a : Act} {w : World} {o : Oper} {v : Value} (ho : l[k]? = some o) (hd : o.dst = some j) (hw : Region.wanted o (yielded l.toArray a.tmps) = true) (hy : ∀ w, S w → (execOp a.eval o).run P w = .ok (.value v) w)
    (h : wpPlan P l.toArray Q S ks { a with tmps := a.tmps.setIfInBounds j v } w) : wpPlan P l.toArray Q S ((k, 1) :: ks) a w := ⟨o, v, by simpa using ho, .inl ⟨hw, hy⟩, by rw [hd]; exact h⟩
theorem plan2 {k : Nat} {ks : List (Nat × Nat)} {a : Act} {w : World} {o : Oper} (ho : l[k]? = some o) (hg : o.guard = none)
    (h : ∀ K' : Act → World → Prop, (∀ a' w', S w' → wpPlan P l.toArray Q S ks a' w' → K' a' w') → Oper.wp P o a w K' Q) : wpPlan P l.toArray Q S ((k, 2) :: ks) a w :=
  wpOp_step (show l.toArray[k]? = some o by simpa using ho) fun K' hK => by
    rw [if_pos (by simp [Region.wanted, hg])]
    exact h K' fun a' w' h1 h2 => hK a' w' ⟨h1, h2⟩
theorem plan3 {k : Nat} {ks : List (Nat × Nat)} {a : Act} {w : World} {o : Oper} (ho : l[k]? = some o) (hg : o.guard = none)
    (h : ∀ K' : Act → World → Prop, (∀ a' w', wpPlan P l.toArray Q S ks a' w' → K' a' w') → Oper.wp P o a w K' Q) : wpPlan P l.toArray Q S ((k, 3) :: ks) a w :=
  wpOp_step (show l.toArray[k]? = some o by simpa using ho) fun K' hK => by
    rw [if_pos (by simp [Region.wanted, hg])]
    exact h K' fun a' w' h2 => hK a' w' h2
end
end Go.Proofs.Ytkffakekakhgdaa
