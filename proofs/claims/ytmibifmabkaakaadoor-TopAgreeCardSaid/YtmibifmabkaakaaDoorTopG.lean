/- The statement TopAgree: plain. No condition. -/
import Derived.Test.YtmibifmabkaakaaDoorFenP
import Derived.Test.YtmibifmabkaakaaDoorPpsT
import Derived.Test.YtmibifmabkaakaaDoorAliK
namespace Go.Proofs.YtmibifmabkaakaaDoor
set_option linter.unusedVariables false

/-- So many summed. -/
def gs (f : Nat → Int) : Nat → Int
  | 0 => 0
  | n + 1 => gs f n + f n
theorem gs_congr {f g : Nat → Int} : ∀ n, (∀ p, p < n → f p = g p) → gs f n = gs g n
  | 0, _ => rfl
  | n + 1, h => by rw [gs, gs, gs_congr n fun p hp => h p (by omega), h n (by omega)]
theorem gs_two {f g : Nat → Int} {a b : Nat} (hab : a ≠ b) (h : ∀ p, p ≠ a → p ≠ b → g p = f p) : ∀ n, gs g n = gs f n + (if a < n then g a - f a else 0) + (if b < n then g b - f b else 0)
  | 0 => by simp [gs]
  | n + 1 => by
    rw [gs, gs, gs_two hab h n]
    by_cases e1 : n = a
    · subst e1
      rw [if_neg (Nat.lt_irrefl _), if_pos (Nat.lt_succ_self _)]
      by_cases e2 : b < n
      · rw [if_pos e2, if_pos (by omega)]; omega
      · rw [if_neg e2, if_neg (by omega)]; omega
    · by_cases e2 : n = b
      · subst e2
        rw [if_neg (Nat.lt_irrefl _), if_pos (Nat.lt_succ_self _)]
        by_cases e3 : a < n
        · rw [if_pos e3, if_pos (by omega)]; omega
        · rw [if_neg e3, if_neg (by omega)]; omega
      · rw [h n e1 e2]
        by_cases e3 : a < n <;> by_cases e4 : b < n
        · rw [if_pos e3, if_pos e4, if_pos (by omega), if_pos (by omega)]; omega
        · rw [if_pos e3, if_neg e4, if_pos (by omega), if_neg (by omega)]; omega
        · rw [if_neg e3, if_pos e4, if_neg (by omega), if_pos (by omega)]; omega
        · rw [if_neg e3, if_neg e4, if_neg (by omega), if_neg (by omega)]; omega
theorem gs_nn {f : Nat → Int} : ∀ n, (∀ p, p < n → 0 ≤ f p) → 0 ≤ gs f n
  | 0, _ => Int.le_refl _
  | n + 1, h => by
    have := gs_nn n fun p hp => h p (by omega)
    have := h n (by omega)
    rw [gs]; omega
theorem gs_np {f : Nat → Int} : ∀ n, (∀ p, p < n → f p ≤ 0) → gs f n ≤ 0
  | 0, _ => Int.le_refl _
  | n + 1, h => by
    have := gs_np n fun p hp => h p (by omega)
    have := h n (by omega)
    rw [gs]; omega
theorem gs_zero_nn {f : Nat → Int} : ∀ n, (∀ p, p < n → 0 ≤ f p) → gs f n = 0 → ∀ p, p < n → f p = 0
  | 0, _, _, p, hp => by omega
  | n + 1, h, h0, p, hp => by
    have h1 := gs_nn n fun p hp => h p (by omega)
    have h2 := h n (by omega)
    rw [gs] at h0
    by_cases e : p = n
    · subst e; omega
    · exact gs_zero_nn n (fun p hp => h p (by omega)) (by omega) p (by omega)
theorem gs_zero_np {f : Nat → Int} : ∀ n, (∀ p, p < n → f p ≤ 0) → gs f n = 0 → ∀ p, p < n → f p = 0
  | 0, _, _, p, hp => by omega
  | n + 1, h, h0, p, hp => by
    have h1 := gs_np n fun p hp => h p (by omega)
    have h2 := h n (by omega)
    rw [gs] at h0
    by_cases e : p = n
    · subst e; omega
    · exact gs_zero_np n (fun p hp => h p (by omega)) (by omega) p (by omega)
theorem gs_pick (f : Nat → Int) (k : Nat) : ∀ n, gs (fun p => if p = k then f p else 0) n = if k < n then f k else 0
  | 0 => by simp [gs]
  | n + 1 => by
    rw [gs, gs_pick f k n]
    by_cases e : n = k
    · subst e; rw [if_neg (Nat.lt_irrefl _), if_pos rfl, if_pos (Nat.lt_succ_self _)]; omega
    · rw [if_neg e]
      by_cases e2 : k < n
      · rw [if_pos e2, if_pos (by omega)]; omega
      · rw [if_neg e2, if_neg (by omega)]; omega

/-- What place p gives to k. -/
def cin (s : AS) (S : Int) (k p : Nat) : Int := (if p = k then (if s.D p = true then s.V p else s.L p) else 0) + (if s.D p = true ∧ s.T p = (k : Int) then S - s.V p else 0)
def off (s : AS) (S : Int) (p : Nat) : Int := if s.D p = true then 0 else s.L p - S
structure AInv (l : List Int) (S : Int) (n : Nat) (s : AS) : Prop where
  c : ∀ k, k < n → gs (cin s S k) n = pat l k * n
  o : gs (off s S) n = 0
  d : ∀ p, p < n → s.D p = true → 0 ≤ s.V p ∧ s.V p ≤ S ∧ 0 ≤ s.T p ∧ s.T p < n
  u : ∀ p, p < n → s.D p = false → s.V p = S ∧ s.T p = p
  l : ∀ p, p < n → 0 ≤ s.L p
theorem gs_start (l : List Int) (n : Nat) (S : Int) : ∀ j, gs (fun p => pat l p * n - S) j = asum l j * n - j * S
  | 0 => by simp [gs, asum]
  | j + 1 => by
    rw [gs, gs_start l n S j, asum, Int.add_mul, Int.natCast_succ, Int.add_mul]; omega
theorem ainv_start {l : List Int} {n : Nat} (h : ∀ p, p < n → 0 ≤ pat l p) : AInv l (asum l n) n (AS.start l n (asum l n)) where
  c := fun k hk => by
    have e : gs (cin (AS.start l n (asum l n)) (asum l n) k) n = gs (fun p => if p = k then pat l p * n else 0) n := gs_congr n fun p _ => by
      unfold cin AS.start
      simp
    rw [e, gs_pick (fun p => pat l p * n) k n, if_pos hk]
  o := by
    have e : gs (off (AS.start l n (asum l n)) (asum l n)) n = gs (fun p => pat l p * n - asum l n) n := gs_congr n fun p _ => by
      unfold off AS.start
      simp
    rw [e, gs_start, Int.mul_comm]; omega
  d := fun p _ hd => by simp [AS.start] at hd
  u := fun p _ _ => ⟨rfl, rfl⟩
  l := fun p hp => Int.mul_nonneg (h p hp) (by omega)
theorem step_D (s : AS) (S : Int) (a b p : Nat) : (s.step S a b).D p = if p = a then true else s.D p := rfl
theorem step_L (s : AS) (S : Int) (a b p : Nat) : (s.step S a b).L p = if p = b then s.L b - (S - s.L a) else s.L p := rfl
theorem step_V (s : AS) (S : Int) (a b p : Nat) : (s.step S a b).V p = if p = a then s.L a else s.V p := rfl
theorem step_T (s : AS) (S : Int) (a b p : Nat) : (s.step S a b).T p = if p = a then (b : Int) else s.T p := rfl
theorem ainv_step {l : List Int} {n : Nat} {S : Int} {s : AS} {a b : Nat} (h : AInv l S n s) (ha : a < n) (hb : b < n) (da : s.D a = false) (db : s.D b = false) (la : s.L a < S) (lb : S < s.L b) : AInv l S n (s.step S a b) := by
  have hab : a ≠ b := fun e => by subst e; omega
  have hla := h.l a ha
  refine ⟨fun k hk => ?_, ?_, fun p hp hd => ?_, fun p hp hd => ?_, fun p hp => ?_⟩
  · rw [← h.c k hk]
    have hx := gs_two (f := cin s S k) (g := cin (s.step S a b) S k) hab (fun p h1 h2 => by
      unfold cin; rw [step_D, step_L, step_V, step_T, if_neg h1, if_neg h2, if_neg h1, if_neg h1]) n
    rw [hx, if_pos ha, if_pos hb]
    have e1 : cin (s.step S a b) S k a - cin s S k a = if b = k then S - s.L a else 0 := by
      unfold cin
      rw [step_D, step_L, step_V, step_T, if_pos rfl, if_neg hab, if_pos rfl, if_pos rfl, da]
      by_cases e : b = k
      · subst e
        simp [hab]
      · have e' : ¬ (b : Int) = (k : Int) := by omega
        simp [e, e']
    have e2 : cin (s.step S a b) S k b - cin s S k b = if b = k then - (S - s.L a) else 0 := by
      unfold cin
      rw [step_D, step_L, step_V, step_T, if_neg (Ne.symm hab), if_pos rfl, if_neg (Ne.symm hab), if_neg (Ne.symm hab), db]
      by_cases e : b = k
      · subst e
        simp
        omega
      · simp [e]
    rw [e1, e2]
    split <;> omega
  · rw [← h.o]
    have hx := gs_two (f := off s S) (g := off (s.step S a b) S) hab (fun p h1 h2 => by
      unfold off; rw [step_D, step_L, if_neg h1, if_neg h2]) n
    rw [hx, if_pos ha, if_pos hb]
    have e1 : off (s.step S a b) S a - off s S a = S - s.L a := by
      unfold off; rw [step_D, if_pos rfl, da]; simp; omega
    have e2 : off (s.step S a b) S b - off s S b = - (S - s.L a) := by
      unfold off; rw [step_D, step_L, if_neg (Ne.symm hab), if_pos rfl, db]; simp; omega
    rw [e1, e2]; omega
  · rw [step_D] at hd
    rw [step_V, step_T]
    by_cases e : p = a
    · rw [if_pos e, if_pos e]; omega
    · rw [if_neg e] at hd ⊢
      rw [if_neg e]
      exact h.d p hp hd
  · rw [step_D] at hd
    rw [step_V, step_T]
    by_cases e : p = a
    · rw [if_pos e] at hd; cases hd
    · rw [if_neg e] at hd ⊢
      rw [if_neg e]
      exact h.u p hp hd
  · rw [step_L]
    split
    · omega
    · exact h.l p hp
theorem low_is {s : AS} {S : Int} {k : Nat} (h : s.low S k = true) : s.D k = false ∧ s.L k < S := by
  unfold AS.low at h
  simp only [Bool.and_eq_true, decide_eq_true_eq, Bool.not_eq_true'] at h
  exact h
theorem high_is {s : AS} {S : Int} {k : Nat} (h : s.high S k = true) : s.D k = false ∧ S < s.L k := by
  unfold AS.high at h
  simp only [Bool.and_eq_true, decide_eq_true_eq, Bool.not_eq_true'] at h
  exact h
theorem ainv_run {l : List Int} {n : Nat} {S : Int} : ∀ (f : Nat) (s : AS), AInv l S n s → n ≤ f + s.cnt n →
    AInv l S n (AS.run S n f s) ∧ (lowf ((AS.run S n f s).low S) n < 0 ∨ lowf ((AS.run S n f s).high S) n < 0)
  | 0, s, h, hf => by
    refine ⟨h, Or.inl ?_⟩
    show lowf (s.low S) n < 0
    rw [lowf_none n fun k hk => ?_]
    · decide
    · cases e : s.low S k with
      | false => rfl
      | true =>
        have := AS.cnt_lt (low_is e).1 n hk
        omega
  | f + 1, s, h, hf => by
    by_cases hs : lowf (s.low S) n < 0 ∨ lowf (s.high S) n < 0
    · rw [AS.run_stop hs]
      exact ⟨h, hs⟩
    · obtain ⟨a, ha⟩ : ∃ a : Nat, lowf (s.low S) n = (a : Nat) := ⟨(lowf (s.low S) n).toNat, by omega⟩
      obtain ⟨b, hb⟩ : ∃ b : Nat, lowf (s.high S) n = (b : Nat) := ⟨(lowf (s.high S) n).toNat, by omega⟩
      obtain ⟨a1, a2⟩ := lowf_is n a ha
      obtain ⟨b1, b2⟩ := lowf_is n b hb
      obtain ⟨a3, a4⟩ := low_is a2
      obtain ⟨b3, b4⟩ := high_is b2
      rw [AS.run_next ha hb]
      refine ainv_run f _ (ainv_step h a1 b1 a3 b3 a4 b4) ?_
      have := AS.cnt_step (S := S) (b := b) a3 n
      rw [if_pos a1] at this
      omega
/-- Whom a place and a level draw. -/
def dv (V T : Nat → Int) (p : Nat) (v : Int) : Int := if v < V p then (p : Int) else T p
def c1 (V T : Nat → Int) (k p : Nat) : Nat → Int
  | 0 => 0
  | v + 1 => c1 V T k p v + if dv V T p (v : Int) = (k : Int) then 1 else 0
theorem c1_is (V T : Nat → Int) (k p : Nat) (h0 : 0 ≤ V p) : ∀ v : Nat, c1 V T k p v = (if p = k then min (v : Int) (V p) else 0) + (if T p = (k : Int) then (v : Int) - min (v : Int) (V p) else 0)
  | 0 => by
    rw [c1]
    have : min ((0 : Nat) : Int) (V p) = 0 := by omega
    rw [this]; simp
  | v + 1 => by
    rw [c1, c1_is V T k p h0 v]
    unfold dv
    by_cases e : (v : Int) < V p
    · rw [if_pos e, show min (v : Int) (V p) = v by omega, show min ((v + 1 : Nat) : Int) (V p) = (v : Int) + 1 by omega]
      by_cases e2 : p = k
      · subst e2; rw [if_pos rfl, if_pos rfl, if_pos rfl]; split <;> omega
      · rw [if_neg e2, if_neg e2, if_neg (show ¬ (p : Int) = (k : Int) by omega)]; split <;> omega
    · rw [if_neg e, show min (v : Int) (V p) = V p by omega, show min ((v + 1 : Nat) : Int) (V p) = V p by omega]
      split <;> split <;> omega
theorem c1_bd (V T : Nat → Int) (k p : Nat) : ∀ v : Nat, 0 ≤ c1 V T k p v ∧ c1 V T k p v ≤ v
  | 0 => by simp [c1]
  | v + 1 => by
    have := c1_bd V T k p v
    rw [c1]; split <;> omega
/-- How often k was drawn, ahead of place p and level v. -/
def oneF (V T : Nat → Int) (S p v k : Nat) : Int := gs (fun q => c1 V T k q S) p + c1 V T k p v
theorem oneF_zero (V T : Nat → Int) (S k : Nat) : oneF V T S 0 0 k = 0 := rfl
theorem oneF_next (V T : Nat → Int) (S p k : Nat) : oneF V T S p S k = oneF V T S (p + 1) 0 k := by
  unfold oneF; rw [gs, c1, Int.add_zero]
theorem oneF_step (V T : Nat → Int) (S p v k : Nat) : oneF V T S p (v + 1) k = oneF V T S p v k + if dv V T p (v : Int) = (k : Int) then 1 else 0 := by
  unfold oneF; rw [c1]; omega
theorem gs_c1_bd (V T : Nat → Int) (S k : Nat) : ∀ p : Nat, 0 ≤ gs (fun q => c1 V T k q S) p ∧ gs (fun q => c1 V T k q S) p ≤ (S * p : Nat)
  | 0 => by simp [gs]
  | p + 1 => by
    have := gs_c1_bd V T S k p
    have := c1_bd V T k p S
    rw [gs, Nat.mul_succ]; omega
theorem oneF_bd (V T : Nat → Int) {S p v k : Nat} (hS : S ≤ 200) (hp : p ≤ 12) (hv : v ≤ S) : 0 ≤ oneF V T S p v k ∧ oneF V T S p v k ≤ 2600 := by
  have h1 := gs_c1_bd V T S k p
  have h2 := c1_bd V T k p v
  have h3 := Nat.mul_le_mul hS hp
  unfold oneF; omega
theorem agree_one {l : List Int} (h : ∀ p, p < l.length → 0 ≤ pat l p) {S : Nat} (hS : asum l l.length = (S : Nat)) :
    (∀ p, p < l.length → ∀ v : Int, 0 ≤ v → v < S → 0 ≤ dv (amakeF l).V (amakeF l).T p v ∧ dv (amakeF l).V (amakeF l).T p v < l.length) ∧
    ∀ k, k < l.length → oneF (amakeF l).V (amakeF l).T S l.length 0 k = l.length * pat l k := by
  have hst := ainv_start (n := l.length) h
  obtain ⟨hi, he⟩ := ainv_run l.length _ hst (by omega)
  rw [show AS.run (asum l l.length) l.length l.length (AS.start l l.length (asum l l.length)) = amakeF l from rfl] at hi he
  rw [hS] at hi he
  generalize amakeF l = s at *
  have hl : ∀ p, p < l.length → s.D p = false → s.L p = S := by
    intro p hp hd
    have ho : off s S p = 0 := by
      rcases he with he | he
      · refine gs_zero_nn l.length (fun q hq => ?_) hi.o p hp
        unfold off
        split
        · omega
        · next hq2 =>
          have h2 := lowf_not l.length he q hq
          unfold AS.low at h2
          rw [Bool.eq_false_iff.2 hq2] at h2
          simp at h2
          omega
      · refine gs_zero_np l.length (fun q hq => ?_) hi.o p hp
        unfold off
        split
        · omega
        · next hq2 =>
          have h2 := lowf_not l.length he q hq
          unfold AS.high at h2
          rw [Bool.eq_false_iff.2 hq2] at h2
          simp at h2
          omega
    unfold off at ho
    rw [hd] at ho
    simp at ho
    omega
  have hv : ∀ p, p < l.length → 0 ≤ s.V p ∧ s.V p ≤ S ∧ 0 ≤ s.T p ∧ s.T p < l.length := by
    intro p hp
    cases hd : s.D p with
    | true => exact hi.d p hp hd
    | false => have := hi.u p hp hd; omega
  refine ⟨fun p hp v h0 h1 => ?_, fun k hk => ?_⟩
  · unfold dv
    have := hv p hp
    split <;> omega
  · rw [Int.mul_comm, ← hi.c k hk]
    unfold oneF
    rw [c1, Int.add_zero]
    refine gs_congr _ fun p hp => ?_
    have hvp := hv p hp
    rw [c1_is _ _ _ _ hvp.1, show min (S : Int) (s.V p) = s.V p by omega]
    unfold cin
    cases hd : s.D p with
    | true => simp
    | false =>
      have h1 := hi.u p hp hd
      have h2 := hl p hp hd
      rw [h1.1, h2]
      simp
/-- How often k was picked, of so many. -/
def twoF (l : List Int) (k : Nat) : Nat → Int
  | 0 => 0
  | x + 1 => twoF l k x + if topk l (x : Int) l.length = k then 1 else 0
theorem twoF_bd (l : List Int) (k : Nat) : ∀ x : Nat, 0 ≤ twoF l k x ∧ twoF l k x ≤ x
  | 0 => by simp [twoF]
  | x + 1 => by
    have := twoF_bd l k x
    rw [twoF]; split <;> omega
theorem pre_is_asum (l : List Int) : ∀ j, pre l j = asum l j
  | 0 => rfl
  | j + 1 => by rw [pre, asum, pre_is_asum l j]
theorem twoF_is {l : List Int} (h : ∀ p, p < l.length → 0 ≤ pat l p) {k : Nat} (hk : k < l.length) : ∀ x : Nat, (x : Int) ≤ pre l l.length → twoF l k x = max 0 (min ((x : Int) - pre l k) (pat l k))
  | 0, _ => by
    have h1 := pre_mono h (Nat.zero_le k) (by omega)
    have h2 := h k hk
    rw [pre] at h1
    rw [twoF]; omega
  | x + 1, hx => by
    rw [twoF, twoF_is h hk x (by omega)]
    have h2 := h k hk
    have h3 := topk_ok (l := l) (n := (x : Int)) (by omega) l.length (by omega)
    have h4 : pre l (k + 1) = pre l k + pat l k := rfl
    by_cases e : topk l (x : Int) l.length = k
    · rw [if_pos e]
      rw [e] at h3
      omega
    · rw [if_neg e]
      have h5 : ¬ (pre l k ≤ (x : Int) ∧ (x : Int) < pre l (k + 1)) := fun hh => e (topk_eq (fun i j h1 h2 => pre_mono h h1 h2) hh.1 hh.2 l.length hk (Nat.le_refl _))
      omega
theorem agree_two {l : List Int} (h : ∀ p, p < l.length → 0 ≤ pat l p) {S : Nat} (hS : asum l l.length = (S : Nat)) {k : Nat} (hk : k < l.length) : twoF l k S = pat l k := by
  rw [twoF_is h hk S (by rw [pre_is_asum, hS]; omega)]
  have h1 := pre_mono h (show k + 1 ≤ l.length from hk) (Nat.le_refl _)
  rw [pre_is_asum l l.length, hS] at h1
  have h4 : pre l (k + 1) = pre l k + pat l k := rfl
  have h5 := h k hk
  omega
theorem asum_take (l : List Int) : ∀ j, j ≤ l.length → (l.take j).sum = asum l j
  | 0, _ => rfl
  | j + 1, h => by rw [take_sum l j h, asum_take l j (by omega), asum, ← pat_get h]
theorem asum_sum (l : List Int) : l.sum = asum l l.length := by
  rw [← asum_take l l.length (Nat.le_refl _), List.take_length]
theorem agree_three {l : List Int} (hl : l.length ≤ 400) (h : ∀ p, p < l.length → 0 ≤ pat l p ∧ pat l p ≤ 1048576) {S : Nat} (hS : asum l l.length = (S : Nat)) {x : Nat} (hx : x < S) :
    pickR l x = (((topk l x l.length : Nat) : Int), 0) ∧ ptake l 1 x = ([((topk l x l.length : Nat) : Int)], 0) ∧ topk l x l.length < l.length := by
  have hw : wokB l = true := wok_mk hl fun i hi => by have := h i hi; omega
  have hp : pre l l.length = (S : Nat) := by rw [pre_is_asum, hS]
  have ht := topk_ok (l := l) (n := (x : Int)) (by omega) l.length (by omega)
  refine ⟨?_, ?_, ht.1⟩
  · unfold pickR
    rw [if_pos hw, if_neg (by omega)]
  · have hs : l.sum = (S : Nat) := by rw [asum_sum, hS]
    have hwk : wok l := fun y hy => by
      obtain ⟨i, hi, rfl⟩ := List.mem_iff_getElem.1 hy
      have := h i hi
      rw [pat_get hi] at this
      exact this
    have hps : (psum l 1).2 = 0 := by
      unfold psum
      rw [if_pos ⟨hl, by decide, by decide, hwk⟩, if_neg (by omega)]
    unfold ptake
    rw [if_pos hps, if_pos (by omega)]
    have hl1 : loc l 1 (pnext l x 0) = topk l x l.length := by
      rw [pnext_zero]
      have e1 : ∀ j, j ≤ l.length → pend l 1 j = pre l j := fun j hj => by unfold pend; rw [Int.mul_one, asum_take l j hj, pre_is_asum]
      exact loc_at l 1 (by decide) _ _ hwk ht.1 (by rw [e1 _ (by omega)]; exact ht.2.1) (by rw [e1 _ ht.1]; exact ht.2.2)
    show (ppts l 1 (x : Int) 1, (0 : Int)) = _
    unfold ppts
    rw [show List.range 1 = [0] from rfl, List.map_cons, List.map_nil, hl1]
end Go.Proofs.YtmibifmabkaakaaDoor
