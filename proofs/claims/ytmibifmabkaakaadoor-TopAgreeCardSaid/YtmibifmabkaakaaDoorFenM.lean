/- Sums by a tree: plain. No condition. -/
import Derived.Test.YtmibifmabkaakaaDoorSeq
import Derived.Laws.BitsAllLaws
namespace Go.Proofs.YtmibifmabkaakaaDoor
set_option linter.unusedVariables false

/-- The lowest bit that is set. -/
def lb (k : Nat) : Nat := k &&& (1024 - k)
theorem lb_one : ∀ k, k < 402 → 0 < k → 0 < lb k ∧ lb k ≤ k := by decide +kernel
theorem lb_up : ∀ c, c < 402 → 0 < c → c + lb c - lb (c + lb c) ≤ c - lb c ∧ 0 < lb (c + lb c) := by decide +kernel
theorem lb_mid : ∀ c, c < 402 → ∀ d, d < lb c → 0 < d → c ≤ c + d - lb (c + d) := by decide +kernel
theorem lb_find : ∀ a, a < 9 → ∀ q, q < 201 → 2 * 2 ^ a * q + 2 ^ a < 402 → lb (2 * 2 ^ a * q + 2 ^ a) = 2 ^ a := by decide +kernel
theorem lb_and : ∀ k : Nat, k < 402 → bits .and .i64 (k : Int) (-(k : Int)) = ((lb k : Nat) : Int) := by decide +kernel

/-- The sum of the first so many. -/
def pre (l : List Int) : Nat → Int
  | 0 => 0
  | i + 1 => pre l i + pat l i
/-- T has the sums S, each of so many as its place's lowest bit says. -/
def Tree (S T : Nat → Int) (N : Nat) : Prop :=
  S 0 = 0 ∧ (∀ i, 0 < i → i ≤ N → T i = S i - S (i - lb i)) ∧ ∀ i, i ≤ N → 0 ≤ S i ∧ S i ≤ 429496729600
/-- T, while by is added on from place p, up to c. -/
def addT (T : Nat → Int) (p : Nat) (by_ : Int) (c : Nat) : Nat → Int := fun i => if i < c ∧ i - lb i < p ∧ p ≤ i then T i + by_ else T i
theorem addT_start (T : Nat → Int) (p : Nat) (b : Int) : addT T p b p = T := by
  funext i
  unfold addT
  rw [if_neg (by omega)]
theorem addT_step {T : Nat → Int} {p : Nat} {b : Int} {c N : Nat} (hc : c < 402) (hp : 0 < p) (h1 : c - lb c < p) (h2 : p ≤ c) : updf (addT T p b c) c (addT T p b c c + b) = addT T p b (c + lb c) := by
  have hlb := lb_one c hc (by omega)
  funext i
  unfold updf addT
  by_cases e : i = c
  · subst e
    rw [if_pos rfl, if_neg (by omega), if_pos ⟨by omega, h1, h2⟩]
  · rw [if_neg e]
    by_cases e2 : i < c
    · by_cases e3 : i - lb i < p ∧ p ≤ i
      · rw [if_pos ⟨e2, e3⟩, if_pos ⟨by omega, e3⟩]
      · rw [if_neg (fun h => e3 h.2), if_neg (fun h => e3 h.2)]
    · rw [if_neg (by omega)]
      by_cases e3 : i < c + lb c
      · have h3 := lb_mid c hc (i - c) (by omega) (by omega)
        rw [show c + (i - c) = i by omega] at h3
        rw [if_neg (by omega)]
      · rw [if_neg (by omega)]
/-- The sums, by added at place k. -/
def addS (S : Nat → Int) (k : Nat) (b : Int) : Nat → Int := fun i => S i + if k < i then b else 0
theorem addT_tree {S T : Nat → Int} {N k : Nat} {b : Int} (h : Tree S T N) (hN : N < 402) {c : Nat} (hc : N < c) (hb : ∀ i, i ≤ N → 0 ≤ addS S k b i ∧ addS S k b i ≤ 429496729600) : Tree (addS S k b) (addT T (k + 1) b c) N := by
  obtain ⟨h0, h1, h2⟩ := h
  refine ⟨by unfold addS; rw [if_neg (by omega), h0]; rfl, fun i hi hiN => ?_, hb⟩
  have hl := lb_one i (by omega) hi
  unfold addT addS
  rw [h1 i hi hiN]
  by_cases e1 : k < i
  · by_cases e2 : k < i - lb i
    · rw [if_neg (by omega), if_pos e1, if_pos e2]; omega
    · rw [if_pos (by omega), if_pos e1, if_neg e2]; omega
  · rw [if_neg (by omega), if_neg e1, if_neg (by omega)]; omega
theorem tree_bd {S T : Nat → Int} {N i : Nat} (h : Tree S T N) (h0 : 0 < i) (hi : i ≤ N) : -429496729600 ≤ T i ∧ T i ≤ 429496729600 := by
  have h1 := h.2.1 i h0 hi
  have h2 := h.2.2 i hi
  have h3 := h.2.2 (i - lb i) (by omega)
  omega
theorem pre_mono {l : List Int} (h : ∀ i, i < l.length → 0 ≤ pat l i) {i j : Nat} (hij : i ≤ j) (hj : j ≤ l.length) : pre l i ≤ pre l j := by
  induction hij with
  | refl => exact Int.le_refl _
  | step h1 ih =>
    have := ih (by omega)
    have := h _ (show _ < l.length from hj)
    rw [pre]; omega
theorem pre_bd {l : List Int} (h : ∀ i, i < l.length → 0 ≤ pat l i ∧ pat l i ≤ 1073741824) : ∀ i, i ≤ l.length → 0 ≤ pre l i ∧ pre l i ≤ 1073741824 * i := by
  intro i
  induction i with
  | zero => intro _; exact ⟨Int.le_refl _, Int.le_refl _⟩
  | succ i ih => intro hi; have := ih (by omega); have := h i (by omega); rw [pre]; omega
/-- The weights are as they must be. -/
def wokc (l : List Int) : Nat → Bool
  | 0 => true
  | j + 1 => wokc l j && (decide (0 ≤ pat l j) && decide (pat l j ≤ 1073741824))
def wokB (l : List Int) : Bool := decide (l.length ≤ 400) && wokc l l.length
theorem wokc_at {l : List Int} {n : Nat} (h : wokc l n = true) : ∀ i, i < n → 0 ≤ pat l i ∧ pat l i ≤ 1073741824 := by
  induction n with
  | zero => intro i hi; omega
  | succ n ih =>
    simp only [wokc, Bool.and_eq_true, decide_eq_true_eq] at h
    intro i hi
    by_cases e : i = n
    · subst e; exact h.2
    · exact ih h.1 i (by omega)
theorem wokc_mk {l : List Int} : ∀ n, (∀ i, i < n → 0 ≤ pat l i ∧ pat l i ≤ 1073741824) → wokc l n = true
  | 0, _ => rfl
  | n + 1, h => by
    simp only [wokc, Bool.and_eq_true, decide_eq_true_eq]
    exact ⟨wokc_mk n fun i hi => h i (by omega), h n (by omega)⟩
theorem wokc_no {l : List Int} {j m : Nat} (hm : j ≤ m) (h : wokc l j = false) : wokc l m = false := by
  rw [Bool.eq_false_iff] at h ⊢
  exact fun h2 => h (wokc_mk j fun i hi => wokc_at h2 i (by omega))
theorem wok_at {l : List Int} (h : wokB l = true) : l.length ≤ 400 ∧ ∀ i, i < l.length → 0 ≤ pat l i ∧ pat l i ≤ 1073741824 := by
  unfold wokB at h
  simp only [Bool.and_eq_true, decide_eq_true_eq] at h
  exact ⟨h.1, wokc_at h.2⟩
theorem wok_mk {l : List Int} (h1 : l.length ≤ 400) (h : ∀ i, i < l.length → 0 ≤ pat l i ∧ pat l i ≤ 1073741824) : wokB l = true := by
  unfold wokB
  rw [decide_eq_true h1, wokc_mk _ h]; rfl
theorem pre_le {l : List Int} (h : wokB l = true) {i : Nat} (hi : i ≤ l.length) : 0 ≤ pre l i ∧ pre l i ≤ 429496729600 := by
  obtain ⟨h1, h2⟩ := wok_at h
  have := pre_bd h2 i hi
  omega
/-- The last place up to which no more than n is. -/
def topk (l : List Int) (n : Int) : Nat → Nat
  | 0 => 0
  | j + 1 => if pre l j ≤ n then j else topk l n j
theorem topk_ok {l : List Int} {n : Int} (h0 : 0 ≤ n) : ∀ j, n < pre l j → topk l n j < j ∧ pre l (topk l n j) ≤ n ∧ n < pre l (topk l n j + 1) := by
  intro j
  induction j with
  | zero => intro h; simp [pre] at h; omega
  | succ j ih =>
    intro h
    rw [topk]
    by_cases e : pre l j ≤ n
    · rw [if_pos e]; exact ⟨Nat.lt_succ_self _, e, h⟩
    · rw [if_neg e]
      have := ih (by omega)
      exact ⟨by omega, this.2⟩
/-- What Pick answers. -/
def pickR (l : List Int) (n : Int) : Int × Int := if wokB l = true then if n < 0 ∨ pre l l.length ≤ n then (0, 3) else (((topk l n l.length : Nat) : Int), 0) else (0, 2)
theorem pat_set (l : List Int) (k i : Nat) (u : Int) (hk : k < l.length) : pat (l.set k u) i = if i = k then u else pat l i := by
  unfold pat
  rw [List.getD_eq_getElem?_getD, List.getD_eq_getElem?_getD, List.getElem?_set]
  by_cases e : i = k
  · subst e; rw [if_pos rfl, if_pos rfl, if_pos hk]; rfl
  · rw [if_neg (fun h => e h.symm), if_neg e]
theorem pre_set (l : List Int) (k : Nat) (hk : k < l.length) : ∀ i, pre (l.set k 0) i = pre l i - if k < i then pat l k else 0
  | 0 => by rw [if_neg (by omega)]; rfl
  | i + 1 => by
    rw [pre, pre, pre_set l k hk i, pat_set l k i 0 hk]
    by_cases e : i = k
    · subst e; rw [if_pos rfl, if_neg (by omega), if_pos (by omega)]; omega
    · rw [if_neg e]
      by_cases e2 : k < i
      · rw [if_pos e2, if_pos (by omega)]; omega
      · rw [if_neg e2, if_neg (by omega)]; omega
/-- What Draw answers, of what is left. -/
def drawR (l : List Int) : List Int → List Int → List Int × Int
  | [], out => (out, 0)
  | n :: ns, out => if n < 0 ∨ pre l l.length ≤ n then ([], 3) else drawR (l.set (topk l n l.length) 0) ns (out ++ [((topk l n l.length : Nat) : Int)])
theorem wok_set {l : List Int} (h : wokB l = true) {k : Nat} (hk : k < l.length) : wokB (l.set k 0) = true := by
  obtain ⟨h1, h2⟩ := wok_at h
  refine wok_mk (by rw [List.length_set]; exact h1) fun i hi => ?_
  rw [List.length_set] at hi
  rw [pat_set l k i 0 hk]
  split
  · omega
  · exact h2 i hi
theorem drawR_len : ∀ (nums l out : List Int), (drawR l nums out).1.length ≤ out.length + nums.length
  | [], l, out => Nat.le_refl _
  | n :: ns, l, out => by
    rw [drawR]
    split
    · exact Nat.zero_le _
    · have := drawR_len ns (l.set (topk l n l.length) 0) (out ++ [((topk l n l.length : Nat) : Int)])
      simp at this ⊢
      omega
/-- The sums of the weights up to place j alone. -/
def preUp (l : List Int) (j : Nat) : Nat → Int := fun i => pre l (min i j)
theorem preUp_step (l : List Int) (j : Nat) : addS (preUp l j) j (pat l j) = preUp l (j + 1) := by
  funext i
  unfold addS preUp
  by_cases e : j < i
  · rw [if_pos e, show min i j = j by omega, show min i (j + 1) = j + 1 by omega, pre]
  · rw [if_neg e, show min i j = i by omega, show min i (j + 1) = i by omega]; omega
end Go.Proofs.YtmibifmabkaakaaDoor
