/- Package chain: polynomials, and what determinants of weights are. Plain: no program in sight. No condition. Package chain and its reference: what is wrong, walked. Printed by chagen.py. No condition. -/
import Derived.Test.YtkffakekakhgdaaSeq
import Derived.Test.YtkffakekakhgdaaRwI
import Derived.BigQuiet
namespace Go.Proofs.Ytkffakekakhgdaa
open Go.ChangeShapes Go.WideShapes Go.ChangeAt Go.RowKit
set_option linter.unusedVariables false

/-! ### polynomials with whole numbers -/
abbrev Mon : Type := List Nat
abbrev Trm : Type := Nat × Int × Mon
abbrev Poly : Type := List Trm
def evM (r : Nat → Int) : Mon → Int
  | [] => 1
  | v :: m => r v * evM r m
def evP (r : Nat → Int) : Poly → Int
  | [] => 0
  | t :: p => t.2.1 * evM r t.2.2 + evP r p
def insV (v : Nat) : Mon → Mon
  | [] => [v]
  | x :: m => cond (Nat.ble v x) (v :: x :: m) (x :: insV v m)
theorem evM_insV (r : Nat → Int) (v : Nat) (m : Mon) : evM r (insV v m) = r v * evM r m := by
  induction m with
  | nil => rfl
  | cons x m ih =>
    rw [insV]
    cases Nat.ble v x
    · show evM r (x :: insV v m) = _
      rw [evM, ih, evM, Int.mul_left_comm]
    · rfl
def mulM (a b : Mon) : Mon := a.foldr insV b
theorem evM_mul (r : Nat → Int) (a b : Mon) : evM r (mulM a b) = evM r a * evM r b := by
  induction a with
  | nil => rw [show mulM [] b = b from rfl, evM, Int.one_mul]
  | cons x a ih =>
    rw [show mulM (x :: a) b = insV x (mulM a b) from rfl, evM_insV, ih, evM, Int.mul_assoc]
def mrg : Nat → Poly → Poly → Poly
  | 0, p, q => p ++ q
  | _ + 1, [], q => q
  | _ + 1, t :: p, [] => t :: p
  | n + 1, t :: p, u :: q =>
    cond (Nat.blt t.1 u.1) (t :: mrg n p (u :: q)) (cond (Nat.blt u.1 t.1) (u :: mrg n (t :: p) q)
      (if t.2.2 = u.2.2 then cond (t.2.1 + u.2.1 == 0) (mrg n p q) ((t.1, t.2.1 + u.2.1, t.2.2) :: mrg n p q) else t :: mrg n p (u :: q)))
theorem evP_append (r : Nat → Int) (p q : Poly) : evP r (p ++ q) = evP r p + evP r q := by
  induction p with
  | nil => rw [List.nil_append, evP, Int.zero_add]
  | cons t p ih => rw [List.cons_append, evP, ih, evP, Int.add_assoc]
theorem evP_mrg (r : Nat → Int) : ∀ (n : Nat) (p q : Poly), evP r (mrg n p q) = evP r p + evP r q
  | 0, p, q => evP_append r p q
  | _ + 1, [], q => by rw [mrg, evP, Int.zero_add]
  | _ + 1, t :: p, [] => by rw [mrg]; show _ = _ + (0 : Int); rw [Int.add_zero]
  | n + 1, t :: p, u :: q => by
    rw [mrg]
    cases Nat.blt t.1 u.1
    · cases Nat.blt u.1 t.1
      · show evP r (if _ then _ else _) = _
        split
        · next e =>
          cases h : (t.2.1 + u.2.1 == 0)
          · show evP r ((t.1, t.2.1 + u.2.1, t.2.2) :: mrg n p q) = _
            rw [evP, evP_mrg r n, evP, evP, ← e]
            show (t.2.1 + u.2.1) * evM r t.2.2 + _ = _
            rw [Int.add_mul]
            omega
          · show evP r (mrg n p q) = _
            have h0 : t.2.1 + u.2.1 = 0 := by simpa using h
            have h1 : (t.2.1 + u.2.1) * evM r t.2.2 = 0 := by rw [h0, Int.zero_mul]
            rw [evP_mrg r n, evP, evP, ← e]
            rw [Int.add_mul] at h1
            omega
        · rw [evP, evP_mrg r n]
          conv => rhs; lhs; rw [evP]
          omega
      · show evP r (u :: mrg n (t :: p) q) = _
        rw [evP, evP_mrg r n]
        conv => rhs; rhs; rw [evP]
        omega
    · show evP r (t :: mrg n p (u :: q)) = _
      rw [evP, evP_mrg r n]
      conv => rhs; lhs; rw [evP]
      omega
def padd (p q : Poly) : Poly := mrg (p.length + q.length) p q
theorem evP_add (r : Nat → Int) (p q : Poly) : evP r (padd p q) = evP r p + evP r q := evP_mrg r _ p q
def tmul (t u : Trm) : Trm := (t.1 + u.1, t.2.1 * u.2.1, mulM t.2.2 u.2.2)
theorem evP_tmul (r : Nat → Int) (t : Trm) (q : Poly) : evP r (q.map (tmul t)) = t.2.1 * evM r t.2.2 * evP r q := by
  induction q with
  | nil => rw [List.map_nil, evP, Int.mul_zero]
  | cons u q ih =>
    rw [List.map_cons, evP, ih, evP, Int.mul_add]
    congr 1
    show t.2.1 * u.2.1 * evM r (mulM t.2.2 u.2.2) = _
    rw [evM_mul]
    ac_rfl
def pmul (p q : Poly) : Poly := p.foldr (fun t acc => padd (q.map (tmul t)) acc) []
theorem evP_mul (r : Nat → Int) (p q : Poly) : evP r (pmul p q) = evP r p * evP r q := by
  induction p with
  | nil => rw [show pmul [] q = [] from rfl, evP, Int.zero_mul]
  | cons t p ih =>
    rw [show pmul (t :: p) q = padd (q.map (tmul t)) (pmul p q) from rfl, evP_add, ih, evP_tmul, evP, Int.add_mul]
def pvar (v : Nat) : Poly := [(8 ^ v, 1, [v])]
theorem evP_var (r : Nat → Int) (v : Nat) : evP r (pvar v) = r v := by simp [pvar, evP, evM]
def pneg (p : Poly) : Poly := p.map fun t => (t.1, -t.2.1, t.2.2)
theorem evP_neg (r : Nat → Int) (p : Poly) : evP r (pneg p) = - evP r p := by
  induction p with
  | nil => rfl
  | cons t p ih =>
    rw [show pneg (t :: p) = (t.1, -t.2.1, t.2.2) :: pneg p from rfl, evP, ih, evP, Int.neg_add]
    congr 1
    exact Int.neg_mul _ _

/-! ### determinants -/
def csg (c : Nat) : Int := if c % 2 = 0 then 1 else -1
/-- The first k of a row, each times its cofactor, with signs in turn. -/
def asum (z : List Int) (f : Nat → Int) : Nat → Int
  | 0 => 0
  | k + 1 => asum z f k + csg k * pat z k * f k
def cdet : Nat → List (List Int) → Int
  | 0, _ => 1
  | n + 1, M => asum (M.headD []) (fun c => cdet n (M.tail.map (·.eraseIdx c))) (n + 1)
def psgn (c : Nat) (p : Poly) : Poly := if c % 2 = 0 then p else pneg p
def pasum (z : List Poly) (f : Nat → Poly) : Nat → Poly
  | 0 => []
  | k + 1 => padd (pasum z f k) (psgn k (pmul (z.getD k []) (f k)))
def pdet : Nat → List (List Poly) → Poly
  | 0, _ => [(0, 1, [])]
  | n + 1, M => pasum (M.headD []) (fun c => pdet n (M.tail.map (·.eraseIdx c))) (n + 1)
theorem pat_mapP (r : Nat → Int) (z : List Poly) (k : Nat) : pat (z.map (evP r)) k = evP r (z.getD k []) := by
  unfold pat
  by_cases h : k < z.length
  · simp [h]
  · simp [h, evP]
theorem evP_asum (r : Nat → Int) (z : List Poly) (f : Nat → Poly) (g : Nat → Int) (hf : ∀ c, evP r (f c) = g c) : ∀ k, evP r (pasum z f k) = asum (z.map (evP r)) g k
  | 0 => rfl
  | k + 1 => by
    rw [pasum, evP_add, evP_asum r z f g hf k, asum, pat_mapP]
    congr 1
    unfold psgn csg
    split
    · rw [evP_mul, hf, Int.one_mul]
    · rw [evP_neg, evP_mul, hf, Int.neg_mul, Int.one_mul, Int.neg_mul]
theorem map_erase {α β : Type} (f : α → β) (l : List α) : ∀ c, (l.eraseIdx c).map f = (l.map f).eraseIdx c := by
  induction l with
  | nil => intro c; rfl
  | cons x l ih =>
    intro c
    cases c with
    | zero => rfl
    | succ c => simp [ih]
theorem evP_det (r : Nat → Int) : ∀ (n : Nat) (P : List (List Poly)), evP r (pdet n P) = cdet n (P.map (·.map (evP r)))
  | 0, P => by simp [pdet, cdet, evP, evM]
  | n + 1, P => by
    have hh : (P.map (·.map (evP r))).headD [] = (P.headD []).map (evP r) := by cases P <;> rfl
    have ht : ∀ c, (P.map (·.map (evP r))).tail.map (·.eraseIdx c) = (P.tail.map (·.eraseIdx c)).map (·.map (evP r)) := fun c => by
      cases P with
      | nil => rfl
      | cons x P => simp [Function.comp_def, map_erase]
    rw [pdet, cdet, evP_asum r _ _ (fun c => cdet n ((P.map (·.map (evP r))).tail.map (·.eraseIdx c))) (fun c => by rw [evP_det r n, ht]), hh]

/-! ### the weights, less the root's -/
/-- The sum of the first k. -/
def ksum (z : List Int) : Nat → Int
  | 0 => 0
  | k + 1 => ksum z k + pat z k
def csum (z : List Int) : Int := ksum z z.length
def oth (n r : Nat) : List Nat := (List.range n).filter (fun i => !(i == r))
def crow (z : List Int) (i r n : Nat) : List Int := (oth n r).map fun j => if i = j then csum z - pat z i else - pat z j
def cmin (M : List (List Int)) (r n : Nat) : List (List Int) := (oth n r).map fun i => crow (M.getD i []) i r n
def pW (i j : Nat) : Poly := pvar (5 * i + j)
def pksum (i : Nat) : Nat → Poly
  | 0 => []
  | k + 1 => padd (pksum i k) (pW i k)
def pcrow (i r n : Nat) : List Poly := (oth n r).map fun j => if i = j then padd (pksum i n) (pneg (pW i i)) else pneg (pW i j)
def pcmin (r n : Nat) : List (List Poly) := (oth n r).map fun i => pcrow i r n
/-- The numbers of a matrix as a valuation. -/
def rho (M : List (List Int)) (v : Nat) : Int := pat (M.getD (v / 5) []) (v % 5)
theorem ev_pW (M : List (List Int)) (i j : Nat) (hj : j < 5) : evP (rho M) (pW i j) = pat (M.getD i []) j := by
  unfold pW rho
  rw [evP_var, show (5 * i + j) / 5 = i by omega, show (5 * i + j) % 5 = j by omega]
theorem ev_pksum (M : List (List Int)) (i : Nat) : ∀ k, k ≤ 5 → evP (rho M) (pksum i k) = ksum (M.getD i []) k
  | 0, _ => rfl
  | k + 1, h => by rw [pksum, evP_add, ev_pksum M i k (by omega), ev_pW M i k (by omega), ksum]
theorem mem_oth {n r i : Nat} : i ∈ oth n r ↔ i < n ∧ i ≠ r := by simp [oth]
/-- n rows of n numbers each. -/
def Sqr (M : List (List Int)) (n : Nat) : Prop := M.length = n ∧ ∀ i, i < n → (M.getD i []).length = n
theorem ev_pcmin {M : List (List Int)} {n : Nat} (h : Sqr M n) (hn : n ≤ 5) (r : Nat) : (pcmin r n).map (·.map (evP (rho M))) = cmin M r n := by
  unfold pcmin cmin pcrow crow
  rw [List.map_map]
  refine List.map_congr_left fun i hi => ?_
  obtain ⟨hi, _⟩ := mem_oth.1 hi
  show List.map _ (List.map _ _) = _
  rw [List.map_map]
  refine List.map_congr_left fun j hj => ?_
  obtain ⟨hj, _⟩ := mem_oth.1 hj
  show evP _ (if i = j then _ else _) = _
  split
  · next e =>
    rw [evP_add, evP_neg, ev_pksum M i n hn, ev_pW M i i (by omega)]
    unfold csum
    rw [h.2 i hi]
    omega
  · rw [evP_neg, ev_pW M i j (by omega)]
/-- So many trees lead to r. -/
def tre (M : List (List Int)) (n r : Nat) : Int := cdet (n - 1) (cmin M r n)
def ptre (n r : Nat) : Poly := pdet (n - 1) (pcmin r n)
theorem ev_ptre {M : List (List Int)} {n : Nat} (h : Sqr M n) (hn : n ≤ 5) (r : Nat) : evP (rho M) (ptre n r) = tre M n r := by
  unfold ptre tre
  rw [evP_det, ev_pcmin h hn]
/-- What comes to j, from the first k. -/
def tsum (M : List (List Int)) (n j : Nat) : Nat → Int
  | 0 => 0
  | k + 1 => tsum M n j k + tre M n k * pat (M.getD k []) j
def ptsum (n j : Nat) : Nat → Poly
  | 0 => []
  | k + 1 => padd (ptsum n j k) (pmul (ptre n k) (pW k j))
theorem ev_ptsum {M : List (List Int)} {n : Nat} (h : Sqr M n) (hn : n ≤ 5) {j : Nat} (hj : j < 5) : ∀ k, evP (rho M) (ptsum n j k) = tsum M n j k
  | 0 => rfl
  | k + 1 => by rw [ptsum, evP_add, ev_ptsum h hn hj k, evP_mul, ev_ptre h hn, ev_pW M k j hj, tsum]
def pstat (n j : Nat) : Poly := padd (ptsum n j n) (pneg (pmul (ptre n j) (pksum j n)))
theorem stat_1 : ∀ j, j < 1 → pstat 1 j = [] := by decide +kernel
theorem stat_2 : ∀ j, j < 2 → pstat 2 j = [] := by decide +kernel
theorem stat_3 : ∀ j, j < 3 → pstat 3 j = [] := by decide +kernel
theorem stat_4 : ∀ j, j < 4 → pstat 4 j = [] := by decide +kernel
theorem stat_5 : ∀ j, j < 5 → pstat 5 j = [] := by decide +kernel
theorem stat_all {n j : Nat} (hn : n ≤ 5) (hj : j < n) : pstat n j = [] := by
  rcases (by omega : n = 1 ∨ n = 2 ∨ n = 3 ∨ n = 4 ∨ n = 5) with rfl | rfl | rfl | rfl | rfl
  · exact stat_1 j hj
  · exact stat_2 j hj
  · exact stat_3 j hj
  · exact stat_4 j hj
  · exact stat_5 j hj
/-- What comes to a state is what leaves it. -/
theorem tre_stays {M : List (List Int)} {n j : Nat} (h : Sqr M n) (hn : n ≤ 5) (hj : j < n) : tsum M n j n = tre M n j * csum (M.getD j []) := by
  have h1 : evP (rho M) (pstat n j) = 0 := by rw [stat_all hn hj]; rfl
  unfold pstat at h1
  rw [evP_add, evP_neg, evP_mul, ev_ptsum h hn (by omega), ev_ptre h hn, ev_pksum M j n hn] at h1
  unfold csum
  rw [h.2 j hj]
  omega

/-! ### that there are trees -/
/-- The trees that lead to those in T, by so many edges more. -/
def grow (n : Nat) : Nat → List Nat → Mon → List Mon
  | 0, _, m => [m]
  | k + 1, T, m => ((List.range n).filter (fun i => !(T.elem i))).flatMap fun i => T.flatMap fun j => grow n k (i :: T) (insV (5 * i + j) m)
def hasM (p : Poly) (m : Mon) : Bool := p.any fun t => decide (t.2.2 = m) && decide (1 ≤ t.2.1)
def goodP (p : Poly) : Bool := p.all fun t => decide (0 ≤ t.2.1)
def treOk (n r : Nat) : Bool := goodP (ptre n r) && (grow n (n - 1) [r] []).all (hasM (ptre n r))
theorem treOk_1 : ∀ r, r < 1 → treOk 1 r = true := by decide +kernel
theorem treOk_2 : ∀ r, r < 2 → treOk 2 r = true := by decide +kernel
theorem treOk_3 : ∀ r, r < 3 → treOk 3 r = true := by decide +kernel
theorem treOk_4 : ∀ r, r < 4 → treOk 4 r = true := by decide +kernel
theorem treOk_5 : ∀ r, r < 5 → treOk 5 r = true := by decide +kernel
theorem treOk_all {n r : Nat} (hn : n ≤ 5) (hr : r < n) : treOk n r = true := by
  rcases (by omega : n = 1 ∨ n = 2 ∨ n = 3 ∨ n = 4 ∨ n = 5) with rfl | rfl | rfl | rfl | rfl
  · exact treOk_1 r hr
  · exact treOk_2 r hr
  · exact treOk_3 r hr
  · exact treOk_4 r hr
  · exact treOk_5 r hr
theorem evM_nn {r : Nat → Int} (h : ∀ v, 0 ≤ r v) : ∀ m : Mon, 0 ≤ evM r m
  | [] => by show (0 : Int) ≤ 1; decide
  | v :: m => Int.mul_nonneg (h v) (evM_nn h m)
theorem evP_nn {r : Nat → Int} (h : ∀ v, 0 ≤ r v) : ∀ p : Poly, goodP p = true → 0 ≤ evP r p
  | [], _ => Int.le_refl _
  | t :: p, hp => by
    unfold goodP at hp
    rw [List.all_cons, Bool.and_eq_true] at hp
    have h1 : 0 ≤ t.2.1 := by simpa using hp.1
    have h2 := evP_nn h p hp.2
    have h3 := Int.mul_nonneg h1 (evM_nn h t.2.2)
    rw [evP]
    omega
theorem evP_has {r : Nat → Int} (h : ∀ v, 0 ≤ r v) (m : Mon) : ∀ p : Poly, goodP p = true → hasM p m = true → evM r m ≤ evP r p
  | [], _, h2 => by cases h2
  | t :: p, hp, h2 => by
    have hp' := hp
    unfold goodP at hp
    rw [List.all_cons, Bool.and_eq_true] at hp
    have h1 : 0 ≤ t.2.1 := by simpa using hp.1
    have h5 := evM_nn h t.2.2
    have h3 := Int.mul_nonneg h1 h5
    have h6 := evP_nn h p hp.2
    unfold hasM at h2
    rw [List.any_cons, Bool.or_eq_true] at h2
    rw [evP]
    rcases h2 with h2 | h2
    · rw [Bool.and_eq_true] at h2
      have e : t.2.2 = m := by simpa using h2.1
      have h4 : 1 ≤ t.2.1 := by simpa using h2.2
      rw [← e]
      have h7 : 1 * evM r t.2.2 ≤ t.2.1 * evM r t.2.2 := Int.mul_le_mul_of_nonneg_right h4 h5
      omega
    · have := evP_has h m p hp.2 h2
      omega
/-- Each set of states but all is left by an edge out of what is not in it. -/
def Leads (M : List (List Int)) (n r : Nat) : Prop := ∀ T : List Nat, r ∈ T → (∃ i, i < n ∧ i ∉ T) → ∃ i j, i < n ∧ i ∉ T ∧ j ∈ T ∧ 0 < pat (M.getD i []) j
theorem nodup_lt (N : Nat) : ∀ (l : List Nat), (∀ x, x < N → x ∈ l) → N ≤ l.length := by
  induction N with
  | zero => intro l _; exact Nat.zero_le _
  | succ N ih =>
    intro l h
    have hm := h N (Nat.lt_succ_self N)
    have h1 : ∀ x, x < N → x ∈ l.erase N := fun x hx => (List.mem_erase_of_ne (by omega)).2 (h x (by omega))
    have h2 := ih _ h1
    rw [List.length_erase_of_mem hm] at h2
    have := List.length_pos_of_mem hm
    omega
theorem grow_has {M : List (List Int)} {n r : Nat} (hn : n ≤ 5) (hl : Leads M n r) : ∀ (k : Nat) (T : List Nat) (m : Mon), r ∈ T → (∀ j ∈ T, j < n) → T.length + k = n → 1 ≤ evM (rho M) m → ∃ m' ∈ grow n k T m, 1 ≤ evM (rho M) m'
  | 0, T, m, _, _, _, hm => ⟨m, by simp [grow], hm⟩
  | k + 1, T, m, hr, hT, hlen, hm => by
    have hex : ∃ i, i < n ∧ i ∉ T := by
      apply Classical.byContradiction
      intro hno
      have := nodup_lt n T (fun x hx => by
        apply Classical.byContradiction
        intro hx2
        exact hno ⟨x, hx, hx2⟩)
      omega
    obtain ⟨i, j, hi, hiT, hj, hp⟩ := hl T hr hex
    have hjn := hT j hj
    have hm2 : 1 ≤ evM (rho M) (insV (5 * i + j) m) := by
      rw [evM_insV]
      have e : rho M (5 * i + j) = pat (M.getD i []) j := by
        unfold rho
        rw [show (5 * i + j) / 5 = i by omega, show (5 * i + j) % 5 = j by omega]
      rw [e]
      have := Int.mul_pos (show 0 < pat (M.getD i []) j from hp) (show 0 < evM (rho M) m by omega)
      omega
    obtain ⟨m', h1, h2⟩ := grow_has hn hl k (i :: T) (insV (5 * i + j) m) (List.mem_cons_of_mem _ hr) (fun x hx => by
      rcases List.mem_cons.1 hx with rfl | hx
      · exact hi
      · exact hT x hx) (by rw [List.length_cons]; omega) hm2
    refine ⟨m', ?_, h2⟩
    rw [grow, List.mem_flatMap]
    refine ⟨i, ?_, List.mem_flatMap.2 ⟨j, hj, h1⟩⟩
    rw [List.mem_filter]
    exact ⟨List.mem_range.2 hi, by simp [hiT]⟩
theorem rho_nn {M : List (List Int)} (h : ∀ z ∈ M, ∀ x ∈ z, 0 ≤ x) (v : Nat) : 0 ≤ rho M v := by
  unfold rho pat
  rw [List.getD_eq_getElem?_getD, List.getD_eq_getElem?_getD]
  rcases Nat.lt_or_ge (v / 5) M.length with h1 | h1
  · rw [List.getElem?_eq_getElem h1]
    show 0 ≤ ((M[v / 5])[v % 5]?).getD 0
    rcases Nat.lt_or_ge (v % 5) M[v / 5].length with h2 | h2
    · rw [List.getElem?_eq_getElem h2]
      exact h _ (List.getElem_mem h1) _ (List.getElem_mem h2)
    · rw [List.getElem?_eq_none h2]; exact Int.le_refl _
  · rw [List.getElem?_eq_none h1]
    exact Int.le_refl _
theorem tre_pos {M : List (List Int)} {n r : Nat} (h : Sqr M n) (hn : n ≤ 5) (hr : r < n) (h0 : ∀ z ∈ M, ∀ x ∈ z, 0 ≤ x) (hl : Leads M n r) : 1 ≤ tre M n r := by
  have hok := treOk_all hn hr
  unfold treOk at hok
  rw [Bool.and_eq_true] at hok
  obtain ⟨m, hm, h1⟩ := grow_has hn hl (n - 1) [r] [] (List.mem_singleton.2 rfl) (fun j hj => by rw [List.mem_singleton.1 hj]; exact hr) (by simp; omega) (by show (1 : Int) ≤ 1; decide)
  have h2 := evP_has (rho_nn h0) m _ hok.1 (List.all_eq_true.1 hok.2 m hm)
  rw [ev_ptre h hn] at h2
  omega

/-! ### how great they get -/
def dbnd : Nat → Int
  | 0 => 1
  | n + 1 => (n + 1) * (45 * dbnd n)
theorem mul_abs {a b A B : Int} (ha : -A ≤ a ∧ a ≤ A) (hb : -B ≤ b ∧ b ≤ B) : -(A * B) ≤ a * b ∧ a * b ≤ A * B := by
  have h1 : a.natAbs * b.natAbs ≤ A.natAbs * B.natAbs := Nat.mul_le_mul (by omega) (by omega)
  have h2 : (a * b).natAbs = a.natAbs * b.natAbs := Int.natAbs_mul a b
  have h3 : (A * B).natAbs = A.natAbs * B.natAbs := Int.natAbs_mul A B
  have h4 : 0 ≤ A * B := Int.mul_nonneg (by omega) (by omega)
  omega
theorem csg_abs (c : Nat) : -1 ≤ csg c ∧ csg c ≤ 1 := by unfold csg; split <;> omega
theorem asum_le {z : List Int} {f : Nat → Int} {B : Int} (hB : 0 ≤ B) (hz : ∀ k, -45 ≤ pat z k ∧ pat z k ≤ 45) (hf : ∀ k, -B ≤ f k ∧ f k ≤ B) : ∀ k, -(k * (45 * B)) ≤ asum z f k ∧ asum z f k ≤ k * (45 * B)
  | 0 => by simp [asum]
  | k + 1 => by
    have h1 := asum_le hB hz hf k
    have h2 := mul_abs (mul_abs (csg_abs k) (hz k)) (hf k)
    have h3 : ((k + 1 : Nat) : Int) * (45 * B) = k * (45 * B) + 45 * B := by rw [Int.natCast_add, Int.add_mul]; simp
    rw [asum, h3]
    rw [show (1 * 45 * B : Int) = 45 * B by omega] at h2
    omega
theorem pat_abs {z : List Int} (h : ∀ x ∈ z, -45 ≤ x ∧ x ≤ 45) (k : Nat) : -45 ≤ pat z k ∧ pat z k ≤ 45 := by
  by_cases hk : k < z.length
  · rw [pat_get hk]; exact h _ (List.getElem_mem hk)
  · unfold pat; simp [hk]
def Sml (M : List (List Int)) : Prop := ∀ z ∈ M, ∀ x ∈ z, -45 ≤ x ∧ x ≤ 45
theorem Sml.minor {M : List (List Int)} (h : Sml M) (c : Nat) : Sml (M.tail.map (·.eraseIdx c)) := fun z hz x hx => by
  obtain ⟨y, hy, rfl⟩ := List.mem_map.1 hz
  exact h y (List.mem_of_mem_tail hy) x (List.mem_of_mem_eraseIdx hx)
theorem Sml.head {M : List (List Int)} (h : Sml M) (k : Nat) : -45 ≤ pat (M.headD []) k ∧ pat (M.headD []) k ≤ 45 := by
  refine pat_abs (fun x hx => ?_) k
  cases M with
  | nil => cases hx
  | cons z M => exact h z (List.mem_cons_self ..) x hx
theorem dbnd_nn : ∀ n, 0 ≤ dbnd n
  | 0 => by decide
  | n + 1 => Int.mul_nonneg (by omega) (Int.mul_nonneg (by decide) (dbnd_nn n))
theorem cdet_le : ∀ (n : Nat) (M : List (List Int)), Sml M → -dbnd n ≤ cdet n M ∧ cdet n M ≤ dbnd n
  | 0, M, _ => by simp [cdet, dbnd]
  | n + 1, M, h => by
    have := asum_le (z := M.headD []) (f := fun c => cdet n (M.tail.map (·.eraseIdx c))) (dbnd_nn n) h.head (fun c => cdet_le n _ (h.minor c)) (n + 1)
    rw [cdet, dbnd]
    simpa using this

set_option linter.unusedVariables false

theorem cw64 {k : Nat} (h : k < 9223372036854775807) : wrap64 ((k : Int) + 1) = ((k + 1 : Nat) : Int) := by unfold wrap64; omega
def cbad (y : Int) : Prop := y < 0 ∨ 9 < y
/-- Of one row. -/
def crone (n0 : Nat) (z : List Int) : Int :=
  if z.length ≠ n0 then 1 else if z.any (fun y => decide (y < 0) || decide (9 < y)) then 2 else if csum z = 0 then 3 else 0
def crall (n0 : Nat) : List (List Int) → Int
  | [] => 0
  | z :: l => if crone n0 z ≠ 0 then crone n0 z else crall n0 l
def cwrong (M : List (List Int)) : Int := if M.length < 1 ∨ 5 < M.length then 2 else crall M.length M
theorem crall_at {n0 : Nat} {M : List (List Int)} {k : Nat} (h : k < M.length) : crall n0 (M.drop k) = if crone n0 M[k] ≠ 0 then crone n0 M[k] else crall n0 (M.drop (k + 1)) := by
  rw [List.drop_eq_getElem_cons h]; rfl
theorem cany_at {z : List Int} {j : Nat} (hj : j < z.length) (h : z[j] < 0 ∨ 9 < z[j]) : z.any (fun y => decide (y < 0) || decide (9 < y)) = true :=
  List.any_eq_true.2 ⟨z[j], List.getElem_mem hj, by simpa using h⟩
theorem cany_none {z : List Int} (h : ∀ j (hj : j < z.length), ¬ (z[j] < 0 ∨ 9 < z[j])) : z.any (fun y => decide (y < 0) || decide (9 < y)) = false := by
  rw [Bool.eq_false_iff]
  intro h1
  obtain ⟨y, hy, h2⟩ := List.any_eq_true.1 h1
  obtain ⟨j, hj, rfl⟩ := List.mem_iff_getElem.1 hy
  exact h j hj (by simpa using h2)
theorem ksum_nine {z : List Int} : ∀ j, j ≤ z.length → (∀ i (hi : i < z.length), i < j → ¬ (z[i] < 0 ∨ 9 < z[i])) → 0 ≤ ksum z j ∧ ksum z j ≤ 9 * j
  | 0, _, _ => ⟨Int.le_refl _, Int.le_refl _⟩
  | j + 1, hj, h => by
    have h1 := ksum_nine j (by omega) (fun i hi h2 => h i hi (by omega))
    have h2 := h j (by omega) (by omega)
    rw [ksum, pat_get (by omega)]
    omega
/-- All is right. -/
structure COk (M : List (List Int)) : Prop where
  pos : 1 ≤ M.length
  le : M.length ≤ 5
  row : ∀ k (h : k < M.length), M[k].length = M.length
  num : ∀ k (h : k < M.length), ∀ y ∈ M[k], 0 ≤ y ∧ y ≤ 9
  some : ∀ k (h : k < M.length), csum M[k] ≠ 0
theorem crall_zero {n0 : Nat} {l : List (List Int)} (h : crall n0 l = 0) : ∀ x ∈ l, crone n0 x = 0 := by
  induction l with
  | nil => intro x hx; cases hx
  | cons y l ih =>
    rw [crall] at h
    by_cases e : crone n0 y = 0
    · rw [if_neg (by simpa using e)] at h
      intro x hx
      rcases List.mem_cons.1 hx with rfl | hx
      · exact e
      · exact ih h x hx
    · rw [if_pos e] at h
      exact absurd h e
theorem crone_zero {n0 : Nat} {z : List Int} (h : crone n0 z = 0) : z.length = n0 ∧ (∀ y ∈ z, 0 ≤ y ∧ y ≤ 9) ∧ csum z ≠ 0 := by
  unfold crone at h
  split at h
  · cases h
  · next h1 =>
    split at h
    · cases h
    · next h2 =>
      split at h
      · cases h
      · next h3 =>
        refine ⟨by omega, fun y hy => ?_, h3⟩
        have h4 : ¬ (y < 0 ∨ 9 < y) := fun hy2 => h2 (List.any_eq_true.2 ⟨y, hy, by simpa using hy2⟩)
        omega
theorem cok_of {M : List (List Int)} (h : cwrong M = 0) : COk M := by
  unfold cwrong at h
  split at h
  · cases h
  · next h1 =>
    have h3 := crall_zero h
    exact ⟨by omega, by omega, fun k hk => (crone_zero (h3 _ (List.getElem_mem hk))).1, fun k hk => (crone_zero (h3 _ (List.getElem_mem hk))).2.1, fun k hk => (crone_zero (h3 _ (List.getElem_mem hk))).2.2⟩
theorem COk.sqr {M : List (List Int)} (h : COk M) : Sqr M M.length := ⟨rfl, fun i hi => by
  have := h.row i hi
  rw [List.getD_eq_getElem?_getD, List.getElem?_eq_getElem hi]
  exact this⟩
theorem COk.sum {M : List (List Int)} (h : COk M) (k : Nat) (hk : k < M.length) : 1 ≤ csum M[k] ∧ csum M[k] ≤ 45 := by
  have h1 := h.some k hk
  have h2 := ksum_nine (z := M[k]) M[k].length (Nat.le_refl _) (fun i hi _ => by have := h.num k hk _ (List.getElem_mem hi); omega)
  have h3 := h.row k hk
  have h4 := h.le
  unfold csum at h1 ⊢
  omega
set_option maxRecDepth 20000 in
set_option maxHeartbeats 4000000 in
theorem cwrong_any (C : Option Addr) (l : List Rw) (d B : Nat) (w : World) (hl : RowsOk w B C l) (hm2 : l.length ≤ 9223372036854775807) :
    Calls Try.prog 20 #[.slice C l.length d] w fun e w' => e = .returned (.int .i64 (cwrong (nums l))) ∧ ∃ m, w' = w.drewN m := by
  have HL := Lib.hid hl
  have en : (nums l).length = l.length := by simp [nums]
  by_cases h2 : l.length < 1 ∨ 5 < l.length
  · have hf : cwrong (nums l) = 2 := by unfold cwrong; rw [if_pos (by rw [en]; exact h2)]
    rw [hf]
    clear hf hl en
    rcases (by omega : l.length = 0 ∨ (¬ l.length = 0 ∧ 5 < l.length)) with h3 | ⟨h4, h3⟩
    · rw [h3]
      go_enter Try.func20, Try.ntmps20
      go_wp2_with fail
      go_ret
      exact ⟨rfl, 0, rfl⟩
    · have i0 : ¬ (l.length : Int) < 1 := by omega
      have i0p : ¬ (l.length : Int) = 0 := by omega
      have i0q : ((l.length : Int) == 0) = false := by rw [beq_eq_false_iff_ne]; omega
      have i1 : (5 : Int) < (l.length : Int) := by omega
      clear h2 h4
      go_enter Try.func20, Try.ntmps20
      go_wp2_with fail
      go_ret
      exact ⟨rfl, 0, rfl⟩
  have i0 : ¬ (l.length : Int) < 1 := by omega
  have i0p : ¬ (l.length : Int) = 0 := by omega
  have i0q : ((l.length : Int) == 0) = false := by rw [beq_eq_false_iff_ne]; omega
  have i1 : ¬ (5 : Int) < (l.length : Int) := by omega
  obtain ⟨n0, hn0⟩ : ∃ n, n = l.length := ⟨_, rfl⟩
  have HF : Hid (cwrong (nums l) = crall n0 ((nums l).drop 0)) := by unfold Hid cwrong; rw [if_neg (by rw [en]; exact h2), hn0, en]; rfl
  have HLN : Hid (l.length = n0 ∧ (nums l).length = n0 ∧ 1 ≤ n0 ∧ n0 ≤ 5) := ⟨hn0.symm, en.trans hn0.symm, by omega, by omega⟩
  rw [← hn0] at i0 i0p i0q i1 ⊢
  clear hl h2 en hn0 hm2
  go_enter Try.func20, Try.ntmps20
  go_wp2_with fail
  clear i0 i0p i0q i1
  --LOOK1
  go_loopw [18] (fun s18 wx => ∃ (k m : Nat), k ≤ n0 ∧ s18 = .int .i64 k ∧ Hid (crall n0 ((nums l).drop k) = cwrong (nums l)) ∧ wx = w.drewN m) (fun s18 _ => n0 - (intOf s18).toNat)
  case atStart => exact ⟨0, 0, Nat.zero_le _, rfl, HF.out.symm, rfl⟩
  case round =>
    obtain ⟨k, m, hk, rfl, hg, rfl⟩ := hrel
    by_cases hlt : k < n0
    · have i2 : (k : Int) < (n0 : Int) := by omega
      have hkl : k < l.length := by have := HLN.out.1; omega
      obtain ⟨ad, rfl, _, hcr, hrr⟩ := HL.out.row hkl
      have hstep := crall_at (n0 := n0) (M := nums l) (k := k) (by have := HLN.out; omega)
      rw [hg.out] at hstep
      have hMk : (nums l)[k]'(by have := HLN.out; omega) = l[k].2.1 := by simp [nums]
      rw [hMk] at hstep
      obtain ⟨⟨A1, z, c1⟩, hx1⟩ : ∃ x : Rw, x = l[k] := ⟨_, rfl⟩
      rw [← hx1] at hcr hrr hstep
      have hcr' : w.cell? (ad.add k) = some (.slice A1 z.length c1) := hcr
      have hrr' : Seg w B A1 (z.map (.int .i64)) ∧ z.length ≤ c1 ∧ c1 ≤ maxLen ∧ _ := hrr
      have HZ := Lib.hid hrr'.1
      have HZL : Hid (z.length ≤ 9223372036854775807) := by have h3 := hrr'.2.1; have h4 := hrr'.2.2.1; unfold maxLen at h4; unfold Hid; omega
      have hst : cwrong (nums l) = if crone n0 z ≠ 0 then crone n0 z else crall n0 ((nums l).drop (k + 1)) := hstep
      have HST := Lib.hid hst
      have HKK := Lib.hid (And.intro hk hlt)
      have uk : Hid (wrap64 ((k : Int) + 1) = ((k + 1 : Nat) : Int)) := cw64 (by have := HLN.out; omega)
      clear hg hstep hst hMk hcr hrr hrr' hx1 hk hlt hkl
      by_cases hln : z.length = n0
      · have b1 : ((z.length : Int) != (n0 : Int)) = false := by rw [hln]; simp
        have HLZ := Lib.hid hln
        clear hln
        go_wp2_with fail
        clear b1
        go_loopw [5, 29] (fun s5 s29 wx => ∃ (j : Nat), j ≤ z.length ∧ s29 = .int .i64 j ∧ s5 = .int .i64 (ksum z j) ∧ Hid (∀ i (hi : i < z.length), i < j → ¬ (z[i] < 0 ∨ 9 < z[i])) ∧ wx = w.drewN m) (fun _ s29 _ => z.length - (intOf s29).toNat)
        case atStart => exact ⟨0, Nat.zero_le _, rfl, rfl, fun i hi h => absurd h (Nat.not_lt_zero _), by first | rfl | trivial⟩
        case round =>
          obtain ⟨j, hj, rfl, rfl, hgj, rfl⟩ := hrel
          by_cases hjl : j < z.length
          · have j1 : (j : Int) < (z.length : Int) := by omega
            obtain ⟨zd, rfl, _, hcz⟩ := HZ.out.int hjl
            have uj : Hid (wrap64 ((j : Int) + 1) = ((j + 1 : Nat) : Int)) := cw64 (by have := HZL.out; omega)
            by_cases hb : z[j] < 0 ∨ 9 < z[j]
            · have hf : Hid (cwrong (nums l) = 2) := by
                have e : crone n0 z = 2 := by
                  unfold crone
                  rw [if_neg (by have := HLZ.out; show ¬ z.length ≠ n0; omega), if_pos (cany_at hjl hb)]
                unfold Hid; rw [HST.out, e]; rfl
              obtain ⟨x, hx⟩ : ∃ x, x = z[j] := ⟨_, rfl⟩
              rw [← hx] at hb hcz
              clear hx hgj
              rcases (by omega : x < 0 ∨ (¬ x < 0 ∧ 9 < x)) with h3 | ⟨h4, h3⟩
              all_goals
                clear hb
                go_wp2_with fail
                go_ret
                exact ⟨by rw [hf.out]; rfl, m, rfl⟩
            · have HGJ : Hid (∀ i (hi : i < z.length), i < j + 1 → ¬ (z[i] < 0 ∨ 9 < z[i])) := fun i hi h => by
                by_cases e : i = j
                · subst e; exact hb
                · exact hgj.out i hi (by omega)
              have hks : ksum z (j + 1) = ksum z j + z[j] := by rw [ksum, pat_get hjl]
              have hkb := ksum_nine (j + 1) hjl HGJ.out
              have us : Hid (wrap64 (ksum z j + z[j]) = ksum z (j + 1)) := by
                unfold Hid; rw [← hks]
                have := HLZ.out; have := HLN.out
                unfold wrap64; omega
              obtain ⟨x, hx⟩ : ∃ x, x = z[j] := ⟨_, rfl⟩
              rw [← hx] at hb hcz us
              have h3 : ¬ x < 0 := by omega
              have h4 : ¬ 9 < x := by omega
              have HJ := Lib.hid (And.intro hj hjl)
              clear hx hgj hb hj hjl hks hkb
              generalize ksum z j = s at us ⊢
              go_wp2_with fail
              go_roundw
              case rel => exact ⟨j + 1, by have := HJ.out; omega, by rw [uj.out], by rw [us.out], HGJ, by first | rfl | trivial⟩
              case measure => rw [uj.out]; have := HJ.out; simp [intOf]; omega
          · obtain rfl : j = z.length := by omega
            have j1 : ¬ (z.length : Int) < (z.length : Int) := by omega
            have hkb := ksum_nine z.length hj hgj.out
            have e3 : crone n0 z = if ksum z z.length = 0 then 3 else 0 := by
              unfold crone
              rw [if_neg (by have := HLZ.out; show ¬ z.length ≠ n0; omega), if_neg (by rw [cany_none fun i hi => hgj.out i hi (by omega)]; exact Bool.false_ne_true)]
              rfl
            clear hj hjl hgj
            by_cases h0 : ksum z z.length = 0
            · have hf : Hid (cwrong (nums l) = 3) := by
                rw [if_pos h0] at e3
                unfold Hid; rw [HST.out, e3]; rfl
              rw [h0]
              clear e3 hkb h0
              go_wp2_with fail
              go_ret
              exact ⟨by rw [hf.out]; rfl, m, rfl⟩
            · have hf : Hid (crall n0 ((nums l).drop (k + 1)) = cwrong (nums l)) := by
                rw [if_neg h0] at e3
                unfold Hid; rw [HST.out, e3, if_neg (by simp)]
              have b3 : (ksum z z.length == 0) = false := by rw [beq_eq_false_iff_ne]; exact h0
              have b4 : ¬ ksum z z.length < 1 := by omega
              clear e3 hkb
              generalize ksum z z.length = s at h0 b3 b4 ⊢
              go_wp2_with fail
              go_roundw
              case rel => exact ⟨k + 1, m, by have := HKK.out; omega, by first | rfl | rw [uk.out], hf, by first | rfl | trivial⟩
              case measure => (try rw [uk.out]); have := HKK.out; simp [intOf]; omega
      · have b1 : ((z.length : Int) != (n0 : Int)) = true := by simp; omega
        have hf : Hid (cwrong (nums l) = 1) := by
          have e : crone n0 z = 1 := by unfold crone; rw [if_pos hln]
          unfold Hid; rw [HST.out, e]; rfl
        clear hln
        go_wp2_with fail
        go_ret
        exact ⟨by rw [hf.out]; rfl, m, by first | rfl | rw [World.drewN_drewN]⟩
    · obtain rfl : k = n0 := by omega
      have hf : Hid (cwrong (nums l) = 0) := by
        have h := hg.out
        rw [List.drop_eq_nil_of_le (by have := HLN.out; omega)] at h
        exact h.symm
      clear hg
      go_wp2_with fail
      go_ret
      exact ⟨by rw [hf.out]; rfl, m, rfl⟩
set_option maxRecDepth 20000 in
set_option maxHeartbeats 4000000 in
theorem swrong_any (C : Option Addr) (l : List Rw) (d B : Nat) (w : World) (hl : RowsOk w B C l) (hm2 : l.length ≤ 9223372036854775807) :
    Calls Try.prog 19 #[.slice C l.length d] w fun e w' => e = .returned (.int .i64 (cwrong (nums l))) ∧ ∃ m, w' = w.drewN m := by
  have HL := Lib.hid hl
  have en : (nums l).length = l.length := by simp [nums]
  by_cases h2 : l.length < 1 ∨ 5 < l.length
  · have hf : cwrong (nums l) = 2 := by unfold cwrong; rw [if_pos (by rw [en]; exact h2)]
    rw [hf]
    clear hf hl en
    rcases (by omega : l.length = 0 ∨ (¬ l.length = 0 ∧ 5 < l.length)) with h3 | ⟨h4, h3⟩
    · rw [h3]
      go_enter Try.func19, Try.ntmps19
      go_wp2_with fail
      go_ret
      exact ⟨rfl, 0, rfl⟩
    · have i0 : ¬ (l.length : Int) < 1 := by omega
      have i0p : ¬ (l.length : Int) = 0 := by omega
      have i0q : ((l.length : Int) == 0) = false := by rw [beq_eq_false_iff_ne]; omega
      have i1 : (5 : Int) < (l.length : Int) := by omega
      clear h2 h4
      go_enter Try.func19, Try.ntmps19
      go_wp2_with fail
      go_ret
      exact ⟨rfl, 0, rfl⟩
  have i0 : ¬ (l.length : Int) < 1 := by omega
  have i0p : ¬ (l.length : Int) = 0 := by omega
  have i0q : ((l.length : Int) == 0) = false := by rw [beq_eq_false_iff_ne]; omega
  have i1 : ¬ (5 : Int) < (l.length : Int) := by omega
  obtain ⟨n0, hn0⟩ : ∃ n, n = l.length := ⟨_, rfl⟩
  have HF : Hid (cwrong (nums l) = crall n0 ((nums l).drop 0)) := by unfold Hid cwrong; rw [if_neg (by rw [en]; exact h2), hn0, en]; rfl
  have HLN : Hid (l.length = n0 ∧ (nums l).length = n0 ∧ 1 ≤ n0 ∧ n0 ≤ 5) := ⟨hn0.symm, en.trans hn0.symm, by omega, by omega⟩
  rw [← hn0] at i0 i0p i0q i1 ⊢
  clear hl h2 en hn0 hm2
  go_enter Try.func19, Try.ntmps19
  go_wp2_with fail
  clear i0 i0p i0q i1
  --LOOK1
  go_loopw [18] (fun s18 wx => ∃ (k m : Nat), k ≤ n0 ∧ s18 = .int .i64 k ∧ Hid (crall n0 ((nums l).drop k) = cwrong (nums l)) ∧ wx = w.drewN m) (fun s18 _ => n0 - (intOf s18).toNat)
  case atStart => exact ⟨0, 0, Nat.zero_le _, rfl, HF.out.symm, rfl⟩
  case round =>
    obtain ⟨k, m, hk, rfl, hg, rfl⟩ := hrel
    by_cases hlt : k < n0
    · have i2 : (k : Int) < (n0 : Int) := by omega
      have hkl : k < l.length := by have := HLN.out.1; omega
      obtain ⟨ad, rfl, _, hcr, hrr⟩ := HL.out.row hkl
      have hstep := crall_at (n0 := n0) (M := nums l) (k := k) (by have := HLN.out; omega)
      rw [hg.out] at hstep
      have hMk : (nums l)[k]'(by have := HLN.out; omega) = l[k].2.1 := by simp [nums]
      rw [hMk] at hstep
      obtain ⟨⟨A1, z, c1⟩, hx1⟩ : ∃ x : Rw, x = l[k] := ⟨_, rfl⟩
      rw [← hx1] at hcr hrr hstep
      have hcr' : w.cell? (ad.add k) = some (.slice A1 z.length c1) := hcr
      have hrr' : Seg w B A1 (z.map (.int .i64)) ∧ z.length ≤ c1 ∧ c1 ≤ maxLen ∧ _ := hrr
      have HZ := Lib.hid hrr'.1
      have HZL : Hid (z.length ≤ 9223372036854775807) := by have h3 := hrr'.2.1; have h4 := hrr'.2.2.1; unfold maxLen at h4; unfold Hid; omega
      have hst : cwrong (nums l) = if crone n0 z ≠ 0 then crone n0 z else crall n0 ((nums l).drop (k + 1)) := hstep
      have HST := Lib.hid hst
      have HKK := Lib.hid (And.intro hk hlt)
      have uk : Hid (wrap64 ((k : Int) + 1) = ((k + 1 : Nat) : Int)) := cw64 (by have := HLN.out; omega)
      clear hg hstep hst hMk hcr hrr hrr' hx1 hk hlt hkl
      by_cases hln : z.length = n0
      · have b1 : ((z.length : Int) != (n0 : Int)) = false := by rw [hln]; simp
        have HLZ := Lib.hid hln
        clear hln
        go_wp2_with fail
        clear b1
        go_loopw [5, 29] (fun s5 s29 wx => ∃ (j : Nat), j ≤ z.length ∧ s29 = .int .i64 j ∧ s5 = .int .i64 (ksum z j) ∧ Hid (∀ i (hi : i < z.length), i < j → ¬ (z[i] < 0 ∨ 9 < z[i])) ∧ wx = w.drewN m) (fun _ s29 _ => z.length - (intOf s29).toNat)
        case atStart => exact ⟨0, Nat.zero_le _, rfl, rfl, fun i hi h => absurd h (Nat.not_lt_zero _), by first | rfl | trivial⟩
        case round =>
          obtain ⟨j, hj, rfl, rfl, hgj, rfl⟩ := hrel
          by_cases hjl : j < z.length
          · have j1 : (j : Int) < (z.length : Int) := by omega
            obtain ⟨zd, rfl, _, hcz⟩ := HZ.out.int hjl
            have uj : Hid (wrap64 ((j : Int) + 1) = ((j + 1 : Nat) : Int)) := cw64 (by have := HZL.out; omega)
            by_cases hb : z[j] < 0 ∨ 9 < z[j]
            · have hf : Hid (cwrong (nums l) = 2) := by
                have e : crone n0 z = 2 := by
                  unfold crone
                  rw [if_neg (by have := HLZ.out; show ¬ z.length ≠ n0; omega), if_pos (cany_at hjl hb)]
                unfold Hid; rw [HST.out, e]; rfl
              obtain ⟨x, hx⟩ : ∃ x, x = z[j] := ⟨_, rfl⟩
              rw [← hx] at hb hcz
              clear hx hgj
              rcases (by omega : x < 0 ∨ (¬ x < 0 ∧ 9 < x)) with h3 | ⟨h4, h3⟩
              all_goals
                clear hb
                go_wp2_with fail
                go_ret
                exact ⟨by rw [hf.out]; rfl, m, rfl⟩
            · have HGJ : Hid (∀ i (hi : i < z.length), i < j + 1 → ¬ (z[i] < 0 ∨ 9 < z[i])) := fun i hi h => by
                by_cases e : i = j
                · subst e; exact hb
                · exact hgj.out i hi (by omega)
              have hks : ksum z (j + 1) = ksum z j + z[j] := by rw [ksum, pat_get hjl]
              have hkb := ksum_nine (j + 1) hjl HGJ.out
              have us : Hid (wrap64 (ksum z j + z[j]) = ksum z (j + 1)) := by
                unfold Hid; rw [← hks]
                have := HLZ.out; have := HLN.out
                unfold wrap64; omega
              obtain ⟨x, hx⟩ : ∃ x, x = z[j] := ⟨_, rfl⟩
              rw [← hx] at hb hcz us
              have h3 : ¬ x < 0 := by omega
              have h4 : ¬ 9 < x := by omega
              have HJ := Lib.hid (And.intro hj hjl)
              clear hx hgj hb hj hjl hks hkb
              generalize ksum z j = s at us ⊢
              go_wp2_with fail
              go_roundw
              case rel => exact ⟨j + 1, by have := HJ.out; omega, by rw [uj.out], by rw [us.out], HGJ, by first | rfl | trivial⟩
              case measure => rw [uj.out]; have := HJ.out; simp [intOf]; omega
          · obtain rfl : j = z.length := by omega
            have j1 : ¬ (z.length : Int) < (z.length : Int) := by omega
            have hkb := ksum_nine z.length hj hgj.out
            have e3 : crone n0 z = if ksum z z.length = 0 then 3 else 0 := by
              unfold crone
              rw [if_neg (by have := HLZ.out; show ¬ z.length ≠ n0; omega), if_neg (by rw [cany_none fun i hi => hgj.out i hi (by omega)]; exact Bool.false_ne_true)]
              rfl
            clear hj hjl hgj
            by_cases h0 : ksum z z.length = 0
            · have hf : Hid (cwrong (nums l) = 3) := by
                rw [if_pos h0] at e3
                unfold Hid; rw [HST.out, e3]; rfl
              rw [h0]
              clear e3 hkb h0
              go_wp2_with fail
              go_ret
              exact ⟨by rw [hf.out]; rfl, m, rfl⟩
            · have hf : Hid (crall n0 ((nums l).drop (k + 1)) = cwrong (nums l)) := by
                rw [if_neg h0] at e3
                unfold Hid; rw [HST.out, e3, if_neg (by simp)]
              have b3 : (ksum z z.length == 0) = false := by rw [beq_eq_false_iff_ne]; exact h0
              have b4 : ¬ ksum z z.length < 1 := by omega
              clear e3 hkb
              generalize ksum z z.length = s at h0 b3 b4 ⊢
              go_wp2_with fail
              go_roundw
              case rel => exact ⟨k + 1, m, by have := HKK.out; omega, by first | rfl | rw [uk.out], hf, by first | rfl | trivial⟩
              case measure => (try rw [uk.out]); have := HKK.out; simp [intOf]; omega
      · have b1 : ((z.length : Int) != (n0 : Int)) = true := by simp; omega
        have hf : Hid (cwrong (nums l) = 1) := by
          have e : crone n0 z = 1 := by unfold crone; rw [if_pos hln]
          unfold Hid; rw [HST.out, e]; rfl
        clear hln
        go_wp2_with fail
        go_ret
        exact ⟨by rw [hf.out]; rfl, m, by first | rfl | rw [World.drewN_drewN]⟩
    · obtain rfl : k = n0 := by omega
      have hf : Hid (cwrong (nums l) = 0) := by
        have h := hg.out
        rw [List.drop_eq_nil_of_le (by have := HLN.out; omega)] at h
        exact h.symm
      clear hg
      go_wp2_with fail
      go_ret
      exact ⟨by rw [hf.out]; rfl, m, rfl⟩
set_option maxRecDepth 20000 in
set_option maxHeartbeats 4000000 in
/-- A row's sum. -/
theorem csum_any (A : Option Addr) (z : List Int) (c B : Nat) (w : World) (hs : Seg w B A (z.map (.int .i64))) (hz : ∀ y ∈ z, 0 ≤ y ∧ y ≤ 9) (hm : z.length ≤ 5) :
    Calls Try.prog 46 #[.slice A z.length c] w fun e w' => e = .returned (.int .i64 (csum z)) ∧ w' = w := by
  have HS := Lib.hid hs
  have HZ := Lib.hid hz
  have HM := Lib.hid hm
  clear hs hz hm
  go_enter Try.func46, Try.ntmps46
  go_wp2_with fail
  go_loopw [3, 8] (fun s3 s8 wx => ∃ (j : Nat), j ≤ z.length ∧ s8 = .int .i64 j ∧ s3 = .int .i64 (ksum z j) ∧ wx = w) (fun _ s8 _ => z.length - (intOf s8).toNat)
  case atStart => exact ⟨0, Nat.zero_le _, rfl, rfl, by first | rfl | trivial⟩
  case round =>
    obtain ⟨j, hj, rfl, rfl, rfl⟩ := hrel
    by_cases hjl : j < z.length
    · have j1 : (j : Int) < (z.length : Int) := by omega
      obtain ⟨zd, rfl, _, hcz⟩ := HS.out.pat hjl
      have uj : Hid (wrap64 ((j : Int) + 1) = ((j + 1 : Nat) : Int)) := cw64 (by have := HM.out; omega)
      have hkb := ksum_nine (z := z) (j + 1) hjl (fun i hi _ => by have := HZ.out _ (List.getElem_mem hi); omega)
      have us : Hid (wrap64 (ksum z j + pat z j) = ksum z (j + 1)) := by
        rw [ksum] at hkb
        unfold Hid; rw [ksum]
        have := HM.out
        unfold wrap64; omega
      have HJ := Lib.hid (And.intro hj hjl)
      clear hj hjl hkb
      generalize ksum z j = s at us ⊢
      generalize pat z j = x at us hcz
      go_wp2_with fail
      go_roundw
      case rel => exact ⟨j + 1, by have := HJ.out; omega, by rw [uj.out], by rw [us.out], by first | rfl | trivial⟩
      case measure => rw [uj.out]; have := HJ.out; simp [intOf]; omega
    · obtain rfl : j = z.length := by omega
      go_wp2_with fail
      go_ret
      exact ⟨rfl, rfl⟩
end Go.Proofs.Ytkffakekakhgdaa
