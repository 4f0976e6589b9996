/- Lines of a text, and the numbers in them: plain; two ways to read a line come to the same. No condition. -/
import Derived.Test.YtmibifmabkaakaaDoorBenS
import Derived.Lib.SplitLaws
import Derived.Lib.AtoiTie
import Derived.Lib.ItoaLen
namespace Go.Proofs.YtmibifmabkaakaaDoor
set_option linter.unusedVariables false
set_option linter.unusedSimpArgs false

abbrev Bs := List UInt8
abbrev MaxC : Nat := 1099511627776
def isDig (c : UInt8) : Bool := decide (48 ≤ c.toNat) && decide (c.toNat ≤ 57)
theorem isDig_iff {c : UInt8} : isDig c = true ↔ 48 ≤ c.toNat ∧ c.toNat ≤ 57 := by unfold isDig; simp
def valF (acc : Nat) (l : Bs) : Nat := l.foldl (fun n c => 10 * n + (c.toNat - 48)) acc
theorem valF_snoc (acc : Nat) (l : Bs) (c : UInt8) : valF acc (l ++ [c]) = 10 * valF acc l + (c.toNat - 48) := by unfold valF; rw [List.foldl_append]; rfl
theorem dig_byte {d : Nat} (h : d < 10) : (UInt8.ofNat (48 + d)).toNat = 48 + d := by
  rw [UInt8.toNat_ofNat']; omega
theorem dig_of {c : UInt8} (h : isDig c = true) : UInt8.ofNat (48 + (c.toNat - 48)) = c := by
  have := isDig_iff.1 h
  apply UInt8.toNat_inj.1
  rw [UInt8.toNat_ofNat']; omega
theorem head_app {l : Bs} (m : Bs) (h : l ≠ []) : (l ++ m).head? = l.head? := by cases l with | nil => exact absurd rfl h | cons c t => rfl
theorem dec_big {n : Nat} (h : ¬ n < 10) : Lib.decDigits n = Lib.decDigits (n / 10) ++ [UInt8.ofNat (48 + n % 10)] := by
  conv => lhs; rw [Lib.decDigits, dif_neg h]
theorem dec_ne (n : Nat) : Lib.decDigits n ≠ [] := by
  by_cases h : n < 10
  · rw [Lib.decDigits_one h]; simp
  · rw [dec_big h]; simp
theorem dec_all (n : Nat) : ∀ c ∈ Lib.decDigits n, isDig c = true := by
  induction n using Nat.strongRecOn with
  | ind n ih =>
    intro c hc
    by_cases h : n < 10
    · rw [Lib.decDigits_one h] at hc
      rw [List.mem_singleton.1 hc, isDig_iff, dig_byte h]; omega
    · rw [dec_big h] at hc
      rcases List.mem_append.1 hc with hc | hc
      · exact ih (n / 10) (by omega) c hc
      · rw [List.mem_singleton.1 hc, isDig_iff, dig_byte (Nat.mod_lt _ (by decide))]
        have := Nat.mod_lt n (show 10 > 0 by decide)
        omega
theorem dec_val (n : Nat) : valF 0 (Lib.decDigits n) = n := by
  induction n using Nat.strongRecOn with
  | ind n ih =>
    by_cases h : n < 10
    · rw [Lib.decDigits_one h]
      show 10 * 0 + ((UInt8.ofNat (48 + n)).toNat - 48) = n
      rw [dig_byte h]; omega
    · rw [dec_big h, valF_snoc, ih (n / 10) (by omega), dig_byte (Nat.mod_lt _ (by decide))]
      omega
theorem dec_head {n : Nat} (hn : n ≠ 0) : (Lib.decDigits n).head? ≠ some 48 := by
  induction n using Nat.strongRecOn with
  | ind n ih =>
    by_cases h : n < 10
    · rw [Lib.decDigits_one h]
      intro e
      have e := congrArg (Option.map UInt8.toNat) e
      simp only [List.head?_cons, Option.map_some, Option.some.injEq] at e
      rw [dig_byte h] at e
      have : (48 : UInt8).toNat = 48 := rfl
      omega
    · rw [dec_big h, head_app _ (dec_ne _)]
      exact ih (n / 10) (by omega) (by omega)
theorem dec_len {n : Nat} (h : n ≤ MaxC) : (Lib.decDigits n).length ≤ 13 := by
  rw [Lib.decDigits_length]
  by_cases h0 : n = 0
  · subst h0; rw [Lib.nDigits_small (by decide)]; decide
  · rcases Nat.lt_or_ge (Lib.nDigits n) 14 with h1 | h1
    · omega
    · exfalso
      have : 10 ^ 13 ≤ n := by
        rcases Nat.lt_or_ge n (10 ^ 13) with h2 | h2
        · exfalso
          have h3 : ∀ k, n < 10 ^ (k + 1) → Lib.nDigits n ≤ k + 1 := by
            intro k
            induction k with
            | zero => intro h; rw [Lib.nDigits_small (by simpa using h)]; exact Nat.le_refl _
            | succ k ih =>
              intro h
              rcases Nat.lt_or_ge n (10 ^ (k + 1)) with h4 | h4
              · have := ih h4; omega
              · rw [Lib.nDigits_unique (k + 1) n h4 h]; exact Nat.le_refl _
          have := h3 12 h2
          omega
        · exact h2
      have : (10 : Nat) ^ 13 = 10000000000000 := by decide
      have h := h
      unfold MaxC at h
      omega
theorem dec_back : ∀ (k : Nat) (ds : Bs), ds.length = k → (∀ c ∈ ds, isDig c = true) → ds ≠ [] → (ds.length = 1 ∨ ds.head? ≠ some 48) → Lib.decDigits (valF 0 ds) = ds := by
  intro k
  induction k with
  | zero => intro ds h0 _ hne; exact absurd (List.length_eq_zero_iff.1 h0) hne
  | succ k ih =>
    intro ds hk hall hne hh
    obtain ⟨ds', c, rfl⟩ : ∃ ds' c, ds = ds' ++ [c] := ⟨ds.dropLast, ds.getLast hne, (List.dropLast_concat_getLast hne).symm⟩
    have hc : isDig c = true := hall c (by simp)
    have hcd := isDig_iff.1 hc
    rw [valF_snoc]
    by_cases h0 : ds' = []
    · subst h0
      show Lib.decDigits (10 * 0 + (c.toNat - 48)) = [c]
      rw [Lib.decDigits_one (by omega), show 48 + (10 * 0 + (c.toNat - 48)) = 48 + (c.toNat - 48) by omega, dig_of hc]
    · have hlen : 0 < ds'.length := List.length_pos_iff.2 h0
      have hh' : ds'.head? ≠ some 48 := by
        rcases hh with h1 | h1
        · rw [List.length_append, List.length_singleton] at h1; omega
        · rwa [head_app _ h0] at h1
      have hi := ih ds' (by rw [List.length_append] at hk; simp at hk; omega) (fun x hx => hall x (by simp [hx])) h0 (Or.inr hh')
      have hv : valF 0 ds' ≠ 0 := by
        intro e
        rw [e, Lib.decDigits_one (by decide)] at hi
        rw [← hi] at hh'
        exact hh' rfl
      rw [dec_big (by omega), show (10 * valF 0 ds' + (c.toNat - 48)) / 10 = valF 0 ds' by omega, hi, show (10 * valF 0 ds' + (c.toNat - 48)) % 10 = c.toNat - 48 by omega, dig_of hc]
/-! ### a number from a place on -/
def scanDs (s : Bs) : Bs := (s.take 14).takeWhile isDig
def zscanR (s : Bs) : Option (Nat × Bs) :=
  if (scanDs s).length = 0 ∨ (1 < (scanDs s).length ∧ s.head? = some 48) ∨ MaxC < valF 0 (scanDs s) then none else some (valF 0 (scanDs s), s.drop (scanDs s).length)
theorem takeWhile_pre (p : UInt8 → Bool) : ∀ (l : Bs), l = l.takeWhile p ++ l.drop (l.takeWhile p).length
  | [] => rfl
  | c :: l => by
    rw [List.takeWhile_cons]
    split
    · simp only [List.cons_append, List.length_cons, List.drop_succ_cons, List.cons.injEq, true_and]
      exact takeWhile_pre p l
    · rfl
theorem scan_pre (s : Bs) : s = scanDs s ++ s.drop (scanDs s).length := by
  have h := takeWhile_pre isDig (s.take 14)
  have hl : (scanDs s).length ≤ (s.take 14).length := List.Sublist.length_le (List.takeWhile_sublist _)
  have e : scanDs s = (s.take (scanDs s).length) := by
    have : (s.take 14).take (scanDs s).length = scanDs s := by
      conv => lhs; rw [h]
      exact List.take_left
    rw [List.take_take] at this
    rw [List.length_take] at hl
    rw [Nat.min_eq_left (by omega)] at this
    exact this.symm
  conv => rhs; lhs; rw [e]
  exact (List.take_append_drop _ s).symm
theorem scan_all (s : Bs) : ∀ c ∈ scanDs s, isDig c = true := fun c hc => by
  have h := List.all_takeWhile (p := isDig) (l := s.take 14)
  exact List.all_eq_true.1 h c hc
theorem scan_le (s : Bs) : (scanDs s).length ≤ 14 := by
  have hl : (scanDs s).length ≤ (s.take 14).length := List.Sublist.length_le (List.takeWhile_sublist _)
  rw [List.length_take] at hl
  omega
def NoDig (r : Bs) : Prop := ∀ c t, r = c :: t → isDig c = false
theorem takeWhile_nodig {r : Bs} (h : NoDig r) : r.takeWhile isDig = [] := by
  cases r with
  | nil => rfl
  | cons c t => rw [List.takeWhile_cons, h c t rfl]; rfl
theorem takeWhile_stop (p : UInt8 → Bool) : ∀ (l : Bs) (c : UInt8) (t : Bs), l.drop (l.takeWhile p).length = c :: t → p c = false
  | [], c, t, h => by simp at h
  | d :: l, c, t, h => by
    rw [List.takeWhile_cons] at h
    by_cases hd : p d = true
    · rw [if_pos hd] at h
      exact takeWhile_stop p l c t (by simpa using h)
    · rw [if_neg hd] at h
      simp at h
      rw [← h.1]
      simpa using hd
theorem scan_stop {s : Bs} (h : (scanDs s).length < 14) : NoDig (s.drop (scanDs s).length) := by
  intro c t e
  refine takeWhile_stop isDig (s.take 14) c ((s.take 14).drop ((scanDs s).length + 1)) ?_
  show (s.take 14).drop (scanDs s).length = _
  have hl : (scanDs s).length < s.length := by
    have := congrArg List.length e
    rw [List.length_drop, List.length_cons] at this
    omega
  rw [List.drop_eq_getElem_cons (by rw [List.length_take]; omega)]
  congr 1
  rw [List.getElem_take]
  have := List.drop_eq_getElem_cons hl
  rw [this] at e
  injection e
theorem scan_of (ds r : Bs) (hall : ∀ c ∈ ds, isDig c = true) (hl : ds.length ≤ 13) (hr : NoDig r) : scanDs (ds ++ r) = ds := by
  unfold scanDs
  rw [List.take_append, List.take_of_length_le (by omega)]
  rw [List.takeWhile_append_of_pos hall]
  have : ((r.take (14 - ds.length)).takeWhile isDig) = [] := takeWhile_nodig fun c t e => by
    cases r with
    | nil => simp at e
    | cons b u =>
      obtain ⟨k, hk⟩ : ∃ k, 14 - ds.length = k + 1 := ⟨13 - ds.length, by omega⟩
      rw [hk, List.take_succ_cons] at e
      injection e with e _
      subst e
      exact hr _ _ rfl
  rw [this, List.append_nil]
theorem zscan_iff (s : Bs) (n : Nat) (r : Bs) : zscanR s = some (n, r) ↔ n ≤ MaxC ∧ s = Lib.decDigits n ++ r ∧ NoDig r := by
  constructor
  · intro h
    unfold zscanR at h
    split at h
    · cases h
    · rename_i hc
      injection h with h
      injection h with h1 h2
      have hne : scanDs s ≠ [] := fun e => hc (Or.inl (by rw [e]; rfl))
      have hv : valF 0 (scanDs s) ≤ MaxC := by
        rcases Nat.lt_or_ge MaxC (valF 0 (scanDs s)) with h | h
        · exact absurd (Or.inr (Or.inr h)) hc
        · exact h
      have hhd : (scanDs s).head? = s.head? := by
        conv => rhs; rw [scan_pre s]
        rw [head_app _ hne]
      have hb := dec_back _ (scanDs s) rfl (scan_all s) hne (by
        by_cases h1 : (scanDs s).length = 1
        · exact Or.inl h1
        · have : 0 < (scanDs s).length := List.length_pos_iff.2 hne
          right
          intro e
          exact hc (Or.inr (Or.inl ⟨by omega, by rw [← hhd]; exact e⟩)))
      rw [h1] at hb hv
      refine ⟨hv, ?_, ?_⟩
      · rw [hb, ← h2]; exact scan_pre s
      · rw [← h2]
        apply scan_stop
        have := dec_len hv
        rw [hb] at this
        omega
  · rintro ⟨hn, rfl, hr⟩
    have e := scan_of (Lib.decDigits n) r (dec_all n) (dec_len hn) hr
    unfold zscanR
    rw [e, dec_val]
    rw [if_neg, List.drop_left]
    intro hc
    rcases hc with h | ⟨h1, h2⟩ | h
    · exact dec_ne n (List.length_eq_zero_iff.1 h)
    · rw [head_app _ (dec_ne n)] at h2
      by_cases h0 : n = 0
      · subst h0
        rw [Lib.decDigits_one (by decide)] at h1
        exact absurd h1 (by decide)
      · exact dec_head h0 h2
    · omega
/-! ### a whole number -/
def numOkR (s : Bs) : Option Nat := match zscanR s with | some (n, []) => some n | _ => none
theorem numOk_iff (s : Bs) (n : Nat) : numOkR s = some n ↔ n ≤ MaxC ∧ s = Lib.decDigits n := by
  unfold numOkR
  constructor
  · intro h
    split at h
    · rename_i m hz
      injection h with h
      subst h
      obtain ⟨h1, h2, h3⟩ := (zscan_iff s m []).1 hz
      exact ⟨h1, by rw [h2, List.append_nil]⟩
    · cases h
  · rintro ⟨h1, rfl⟩
    have := (zscan_iff (Lib.decDigits n) n []).2 ⟨h1, (List.append_nil _).symm, fun c t e => by cases e⟩
    rw [this]
theorem parse_dec (r : Bs) : ∀ (n : Nat), n ≤ MaxC → Lib.parseUint10 0 (Lib.decDigits n ++ r) = Lib.parseUint10 n r := by
  intro n
  induction n using Nat.strongRecOn generalizing r with
  | ind n ih =>
    intro hn
    have step : ∀ (m d : Nat) (r : Bs), d < 10 → m ≤ MaxC → Lib.parseUint10 m (UInt8.ofNat (48 + d) :: r) = Lib.parseUint10 (m * 10 + d) r := by
      intro m d r hd hm
      have hm : m ≤ 1099511627776 := hm
      rw [Lib.parseUint10, dig_byte hd, if_pos (by omega), if_neg (by omega), if_neg (by omega), show m * 10 + (48 + d - 48) = m * 10 + d by omega]
    by_cases h : n < 10
    · rw [Lib.decDigits_one h]
      show Lib.parseUint10 0 (UInt8.ofNat (48 + n) :: r) = _
      rw [step 0 n r h (by omega), show 0 * 10 + n = n by omega]
    · rw [dec_big h, List.append_assoc, ih (n / 10) (by omega) _ (by omega)]
      show Lib.parseUint10 (n / 10) (UInt8.ofNat (48 + n % 10) :: r) = _
      rw [step (n / 10) (n % 10) r (Nat.mod_lt _ (by decide)) (by omega), show n / 10 * 10 + n % 10 = n by omega]
theorem atoi_dec {n : Nat} (h : n ≤ MaxC) : Lib.atoiAll (Lib.decDigits n) = .ok (n : Int) := by
  have hp : Lib.parseMag (Lib.decDigits n) = .ok n := by
    unfold Lib.parseMag
    rw [if_neg (dec_ne n)]
    have := parse_dec [] n h
    rw [List.append_nil] at this
    rw [this]
    rfl
  obtain ⟨c, r, e⟩ : ∃ c r, Lib.decDigits n = c :: r := by
    cases h : Lib.decDigits n with
    | nil => exact absurd h (dec_ne n)
    | cons c r => exact ⟨c, r, rfl⟩
  have hc := isDig_iff.1 (dec_all n c (by rw [e]; simp))
  rw [e] at hp ⊢
  rw [Lib.atoiAll_plain c r (by omega) (by omega), hp]
  unfold Lib.signless
  have h : n ≤ 1099511627776 := h
  simp only
  rw [if_neg (by omega)]
/-- What bench.numbers asks of one word. -/
theorem numOk_atoi (s : Bs) : (∃ v, Lib.atoiAll s = .ok v ∧ 0 ≤ v ∧ v ≤ 1099511627776 ∧ Lib.itoa v = s ∧ numOkR s = some v.toNat) ∨ (numOkR s = none ∧ ∀ v, Lib.atoiAll s = .ok v → ¬ (0 ≤ v ∧ v ≤ 1099511627776 ∧ Lib.itoa v = s)) := by
  cases h : numOkR s with
  | some n =>
    left
    obtain ⟨h1, h2⟩ := (numOk_iff s n).1 h
    have h1' : n ≤ 1099511627776 := h1
    refine ⟨n, by rw [h2]; exact atoi_dec h1, by omega, by omega, ?_, by simp⟩
    unfold Lib.itoa
    rw [if_neg (by omega), h2]
    rfl
  | none =>
    right
    refine ⟨rfl, fun v hv ⟨h0, h1, h2⟩ => ?_⟩
    have : numOkR s = some v.toNat := by
      rw [numOk_iff]
      refine ⟨by show v.toNat ≤ 1099511627776; omega, ?_⟩
      rw [← h2]
      unfold Lib.itoa
      rw [if_neg (by omega)]
    rw [h] at this
    cases this
/-! ### cutting at a byte -/
theorem first_occ (c : UInt8) : ∀ (l : Bs), c ∉ l ∨ ∃ a r, c ∉ a ∧ l = a ++ c :: r
  | [] => Or.inl (by simp)
  | d :: l => by
    by_cases h : d = c
    · subst h; exact Or.inr ⟨[], l, by simp, rfl⟩
    · rcases first_occ c l with h1 | ⟨a, r, h1, rfl⟩
      · left; intro hm; rcases List.mem_cons.1 hm with e | e
        · exact h e.symm
        · exact h1 e
      · exact Or.inr ⟨d :: a, r, by intro hm; rcases List.mem_cons.1 hm with e | e; exact h e.symm; exact h1 e, rfl⟩
theorem index_none' (c : UInt8) : ∀ (l : Bs), c ∉ l → Lib.index l [c] = -1
  | l, h => by
    rw [Lib.index_one]
    induction l with
    | nil => rfl
    | cons d l ih =>
      have hd : (d == c) = false := beq_eq_false_iff_ne.2 fun e => h (by rw [e]; simp)
      unfold Lib.indexByte
      rw [hd, ih fun hm => h (List.mem_cons_of_mem _ hm)]
      rfl
theorem index_at (c : UInt8) (r : Bs) : ∀ (a : Bs), c ∉ a → Lib.index (a ++ c :: r) [c] = (a.length : Nat)
  | a, h => by
    rw [Lib.index_one]
    induction a with
    | nil =>
      show Lib.indexByte (c :: r) c = _
      unfold Lib.indexByte
      simp
    | cons d a ih =>
      have hd : (d == c) = false := beq_eq_false_iff_ne.2 fun e => h (by rw [e]; simp)
      show Lib.indexByte (d :: (a ++ c :: r)) c = _
      unfold Lib.indexByte
      rw [hd, ih fun hm => h (List.mem_cons_of_mem _ hm)]
      have : (((a.length : Nat) : Int) == -1) = false := beq_eq_false_iff_ne.2 (by omega)
      rw [this]
      simp
theorem cut_none {c : UInt8} {l : Bs} (h : c ∉ l) : Lib.cut l [c] = (l, [], false) := by
  unfold Lib.cut
  rw [index_none' c l h, if_neg (by decide)]
theorem cut_at {c : UInt8} {a : Bs} (r : Bs) (h : c ∉ a) : Lib.cut (a ++ c :: r) [c] = (a, r, true) := by
  unfold Lib.cut
  rw [index_at c r a h, if_pos (by omega), Int.toNat_natCast, List.take_left, show a.length + [c].length = (a ++ [c]).length by simp, show a ++ c :: r = (a ++ [c]) ++ r by simp, List.drop_left]
theorem split_none {c : UInt8} {l : Bs} (h : c ∉ l) : Lib.split l [c] = [l] := by
  unfold Lib.split
  rw [Lib.count_miss (index_none' c l h)]
  rfl
theorem split_at {c : UInt8} {a : Bs} (r : Bs) (h : c ∉ a) : Lib.split (a ++ c :: r) [c] = a :: Lib.split r [c] := by
  have hi := index_at c r a h
  have hd : (a ++ c :: r).drop (a.length + [c].length) = r := by rw [show a.length + [c].length = (a ++ [c]).length by simp, show a ++ c :: r = (a ++ [c]) ++ r by simp, List.drop_left]
  unfold Lib.split
  rw [Lib.count_hit (by simp) hi, hd, Nat.add_comm, Lib.splitK, hi, if_neg (by simp), Int.toNat_natCast, Nat.add_zero, List.take_left, hd]
theorem split_ne (l : Bs) (c : UInt8) : Lib.split l [c] ≠ [] := by
  rcases first_occ c l with h | ⟨a, r, h, rfl⟩
  · rw [split_none h]; simp
  · rw [split_at r h]; simp
theorem split_two {c : UInt8} {l u v : Bs} (h : Lib.split l [c] = [u, v]) : l = u ++ c :: v ∧ c ∉ v := by
  rcases first_occ c l with h1 | ⟨a, r, h1, rfl⟩
  · rw [split_none h1] at h; simp at h
  · rw [split_at r h1] at h
    injection h with e h
    rcases first_occ c r with h2 | ⟨b, s, h2, rfl⟩
    · rw [split_none h2] at h
      injection h with e2 _
      subst e e2
      exact ⟨rfl, h2⟩
    · rw [split_at s h2] at h
      injection h with e2 h
      exact absurd h (split_ne s c)
theorem split_three {c : UInt8} {l u v x : Bs} (h : Lib.split l [c] = [u, v, x]) : l = u ++ c :: (v ++ c :: x) := by
  rcases first_occ c l with h1 | ⟨a, r, h1, rfl⟩
  · rw [split_none h1] at h; simp at h
  · rw [split_at r h1] at h
    injection h with e h
    subst e
    rw [(split_two h).1]
/-! ### a line -/
def wAdd : Bs := [97, 100, 100]
def wRoom : Bs := [114, 111, 111, 109]
def allOk : List Bs → Option (List Nat)
  | [] => some []
  | s :: r => match numOkR s with | none => none | some n => (allOk r).map (n :: ·)
def numsP (line word : Bs) (many : Nat) : Option (List Nat) :=
  if (Lib.split line [32]).length = many + 1 ∧ (Lib.split line [32]).head? = some word then allOk (Lib.split line [32]).tail else none
def zstepR (s word : Bs) : Option (Nat × Bs) := if word.isPrefixOf s then zscanR (s.drop word.length) else none
def eol : Bs → Option Bs | c :: r => if c = 10 then some r else none | [] => none
def addZ (t : Bs) : Option (Nat × Nat × Bs) :=
  match zstepR t (wAdd ++ [32]) with
  | none => none
  | some (x, a) => match zstepR a [32] with
    | none => none
    | some (d, b) => (eol b).map fun r => (x, d, r)
def roomZ (t : Bs) : Option (Nat × Bs) := match zstepR t (wRoom ++ [32]) with | none => none | some (x, b) => (eol b).map fun r => (x, r)
def addP (t : Bs) : Option (Nat × Nat × Bs) :=
  if (Lib.cut t [10]).2.2 = true then match numsP (Lib.cut t [10]).1 wAdd 2 with | some [x, d] => some (x, d, (Lib.cut t [10]).2.1) | _ => none else none
def roomP (t : Bs) : Option (Nat × Bs) :=
  if (Lib.cut t [10]).2.2 = true then match numsP (Lib.cut t [10]).1 wRoom 1 with | some [x] => some (x, (Lib.cut t [10]).2.1) | _ => none else none
theorem zstep_iff (s word : Bs) (n : Nat) (r : Bs) : zstepR s word = some (n, r) ↔ n ≤ MaxC ∧ s = word ++ (Lib.decDigits n ++ r) ∧ NoDig r := by
  unfold zstepR
  constructor
  · intro h
    split at h
    · rename_i hp
      obtain ⟨t, rfl⟩ := List.isPrefixOf_iff_prefix.1 hp
      rw [List.drop_left] at h
      obtain ⟨h1, h2, h3⟩ := (zscan_iff t n r).1 h
      exact ⟨h1, by rw [h2], h3⟩
    · cases h
  · rintro ⟨h1, rfl, h3⟩
    rw [if_pos (List.isPrefixOf_iff_prefix.2 ⟨_, rfl⟩), List.drop_left]
    exact (zscan_iff _ n r).2 ⟨h1, rfl, h3⟩
theorem eol_iff (b r : Bs) : eol b = some r ↔ b = 10 :: r := by
  cases b with
  | nil => simp [eol]
  | cons c t =>
    unfold eol
    by_cases h : c = 10
    · subst h; simp
    · simp [h]
theorem nodig_cons {c : UInt8} (h : isDig c = false) (r : Bs) : NoDig (c :: r) := fun d t e => by injection e with e _; rw [← e]; exact h
theorem addZ_iff (t : Bs) (x d : Nat) (r : Bs) : addZ t = some (x, d, r) ↔ x ≤ MaxC ∧ d ≤ MaxC ∧ t = wAdd ++ 32 :: (Lib.decDigits x ++ 32 :: (Lib.decDigits d ++ 10 :: r)) := by
  unfold addZ
  constructor
  · intro h
    split at h
    · cases h
    · rename_i y a hz
      split at h
      · cases h
      · rename_i e b hz2
        obtain ⟨r2, h2, h3⟩ := Option.map_eq_some_iff.1 h
        injection h3 with e1 h3
        injection h3 with e2 e3
        subst e1 e2 e3
        obtain ⟨p1, p2, _⟩ := (zstep_iff _ _ _ _).1 hz
        obtain ⟨q1, q2, _⟩ := (zstep_iff _ _ _ _).1 hz2
        rw [(eol_iff _ _).1 h2] at q2
        refine ⟨p1, q1, ?_⟩
        rw [p2, q2]
        simp
  · rintro ⟨hx, hd, rfl⟩
    rw [(zstep_iff _ (wAdd ++ [32]) x (32 :: (Lib.decDigits d ++ 10 :: r))).2 ⟨hx, by simp, nodig_cons (by decide) _⟩]
    simp only
    rw [(zstep_iff (32 :: (Lib.decDigits d ++ 10 :: r)) [32] d (10 :: r)).2 ⟨hd, rfl, nodig_cons (by decide) _⟩]
    simp only
    rw [(eol_iff _ r).2 rfl]
    rfl
theorem roomZ_iff (t : Bs) (x : Nat) (r : Bs) : roomZ t = some (x, r) ↔ x ≤ MaxC ∧ t = wRoom ++ 32 :: (Lib.decDigits x ++ 10 :: r) := by
  unfold roomZ
  constructor
  · intro h
    split at h
    · cases h
    · rename_i y a hz
      obtain ⟨r2, h2, h3⟩ := Option.map_eq_some_iff.1 h
      injection h3 with e1 e2
      subst e1 e2
      obtain ⟨p1, p2, _⟩ := (zstep_iff _ _ _ _).1 hz
      rw [(eol_iff _ _).1 h2] at p2
      refine ⟨p1, ?_⟩
      rw [p2]
      simp
  · rintro ⟨hx, rfl⟩
    rw [(zstep_iff _ (wRoom ++ [32]) x (10 :: r)).2 ⟨hx, by simp, nodig_cons (by decide) _⟩]
    simp only
    rw [(eol_iff _ r).2 rfl]
    rfl
theorem dec_no {c : UInt8} (h : isDig c = false) (n : Nat) : c ∉ Lib.decDigits n := fun hm => by
  have := dec_all n c hm
  rw [h] at this
  cases this
theorem allOk_cons {s : Bs} {r : List Bs} {l : List Nat} (h : allOk (s :: r) = some l) : ∃ n m, l = n :: m ∧ s = Lib.decDigits n ∧ n ≤ MaxC ∧ allOk r = some m := by
  unfold allOk at h
  split at h
  · cases h
  · rename_i n hn
    obtain ⟨m, h1, h2⟩ := Option.map_eq_some_iff.1 h
    obtain ⟨h3, h4⟩ := (numOk_iff _ _).1 hn
    exact ⟨n, m, h2.symm, h4, h3, h1⟩
theorem allOk_mk {n : Nat} (h : n ≤ MaxC) {r : List Bs} {m : List Nat} (hr : allOk r = some m) : allOk (Lib.decDigits n :: r) = some (n :: m) := by
  unfold allOk
  rw [(numOk_iff _ n).2 ⟨h, rfl⟩]
  simp [hr]
theorem nums2_iff (line word : Bs) (hw : (32 : UInt8) ∉ word) (x d : Nat) : numsP line word 2 = some [x, d] ↔ x ≤ MaxC ∧ d ≤ MaxC ∧ line = word ++ 32 :: (Lib.decDigits x ++ 32 :: Lib.decDigits d) := by
  unfold numsP
  constructor
  · intro h
    split at h
    · rename_i hc
      obtain ⟨hl, hh⟩ := hc
      obtain ⟨u, v, y, e⟩ : ∃ u v y, Lib.split line [32] = [u, v, y] := by
        match hs : Lib.split line [32], hl with
        | [u, v, y], _ => exact ⟨u, v, y, rfl⟩
      rw [e] at h hh
      injection hh with hh
      subst hh
      obtain ⟨n, m, e1, e2, h1, h2⟩ := allOk_cons h
      obtain ⟨n2, m2, e3, e4, h3, h4⟩ := allOk_cons h2
      subst e3
      injection e1 with f1 f2
      injection f2 with f2 f3
      subst f1 f2
      refine ⟨h1, h3, ?_⟩
      rw [split_three e, e2, e4]
    · cases h
  · rintro ⟨hx, hd, rfl⟩
    have e : Lib.split (word ++ 32 :: (Lib.decDigits x ++ 32 :: Lib.decDigits d)) [32] = [word, Lib.decDigits x, Lib.decDigits d] := by
      rw [split_at _ hw, split_at _ (dec_no (by decide) x), split_none (dec_no (by decide) d)]
    rw [e, if_pos ⟨rfl, rfl⟩]
    exact allOk_mk hx (allOk_mk hd rfl)
theorem nums1_iff (line word : Bs) (hw : (32 : UInt8) ∉ word) (x : Nat) : numsP line word 1 = some [x] ↔ x ≤ MaxC ∧ line = word ++ 32 :: Lib.decDigits x := by
  unfold numsP
  constructor
  · intro h
    split at h
    · rename_i hc
      obtain ⟨hl, hh⟩ := hc
      obtain ⟨u, v, e⟩ : ∃ u v, Lib.split line [32] = [u, v] := by
        match hs : Lib.split line [32], hl with
        | [u, v], _ => exact ⟨u, v, rfl⟩
      rw [e] at h hh
      injection hh with hh
      subst hh
      obtain ⟨n, m, e1, e2, h1, h2⟩ := allOk_cons h
      injection e1 with f1 f2
      subst f1
      refine ⟨h1, ?_⟩
      rw [(split_two e).1, e2]
    · cases h
  · rintro ⟨hx, rfl⟩
    have e : Lib.split (word ++ 32 :: Lib.decDigits x) [32] = [word, Lib.decDigits x] := by
      rw [split_at _ hw, split_none (dec_no (by decide) x)]
    rw [e, if_pos ⟨rfl, rfl⟩]
    exact allOk_mk hx rfl
theorem allOk_len : ∀ (l : List Bs) (m : List Nat), allOk l = some m → m.length = l.length
  | [], m, h => by injection h with h; subst h; rfl
  | s :: r, m, h => by
    obtain ⟨n, m', e, _, _, h2⟩ := allOk_cons h
    rw [e, List.length_cons, List.length_cons, allOk_len r m' h2]
theorem nums_len {line word : Bs} {k : Nat} {m : List Nat} (h : numsP line word k = some m) : m.length = k := by
  unfold numsP at h
  split at h
  · rename_i hc
    rw [allOk_len _ _ h, List.length_tail, hc.1]
    rfl
  · cases h
theorem addP_iff (t : Bs) (x d : Nat) (r : Bs) : addP t = some (x, d, r) ↔ x ≤ MaxC ∧ d ≤ MaxC ∧ t = wAdd ++ 32 :: (Lib.decDigits x ++ 32 :: (Lib.decDigits d ++ 10 :: r)) := by
  constructor
  · intro h
    unfold addP at h
    split at h
    · rename_i hw
      split at h
      · rename_i y e hn
        injection h with h
        injection h with h1 h2
        injection h2 with h2 h3
        subst h1 h2
        obtain ⟨g1, g2, g3⟩ := (nums2_iff _ _ (by decide) _ _).1 hn
        refine ⟨g1, g2, ?_⟩
        rcases first_occ 10 t with h1 | ⟨a, s, h1, rfl⟩
        · rw [cut_none h1] at hw; cases hw
        · rw [cut_at s h1] at g3 h3
          simp only at g3 h3
          rw [g3, ← h3]
          simp
      · cases h
    · cases h
  · rintro ⟨hx, hd, rfl⟩
    have e : Lib.cut (wAdd ++ 32 :: (Lib.decDigits x ++ 32 :: (Lib.decDigits d ++ 10 :: r))) [10] = (wAdd ++ 32 :: (Lib.decDigits x ++ 32 :: Lib.decDigits d), r, true) := by
      rw [show wAdd ++ 32 :: (Lib.decDigits x ++ 32 :: (Lib.decDigits d ++ 10 :: r)) = (wAdd ++ 32 :: (Lib.decDigits x ++ 32 :: Lib.decDigits d)) ++ 10 :: r by simp]
      refine cut_at r ?_
      intro hm
      have d1 := dec_no (c := 10) (by decide) x
      have d2 := dec_no (c := 10) (by decide) d
      simp [wAdd, d1, d2] at hm
    unfold addP
    rw [e]
    simp only
    rw [(nums2_iff _ _ (by decide) x d).2 ⟨hx, hd, rfl⟩]
    rfl
theorem roomP_iff (t : Bs) (x : Nat) (r : Bs) : roomP t = some (x, r) ↔ x ≤ MaxC ∧ t = wRoom ++ 32 :: (Lib.decDigits x ++ 10 :: r) := by
  constructor
  · intro h
    unfold roomP at h
    split at h
    · rename_i hw
      split at h
      · rename_i y hn
        injection h with h
        injection h with h1 h3
        subst h1
        obtain ⟨g1, g3⟩ := (nums1_iff _ _ (by decide) _).1 hn
        refine ⟨g1, ?_⟩
        rcases first_occ 10 t with h1 | ⟨a, s, h1, rfl⟩
        · rw [cut_none h1] at hw; cases hw
        · rw [cut_at s h1] at g3 h3
          simp only at g3 h3
          rw [g3, ← h3]
          simp
      · cases h
    · cases h
  · rintro ⟨hx, rfl⟩
    have e : Lib.cut (wRoom ++ 32 :: (Lib.decDigits x ++ 10 :: r)) [10] = (wRoom ++ 32 :: Lib.decDigits x, r, true) := by
      rw [show wRoom ++ 32 :: (Lib.decDigits x ++ 10 :: r) = (wRoom ++ 32 :: Lib.decDigits x) ++ 10 :: r by simp]
      refine cut_at r ?_
      intro hm
      have d1 := dec_no (c := 10) (by decide) x
      simp [wRoom, d1] at hm
    unfold roomP
    rw [e]
    simp only
    rw [(nums1_iff _ _ (by decide) x).2 ⟨hx, rfl⟩]
    rfl
theorem addP_eq (t : Bs) : addP t = addZ t := by
  apply Option.ext
  rintro ⟨x, d, r⟩
  rw [addP_iff, addZ_iff]
theorem roomP_eq (t : Bs) : roomP t = roomZ t := by
  apply Option.ext
  rintro ⟨x, r⟩
  rw [roomP_iff, roomZ_iff]
/-! ### all lines -/
def restR : Nat → List (Nat × Nat) → Bs → Nat ⊕ List (Nat × Nat)
  | 0, acc, _ => .inr acc
  | f + 1, acc, t => if t = [] then .inr acc else match addZ t with | none => .inl (acc.length + 1) | some (x, d, r) => restR f (acc ++ [(x, d)]) r
theorem addZ_less {t : Bs} {x d : Nat} {r : Bs} (h : addZ t = some (x, d, r)) : r.length < t.length := by
  obtain ⟨_, _, e⟩ := (addZ_iff _ _ _ _).1 h
  rw [e]
  simp
  omega
theorem restR_fuel : ∀ (f g : Nat) (acc : List (Nat × Nat)) (t : Bs), t.length ≤ f → t.length ≤ g → restR f acc t = restR g acc t
  | 0, g, acc, t, h, _ => by
    have : t = [] := List.length_eq_zero_iff.1 (by omega)
    subst this
    cases g with
    | zero => rfl
    | succ g => simp [restR]
  | f + 1, 0, acc, t, _, h => by
    have : t = [] := List.length_eq_zero_iff.1 (by omega)
    subst this
    simp [restR]
  | f + 1, g + 1, acc, t, hf, hg => by
    unfold restR
    split
    · rfl
    · split
      · rfl
      · rename_i x d r hz
        have := addZ_less hz
        exact restR_fuel f g _ r (by omega) (by omega)
def restF (acc : List (Nat × Nat)) (t : Bs) : Nat ⊕ List (Nat × Nat) := restR t.length acc t
theorem restF_nil (acc : List (Nat × Nat)) : restF acc [] = .inr acc := rfl
theorem restF_bad {acc : List (Nat × Nat)} {t : Bs} (h0 : t ≠ []) (h : addZ t = none) : restF acc t = .inl (acc.length + 1) := by
  unfold restF
  obtain ⟨c, u, rfl⟩ : ∃ c u, t = c :: u := by cases t with | nil => exact absurd rfl h0 | cons c u => exact ⟨c, u, rfl⟩
  rw [List.length_cons, restR, if_neg h0, h]
theorem restF_step {acc : List (Nat × Nat)} {t : Bs} {x d : Nat} {r : Bs} (h : addZ t = some (x, d, r)) : restF acc t = restF (acc ++ [(x, d)]) r := by
  have hl := addZ_less h
  unfold restF
  obtain ⟨c, u, rfl⟩ : ∃ c u, t = c :: u := by cases t with | nil => simp at hl | cons c u => exact ⟨c, u, rfl⟩
  rw [List.length_cons] at hl
  rw [List.length_cons, restR, if_neg (by simp), h]
  exact restR_fuel _ _ _ _ (by omega) (Nat.le_refl _)
def finR (room : Nat) : Nat ⊕ List (Nat × Nat) → Nat × List (Nat × Nat) × Nat × Nat
  | .inl k => (0, [], k, 1)
  | .inr l => (room, l, 0, 0)
/-- What Parse hands back: the room, the list, the line that is wrong, the code. -/
def parseR (t : Bs) : Nat × List (Nat × Nat) × Nat × Nat :=
  match roomZ t with
  | none => (0, [], 0, 1)
  | some (room, r) => finR room (restF [] r)
end Go.Proofs.YtmibifmabkaakaaDoor
