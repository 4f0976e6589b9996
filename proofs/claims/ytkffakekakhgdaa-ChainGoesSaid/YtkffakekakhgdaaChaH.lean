/- Package chain: which states can be come to. Plain: no program in sight. No condition. Package chain: reach and Whole, walked. No condition but the list's own size. -/
import Derived.Test.YtkffakekakhgdaaChaW
import Derived.BigQuiet
import Derived.IntWalk
namespace Go.Proofs.Ytkffakekakhgdaa
open Go.ChangeShapes Go.WideShapes Go.ChangeAt Go.RowKit
set_option linter.unusedVariables false

def mat (M : List (List Int)) (i j : Nat) : Int := pat (M.getD i []) j
def Edge (M : List (List Int)) (i j : Nat) : Prop := i < M.length ∧ j < M.length ∧ 0 < mat M i j
inductive Rch (M : List (List Int)) : Nat → Nat → Prop
  | refl (i : Nat) : Rch M i i
  | step {i j k : Nat} : Edge M i j → Rch M j k → Rch M i k
theorem Rch.trans {M : List (List Int)} {i j k : Nat} (h : Rch M i j) (h2 : Rch M j k) : Rch M i k := by
  induction h with
  | refl => exact h2
  | step e _ ih => exact .step e (ih h2)
theorem Rch.snoc {M : List (List Int)} {i j k : Nat} (h : Rch M i j) (h2 : Edge M j k) : Rch M i k := h.trans (.step h2 (.refl k))
theorem Rch.lt {M : List (List Int)} {i j : Nat} (h : Rch M i j) (hi : i < M.length) : j < M.length := by
  induction h with
  | refl => exact hi
  | step e _ ih => exact ih e.2.1
/-! ### by passes -/
def updb (g : Nat → Bool) (j : Nat) : Nat → Bool := fun i => if i = j then true else g i
def pstep (M : List (List Int)) (g : Nat → Bool) (i j : Nat) : Nat → Bool := if g i = true ∧ 0 < mat M i j then updb g j else g
def rrow (M : List (List Int)) (i : Nat) (g : Nat → Bool) : Nat → Nat → Bool
  | 0 => g
  | j + 1 => pstep M (rrow M i g j) i j
def rpass (M : List (List Int)) (g : Nat → Bool) : Nat → Nat → Bool
  | 0 => g
  | i + 1 => rrow M i (rpass M g i) M.length
def rall (M : List (List Int)) (f : Nat) : Nat → Nat → Bool
  | 0 => fun j => decide (j = f)
  | t + 1 => rpass M (rall M f t) M.length
def reachB (M : List (List Int)) (f : Nat) : Nat → Bool := rall M f M.length
theorem updb_le {g : Nat → Bool} {j i : Nat} (h : g i = true) : updb g j i = true := by unfold updb; split <;> simp_all
theorem pstep_le {M : List (List Int)} {g : Nat → Bool} {i j k : Nat} (h : g k = true) : pstep M g i j k = true := by
  unfold pstep; split
  · exact updb_le h
  · exact h
theorem rrow_le {M : List (List Int)} {g : Nat → Bool} {i k : Nat} (h : g k = true) : ∀ j, rrow M i g j k = true
  | 0 => h
  | j + 1 => pstep_le (rrow_le h j)
theorem rpass_le {M : List (List Int)} {g : Nat → Bool} {k : Nat} (h : g k = true) : ∀ i, rpass M g i k = true
  | 0 => h
  | i + 1 => rrow_le (rpass_le h i) _
theorem rrow_mem {M : List (List Int)} {g : Nat → Bool} {i j : Nat} (hg : g i = true) (hp : 0 < mat M i j) : ∀ n, j < n → rrow M i g n j = true
  | 0, h => absurd h (Nat.not_lt_zero _)
  | n + 1, h => by
    rw [rrow]
    by_cases e : j = n
    · subst e
      unfold pstep
      rw [if_pos ⟨rrow_le hg j, hp⟩]
      unfold updb
      rw [if_pos rfl]
    · exact pstep_le (rrow_mem hg hp n (by omega))
theorem rpass_mem {M : List (List Int)} {g : Nat → Bool} {i j : Nat} (hg : g i = true) (he : Edge M i j) : ∀ n, i < n → rpass M g n j = true
  | 0, h => absurd h (Nat.not_lt_zero _)
  | n + 1, h => by
    rw [rpass]
    by_cases e : i = n
    · subst e
      exact rrow_mem (rpass_le hg i) he.2.2 _ he.2.1
    · exact rrow_le (rpass_mem hg he n (by omega)) _
/-- S is left by no edge. -/
def Shut (M : List (List Int)) (S : Nat → Prop) : Prop := ∀ i j, S i → Edge M i j → S j
theorem rrow_sub {M : List (List Int)} {S : Nat → Prop} (hS : Shut M S) {g : Nat → Bool} {i : Nat} (hi : i < M.length) (hg : ∀ k, g k = true → S k) : ∀ j, j ≤ M.length → ∀ k, rrow M i g j k = true → S k
  | 0, _, k, h => hg k h
  | j + 1, hj, k, h => by
    have ih := rrow_sub hS hi hg j (by omega)
    rw [rrow] at h
    unfold pstep at h
    split at h
    · next hc =>
      unfold updb at h
      split at h
      · next e => subst e; exact hS i k (ih i hc.1) ⟨hi, by omega, hc.2⟩
      · exact ih k h
    · exact ih k h
theorem rpass_sub {M : List (List Int)} {S : Nat → Prop} (hS : Shut M S) {g : Nat → Bool} (hg : ∀ k, g k = true → S k) : ∀ i, i ≤ M.length → ∀ k, rpass M g i k = true → S k
  | 0, _, k, h => hg k h
  | i + 1, hi, k, h => rrow_sub hS (by omega) (rpass_sub hS hg i (by omega)) M.length (Nat.le_refl _) k h
theorem rall_sub {M : List (List Int)} {S : Nat → Prop} (hS : Shut M S) {f : Nat} (hf : S f) : ∀ t k, rall M f t k = true → S k
  | 0, k, h => by have : k = f := by simpa [rall] using h
                  rw [this]; exact hf
  | t + 1, k, h => rpass_sub hS (rall_sub hS hf t) M.length (Nat.le_refl _) k h
/-- So many of the first n. -/
def cntb (g : Nat → Bool) : Nat → Nat
  | 0 => 0
  | n + 1 => cntb g n + (g n).toNat
theorem cntb_le (g : Nat → Bool) : ∀ n, cntb g n ≤ n
  | 0 => Nat.le_refl _
  | n + 1 => by have := cntb_le g n; rw [cntb]; have := Bool.toNat_le (g n); omega
theorem cntb_mono {g h : Nat → Bool} (hgh : ∀ k, g k = true → h k = true) : ∀ n, cntb g n ≤ cntb h n
  | 0 => Nat.le_refl _
  | n + 1 => by
    have h1 := cntb_mono hgh n
    have h2 := hgh n
    rw [cntb, cntb]
    cases e : g n
    · simp; omega
    · rw [h2 e]; omega
theorem cntb_lt {g h : Nat → Bool} (hgh : ∀ k, g k = true → h k = true) {j : Nat} (h1 : g j = false) (h2 : h j = true) : ∀ n, j < n → cntb g n < cntb h n
  | 0, hj => absurd hj (Nat.not_lt_zero _)
  | n + 1, hj => by
    rw [cntb, cntb]
    by_cases e : j = n
    · subst e
      rw [h1, h2]
      have := cntb_mono hgh j
      simp; omega
    · have h3 := cntb_lt hgh h1 h2 n (by omega)
      have h4 := hgh n
      cases e : g n
      · simp; omega
      · rw [h4 e]; omega
theorem cntb_one {g : Nat → Bool} {f : Nat} (h : g f = true) : ∀ n, f < n → 1 ≤ cntb g n
  | 0, hj => absurd hj (Nat.not_lt_zero _)
  | n + 1, hj => by
    rw [cntb]
    by_cases e : f = n
    · subst e; rw [h]; simp
    · have := cntb_one h n (by omega); omega
theorem rall_shut {M : List (List Int)} {f : Nat} (hf : f < M.length) : ∀ t, (Shut M fun k => rall M f t k = true) ∨ t + 1 ≤ cntb (rall M f t) M.length
  | 0 => .inr (cntb_one (f := f) (by simp [rall]) _ hf)
  | t + 1 => by
    have hle : ∀ k, rall M f t k = true → rall M f (t + 1) k = true := fun k h => rpass_le h _
    by_cases hs : Shut M fun k => rall M f t k = true
    · left
      have hsub := rpass_sub hs (g := rall M f t) (fun k h => h) M.length (Nat.le_refl _)
      intro i j hi he
      exact hle j (hs i j (hsub i hi) he)
    · right
      have h1 : t + 1 ≤ cntb (rall M f t) M.length := (rall_shut hf t).resolve_left hs
      have hex : ∃ i j, rall M f t i = true ∧ Edge M i j ∧ rall M f t j = false := by
        apply Classical.byContradiction
        intro hno
        refine hs fun i j hi he => ?_
        cases e : rall M f t j
        · exact absurd ⟨i, j, hi, he, e⟩ hno
        · exact e
      obtain ⟨i, j, hi, he, hj⟩ := hex
      have := cntb_lt hle hj (rpass_mem hi he M.length he.1) M.length he.2.1
      omega
theorem rall_f {M : List (List Int)} {f : Nat} : ∀ t, rall M f t f = true
  | 0 => by simp [rall]
  | t + 1 => rpass_le (rall_f t) _
theorem reach_iff {M : List (List Int)} {f : Nat} (hf : f < M.length) (k : Nat) : reachB M f k = true ↔ Rch M f k := by
  constructor
  · exact rall_sub (S := fun k => Rch M f k) (fun i j hi he => hi.snoc he) (.refl f) M.length k
  · have hs : Shut M fun k => rall M f M.length k = true := (rall_shut hf M.length).resolve_right (by have := cntb_le (rall M f M.length) M.length; omega)
    have : ∀ i j, Rch M i j → rall M f M.length i = true → rall M f M.length j = true := by
      intro i j h
      induction h with
      | refl => exact id
      | step e _ ih => exact fun h => ih (hs _ _ h e)
    exact fun h => this f k h (rall_f _)
def cwhole (M : List (List Int)) : Bool := (List.range M.length).all fun i => (List.range M.length).all fun j => reachB M i j
theorem cwhole_iff {M : List (List Int)} : cwhole M = true ↔ ∀ i j, i < M.length → j < M.length → Rch M i j := by
  unfold cwhole
  rw [List.all_eq_true]
  constructor
  · intro h i j hi hj
    have := List.all_eq_true.1 (h i (List.mem_range.2 hi)) j (List.mem_range.2 hj)
    exact (reach_iff hi j).1 this
  · intro h i hi
    have hi := List.mem_range.1 hi
    exact List.all_eq_true.2 fun j hj => (reach_iff hi j).2 (h i j hi (List.mem_range.1 hj))
/-! ### by ways through others -/
def wstart (M : List (List Int)) (i j : Nat) : Bool := decide (i = j) || decide (0 < mat M i j)
def wstep (C : Nat → Nat → Bool) (k i j : Nat) : Bool := C i j || (C i k && C k j)
def wway (M : List (List Int)) : Nat → Nat → Nat → Bool
  | 0 => wstart M
  | k + 1 => wstep (wway M k) k
theorem wstep_le {C : Nat → Nat → Bool} {k i j : Nat} (h : C i j = true) : wstep C k i j = true := by unfold wstep; rw [h]; rfl
theorem wway_refl (M : List (List Int)) (i : Nat) : ∀ k, wway M k i i = true
  | 0 => by simp [wway, wstart]
  | k + 1 => wstep_le (wway_refl M i k)
theorem wway_edge {M : List (List Int)} {i j : Nat} (h : 0 < mat M i j) : ∀ k, wway M k i j = true
  | 0 => by simp [wway, wstart, h]
  | k + 1 => wstep_le (wway_edge h k)
theorem wway_sound {M : List (List Int)} : ∀ k, k ≤ M.length → ∀ i j, i < M.length → j < M.length → wway M k i j = true → Rch M i j
  | 0, _, i, j, hi, hj, h => by
    rw [wway] at h
    unfold wstart at h
    rw [Bool.or_eq_true] at h
    rcases h with h | h
    · have : i = j := by simpa using h
      subst this; exact .refl i
    · exact .step ⟨hi, hj, by simpa using h⟩ (.refl j)
  | k + 1, hk, i, j, hi, hj, h => by
    rw [wway] at h
    unfold wstep at h
    rw [Bool.or_eq_true, Bool.and_eq_true] at h
    rcases h with h | h
    · exact wway_sound k (by omega) i j hi hj h
    · exact (wway_sound k (by omega) i k hi (by omega) h.1).trans (wway_sound k (by omega) k j (by omega) hj h.2)
theorem wway_pivot {M : List (List Int)} : ∀ k m, m < k → ∀ i j, wway M k i m = true → wway M k m j = true → wway M k i j = true
  | 0, m, h, _, _, _, _ => absurd h (Nat.not_lt_zero _)
  | k + 1, m, h, i, j, h1, h2 => by
    have ih := wway_pivot (M := M) k
    have hr := wway_refl M k k
    rw [wway] at h1 h2 ⊢
    unfold wstep at h1 h2 ⊢
    rw [Bool.or_eq_true, Bool.and_eq_true] at h1 h2 ⊢
    by_cases e : m = k
    · subst e
      have a1 : wway M m i m = true := h1.elim id (fun h => h.1)
      have a2 : wway M m m j = true := h2.elim id (fun h => h.2)
      exact .inr ⟨a1, a2⟩
    · have hm : m < k := by omega
      rcases h1 with h1 | ⟨h1, h1'⟩ <;> rcases h2 with h2 | ⟨h2, h2'⟩
      · exact .inl (ih m hm i j h1 h2)
      · exact .inr ⟨ih m hm i k h1 h2, h2'⟩
      · exact .inr ⟨h1, ih m hm k j h1' h2⟩
      · exact .inr ⟨h1, h2'⟩
theorem wway_iff {M : List (List Int)} {i j : Nat} (hi : i < M.length) (hj : j < M.length) : wway M M.length i j = true ↔ Rch M i j := by
  refine ⟨wway_sound M.length (Nat.le_refl _) i j hi hj, fun h => ?_⟩
  induction h with
  | refl => exact wway_refl M _ _
  | step e _ ih => exact wway_pivot M.length _ e.2.1 _ _ (wway_edge e.2.2 _) (ih e.2.1 hj)
def wwhole (M : List (List Int)) : Bool := (List.range M.length).all fun i => (List.range M.length).all fun j => wway M M.length i j
theorem wwhole_eq (M : List (List Int)) : wwhole M = cwhole M := by
  have h : wwhole M = true ↔ cwhole M = true := by
    rw [cwhole_iff]
    unfold wwhole
    rw [List.all_eq_true]
    constructor
    · intro h i j hi hj
      exact (wway_iff hi hj).1 (List.all_eq_true.1 (h i (List.mem_range.2 hi)) j (List.mem_range.2 hj))
    · intro h i hi
      have hi := List.mem_range.1 hi
      exact List.all_eq_true.2 fun j hj => (wway_iff hi (List.mem_range.1 hj)).2 (h i j hi (List.mem_range.1 hj))
  cases e : cwhole M
  · cases e2 : wwhole M
    · rfl
    · exact absurd (h.1 e2) (by simp [e])
  · exact h.2 e
/-- In the middle of a pass: the rows ahead of i, and the first j of row i, are done. -/
def wmid (C : Nat → Nat → Bool) (k i j a b : Nat) : Bool := if a < i ∨ (a = i ∧ b < j) then wstep C k a b else C a b
theorem wmid_col {C : Nat → Nat → Bool} {k : Nat} (hr : C k k = true) (i j a : Nat) : wmid C k i j a k = C a k := by
  unfold wmid; split
  · unfold wstep; rw [hr]; cases C a k <;> rfl
  · rfl
theorem wmid_row {C : Nat → Nat → Bool} {k : Nat} (hr : C k k = true) (i j b : Nat) : wmid C k i j k b = C k b := by
  unfold wmid; split
  · unfold wstep; rw [hr]; cases C k b <;> rfl
  · rfl
theorem wmid_at (C : Nat → Nat → Bool) (k i j : Nat) : wmid C k i j i j = C i j := by unfold wmid; rw [if_neg (by omega)]
theorem wmid_next (C : Nat → Nat → Bool) (k i j a b : Nat) : wmid C k i (j + 1) a b = if a = i ∧ b = j then wstep C k i j else wmid C k i j a b := by
  unfold wmid
  by_cases h : a = i ∧ b = j
  · obtain ⟨rfl, rfl⟩ := h
    rw [if_pos (by omega), if_pos ⟨rfl, rfl⟩]
  · rw [if_neg h]
    by_cases h2 : a < i ∨ (a = i ∧ b < j)
    · rw [if_pos (by omega), if_pos h2]
    · rw [if_neg (by omega), if_neg h2]
theorem wmid_end (C : Nat → Nat → Bool) (k i n a b : Nat) (hb : b < n) : wmid C k i n a b = wmid C k (i + 1) 0 a b := by
  unfold wmid
  by_cases h : a < i ∨ (a = i ∧ b < n)
  · rw [if_pos h, if_pos (by omega)]
  · rw [if_neg h, if_neg (by omega)]
theorem wmid_zero (C : Nat → Nat → Bool) (k a b : Nat) : wmid C k 0 0 a b = C a b := by unfold wmid; rw [if_neg (by omega)]
theorem wmid_all (C : Nat → Nat → Bool) (k n a b : Nat) (ha : a < n) : wmid C k n 0 a b = wstep C k a b := by unfold wmid; rw [if_pos (by omega)]

/-- Where each state can be come to from each, trees lead to each. -/
theorem leads_of {M : List (List Int)} (h : ∀ i j, i < M.length → j < M.length → Rch M i j) {r : Nat} (hr : r < M.length) : Leads M M.length r := by
  intro T hT ⟨i, hi, hiT⟩
  have : ∀ a b, Rch M a b → a < M.length → a ∉ T → b ∈ T → ∃ i j, i < M.length ∧ i ∉ T ∧ j ∈ T ∧ 0 < pat (M.getD i []) j := by
    intro a b hab
    induction hab with
    | refl => exact fun _ h1 h2 => absurd h2 h1
    | @step a c b e _ ih =>
      intro ha h1 h2
      by_cases hc : c ∈ T
      · exact ⟨a, c, ha, h1, hc, e.2.2⟩
      · exact ih e.2.1 hc h2
  exact this i r (h i r hi hr) hi hiT hT

set_option linter.unusedVariables false

theorem COk.nums_len {l : List Rw} : (nums l).length = l.length := by simp [nums]
theorem nums_get {l : List Rw} {k : Nat} (h : k < l.length) : (nums l).getD k [] = l[k].2.1 := by
  rw [List.getD_eq_getElem?_getD, List.getElem?_eq_getElem (by rw [COk.nums_len]; exact h)]
  simp [nums]
set_option maxRecDepth 20000 in
set_option maxHeartbeats 8000000 in
theorem reach_any (C : Option Addr) (l : List Rw) (d from_ : Nat) (w : World) (hl : RowsOk w w.heap.size C l) (hok : COk (nums l)) (hf : from_ < l.length) :
    Calls Try.prog 45 #[.slice C l.length d, .int .i64 from_] w fun e w' => e = .returned (.slice (some ⟨w.heap.size, 0, none⟩) l.length l.length) ∧ w'.rowIs w.heap.size 4 l.length (fun j => .bool (reachB (nums l) from_ j)) ∧ Below w.heap.size w w' := by
  obtain ⟨M, hM⟩ : ∃ M, M = nums l := ⟨_, rfl⟩
  obtain ⟨n, hn⟩ : ∃ n, n = l.length := ⟨_, rfl⟩
  have hMn : M.length = n := by rw [hM, hn]; exact COk.nums_len
  have hrow : Hid (∀ k (h : k < l.length), l[k].2.1.length = n ∧ mat M k = pat l[k].2.1) := fun k hk => by
    have h1 := hok.row k (by rw [COk.nums_len]; exact hk)
    have h2 := nums_get hk
    refine ⟨?_, ?_⟩
    · have h3 : (nums l)[k]'(by rw [COk.nums_len]; exact hk) = l[k].2.1 := by simp [nums]
      rw [← h3]
      exact h1.trans (COk.nums_len.trans hn.symm)
    · funext j; unfold mat; rw [hM, h2]
  have hn5 : n ≤ 5 := by have := hok.le; rw [COk.nums_len, ← hn] at this; exact this
  rw [← hM, ← hn]
  have HFI : Hid (reachB M from_ = rall M from_ n) := by unfold Hid reachB; rw [hMn]
  rw [HFI.out]
  have HRS : Hid (∀ t, rall M from_ (t + 1) = rpass M (rall M from_ t) n) := fun t => by show rpass M (rall M from_ t) M.length = _; rw [hMn]
  have HPS : Hid (∀ g i, rpass M g (i + 1) = rrow M i (rpass M g i) n) := fun g i => by show rrow M i (rpass M g i) M.length = _; rw [hMn]
  rw [← hn] at hf
  have HL := Lib.hid hl
  have HN := Lib.hid (And.intro hn.symm hn5)
  have HFF := Lib.hid hf
  have hmk := run_make_row' (P := Try.prog) 66 4 (.bool false) 1 Try.underlying66 (by kernel_rfl) rfl .i64 .i64 n (by omega) (by omega)
  have i0 : (from_ : Int) < (n : Int) := by omega
  have hrw0 := (World.rowIs_made w (.bool false) n 4)
  have hfz := hrw0.frozen from_
  have hcz := hrw0.cell (i := from_) (by omega)
  have HR0 : Hid (((w.alloc (.cells (madeCells #[.bool false] n) 4)).setCell ⟨w.heap.size, from_, none⟩ (.bool true)).rowIs w.heap.size 4 n (fun j => .bool (rall M from_ 0 j))) := (hrw0.set from_ _).congr (fun i hi => by
    by_cases e : i = from_
    · subst e; simp [rall]
    · rw [if_neg e]; simp [rall, e])
  have HB0 : Hid (Below w.heap.size w ((w.alloc (.cells (madeCells #[.bool false] n) 4)).setCell ⟨w.heap.size, from_, none⟩ (.bool true))) := ((Below.refl _ _).alloc (Nat.le_refl _) _).setCell (Nat.le_refl _) _
  rw [World.setCell_alloc_new] at HR0 HB0
  clear hl hok hMn hn hn5 hM hf hrw0
  go_enter Try.func45, Try.ntmps45
  go_wp2_with fail
  clear hmk i0 hfz hcz
  --LOOK1
  go_loopw [18] (fun s18 wx => ∃ t : Nat, t ≤ n ∧ s18 = .int .i64 t ∧ Hid (wx.rowIs w.heap.size 4 n (fun j => .bool (rall M from_ t j))) ∧ Hid (Below w.heap.size w wx)) (fun s18 _ => n - (intOf s18).toNat)
  case atStart => exact ⟨0, Nat.zero_le _, rfl, HR0, HB0⟩
  case round =>
    obtain ⟨t, ht, rfl, hr, hb⟩ := hrel
    by_cases htl : t < n
    · have i1 : (t : Int) < (n : Int) := by omega
      have ut : Hid (wrap64 ((t : Int) + 1) = ((t + 1 : Nat) : Int)) := cw64 (by have := HN.out; omega)
      have HT := Lib.hid (And.intro ht htl)
      have HR1 : Hid (∀ j, rall M from_ (t + 1) j = rpass M (rall M from_ t) n j) := fun j => by rw [HRS.out]
      obtain ⟨g, hg⟩ : ∃ g, g = rall M from_ t := ⟨_, rfl⟩
      rw [← hg] at hr HR1
      clear hg ht htl
      go_wp2_with fail
      clear i1
      go_loopw [22] (fun s22 wx => ∃ i : Nat, i ≤ n ∧ s22 = .int .i64 i ∧ Hid (wx.rowIs w.heap.size 4 n (fun j => .bool (rpass M g i j))) ∧ Hid (Below w.heap.size w wx)) (fun s22 _ => n - (intOf s22).toNat)
      case atStart => exact ⟨0, Nat.zero_le _, rfl, hr, hb⟩
      case round =>
        clear hr hb
        obtain ⟨i, hi, rfl, hr, hb⟩ := hrel
        by_cases hil : i < n
        · have i2 : (i : Int) < (n : Int) := by omega
          have hil2 : i < l.length := by have := HN.out; omega
          obtain ⟨ad, rfl, _, hcr0, hrr⟩ := HL.out.row hil2
          obtain ⟨⟨A1, z, c1⟩, hx1⟩ : ∃ x : Rw, x = l[i] := ⟨_, rfl⟩
          obtain ⟨hzl, hmt⟩ := hrow.out i hil2
          rw [← hx1] at hcr0 hrr hzl hmt
          have hzl' : z.length = n := hzl
          have HMT : Hid (mat M i = pat z) := hmt
          have hcr := (hb.out.cell (block_lt hcr0)).trans hcr0
          have hcr' : wr.cell? (ad.add i) = some (.slice A1 z.length c1) := hcr
          rw [hzl'] at hcr'
          have HZ : Hid (Seg w w.heap.size A1 (z.map (.int .i64))) := hrr.1
          have ui : Hid (wrap64 ((i : Int) + 1) = ((i + 1 : Nat) : Int)) := cw64 (by have := HN.out; omega)
          have HI := Lib.hid (And.intro hi hil)
          have HR2 : Hid (∀ j, rpass M g (i + 1) j = rrow M i (rpass M g i) n j) := fun j => by rw [HPS.out]
          have HZL := Lib.hid hzl'
          obtain ⟨h, hh⟩ : ∃ h, h = rpass M g i := ⟨_, rfl⟩
          rw [← hh] at hr HR2
          clear hcr0 hrr hzl hmt hx1 hcr hzl' hi hil hil2 hh
          go_wp2_with fail
          clear i2 hcr'
          go_loopw [29] (fun s29 wx => ∃ j : Nat, j ≤ n ∧ s29 = .int .i64 j ∧ Hid (wx.rowIs w.heap.size 4 n (fun k => .bool (rrow M i h j k))) ∧ Hid (Below w.heap.size w wx)) (fun s29 _ => n - (intOf s29).toNat)
          case atStart => exact ⟨0, Nat.zero_le _, rfl, hr, hb⟩
          case round =>
            clear hr hb
            obtain ⟨j, hj, rfl, hr, hb⟩ := hrel
            by_cases hjl : j < n
            · have i3 : (j : Int) < (n : Int) := by omega
              have i4 : (i : Int) < (n : Int) := by have := HI.out; omega
              obtain ⟨zd, rfl, _, hcz0⟩ := HZ.out.pat (k := j) (by have := HZL.out; omega)
              have hcz := (hb.out.cell (block_lt hcz0)).trans hcz0
              have hci := hr.out.cell (i := i) (by have := HI.out; omega)
              have hcj := hr.out.cell (i := j) hjl
              have hfj := hr.out.frozen j
              have uj : Hid (wrap64 ((j : Int) + 1) = ((j + 1 : Nat) : Int)) := cw64 (by have := HN.out; omega)
              have HJ := Lib.hid (And.intro hj hjl)
              have HST : Hid (rrow M i h (j + 1) = if rrow M i h j i = true ∧ 0 < pat z j then updb (rrow M i h j) j else rrow M i h j) := by
                unfold Hid; rw [← HMT.out]; rfl
              obtain ⟨x, hx⟩ : ∃ x, x = pat z j := ⟨_, rfl⟩
              obtain ⟨q, hq⟩ : ∃ q, q = rrow M i h j := ⟨_, rfl⟩
              rw [← hx] at hcz HST
              rw [← hq] at hr hci hcj HST
              obtain ⟨b, hbb⟩ : ∃ b, b = q i := ⟨_, rfl⟩
              rw [← hbb] at hci
              have HBB := Lib.hid hbb
              clear hx hq hbb hcz0 hj hjl
              rcases (by cases b <;> by_cases h0 : 0 < x <;> simp_all : (b = true ∧ 0 < x) ∨ (b = false) ∨ (b = true ∧ ¬ 0 < x)) with ⟨rfl, h0⟩ | rfl | ⟨rfl, h0⟩
              · have hst : Hid (rrow M i h (j + 1) = updb q j) := by unfold Hid; rw [HST.out, if_pos ⟨HBB.out.symm, h0⟩]
                go_wp2_with fail
                go_roundw
                case rel =>
                  refine ⟨j + 1, by have := HJ.out; omega, by first | rfl | rw [uj.out], ?_, hb.out.setCell (Nat.le_refl _) _⟩
                  unfold Hid
                  rw [hst.out]
                  refine (hr.out.set j _).congr (fun k hk => ?_)
                  unfold updb
                  by_cases e : k = j
                  · rw [if_pos e, if_pos e]
                  · rw [if_neg e, if_neg e]
                case measure => (try rw [uj.out]); have := HJ.out; simp [intOf]; omega
              · have hst : Hid (rrow M i h (j + 1) = q) := by unfold Hid; rw [HST.out, if_neg (by rw [← HBB.out]; simp)]
                go_wp2_with fail
                go_roundw
                case rel => exact ⟨j + 1, by have := HJ.out; omega, by first | rfl | rw [uj.out], by unfold Hid; rw [hst.out]; exact hr.out, hb⟩
                case measure => (try rw [uj.out]); have := HJ.out; simp [intOf]; omega
              · have hst : Hid (rrow M i h (j + 1) = q) := by unfold Hid; rw [HST.out, if_neg (fun h1 => h0 h1.2)]
                go_wp2_with fail
                go_roundw
                case rel => exact ⟨j + 1, by have := HJ.out; omega, by first | rfl | rw [uj.out], by unfold Hid; rw [hst.out]; exact hr.out, hb⟩
                case measure => (try rw [uj.out]); have := HJ.out; simp [intOf]; omega
            · obtain rfl : j = n := by omega
              have HR3 : Hid (wr.rowIs w.heap.size 4 j (fun k => .bool (rpass M g (i + 1) k))) := hr.out.congr (fun k _ => by rw [HR2.out])
              clear hj hjl hr
              go_wp2_with fail
              go_roundw
              case rel => exact ⟨i + 1, by have := HI.out; omega, by first | rfl | rw [ui.out], HR3, hb⟩
              case measure => (try rw [ui.out]); have := HI.out; simp [intOf]; omega
        · obtain rfl : i = n := by omega
          have HR3 : Hid (wr.rowIs w.heap.size 4 i (fun k => .bool (rall M from_ (t + 1) k))) := hr.out.congr (fun k _ => by rw [HR1.out])
          clear hi hil hr
          go_wp2_with fail
          go_roundw
          case rel => exact ⟨t + 1, by have := HT.out; omega, by first | rfl | rw [ut.out], HR3, hb⟩
          case measure => (try rw [ut.out]); have := HT.out; simp [intOf]; omega
    · obtain rfl : t = n := by omega
      go_wp2_with fail
      go_ret
      exact ⟨rfl, hr.out, hb.out⟩
/-- What Whole answers. -/
def cwholeB (M : List (List Int)) : Bool := decide (cwrong M = 0) && cwhole M
theorem cwhole_at {M : List (List Int)} {i j : Nat} (hi : i < M.length) (hj : j < M.length) (h : reachB M i j = false) : cwhole M = false := by
  rw [Bool.eq_false_iff]
  intro h1
  have h2 := List.all_eq_true.1 (List.all_eq_true.1 h1 i (List.mem_range.2 hi)) j (List.mem_range.2 hj)
  have h3 : reachB M i j = true := h2
  rw [h] at h3
  cases h3
theorem cwhole_of {M : List (List Int)} (h : ∀ i, i < M.length → ∀ j, j < M.length → reachB M i j = true) : cwhole M = true :=
  List.all_eq_true.2 fun i hi => List.all_eq_true.2 fun j hj => h i (List.mem_range.1 hi) j (List.mem_range.1 hj)
set_option maxRecDepth 20000 in
set_option maxHeartbeats 8000000 in
theorem whole_any (C : Option Addr) (l : List Rw) (d : Nat) (w : World) (hl : RowsOk w w.heap.size C l) (hm2 : l.length ≤ 9223372036854775807) :
    Calls Try.prog 15 #[.slice C l.length d] w fun e w' => e = .returned (.tuple #[.bool (cwholeB (nums l)), .int .i64 (cwrong (nums l))]) ∧ Below w.heap.size w w' := by
  have HW := Lib.hid (cwrong_any C l d w.heap.size w hl hm2)
  by_cases h0 : cwrong (nums l) = 0
  · have hok := cok_of h0
    have HF : Hid (cwholeB (nums l) = cwhole (nums l)) := by unfold Hid cwholeB; rw [h0]; rfl
    rw [h0] at HW ⊢
    have HL := Lib.hid hl
    have HOK := Lib.hid hok
    have hn5 := hok.le
    rw [COk.nums_len] at hn5
    obtain ⟨n, hn⟩ : ∃ n, n = l.length := ⟨_, rfl⟩
    have HRE : Hid (∀ k v, Below w.heap.size w v → k < n → Calls Try.prog 45 #[.slice C n d, .int .i64 k] v fun e w' => e = .returned (.slice (some ⟨v.heap.size, 0, none⟩) n n) ∧ w'.rowIs v.heap.size 4 n (fun j => .bool (reachB (nums l) k j)) ∧ Below v.heap.size v w') := fun k v hb hk => by
      have := reach_any C l d k v (HL.out.on hb) hok (by omega)
      rw [← hn] at this; exact this
    have HN : Hid ((nums l).length = n ∧ n ≤ 5) := ⟨COk.nums_len.trans hn.symm, by omega⟩
    rw [← hn] at HW ⊢
    clear hl h0 hok hn5 hn hm2
    go_enter Try.func15, Try.ntmps15
    go_wp2_with fail
    refine HW.out.mono ?_
    rintro e w1 ⟨rfl, m1, rfl⟩
    have HB1 : Hid (Below w.heap.size w (w.drewN m1)) := below_drewN (Below.refl _ _) m1
    go_wp2_with fail
    go_loopw [15] (fun s15 wx => ∃ k : Nat, k ≤ n ∧ s15 = .int .i64 k ∧ Hid (∀ i, i < k → ∀ j, j < n → reachB (nums l) i j = true) ∧ Hid (Below w.heap.size w wx)) (fun s15 _ => n - (intOf s15).toNat)
    case atStart => exact ⟨0, Nat.zero_le _, rfl, fun i hi => absurd hi (Nat.not_lt_zero _), HB1⟩
    case round =>
      clear HB1
      obtain ⟨k, hk, rfl, hg, hb⟩ := hrel
      by_cases hkl : k < n
      · have i1 : (k : Int) < (n : Int) := by omega
        have uk : Hid (wrap64 ((k : Int) + 1) = ((k + 1 : Nat) : Int)) := cw64 (by have := HN.out; omega)
        have HC := Lib.hid (HRE.out k wr hb.out hkl)
        have HK := Lib.hid (And.intro hk hkl)
        clear hk hkl
        go_wp2_with fail
        refine HC.out.mono ?_
        rintro e w2 ⟨rfl, hrw, hb2⟩
        have HR2 := Lib.hid hrw
        have HB2 : Hid (Below w.heap.size w w2) := hb.out.trans (hb2.mono hb.out.size)
        clear hrw hb2
        go_wp2_with fail
        go_loopw [22] (fun s22 wx => ∃ j : Nat, j ≤ n ∧ s22 = .int .i64 j ∧ Hid (∀ i, i < j → reachB (nums l) k i = true) ∧ wx = w2) (fun s22 _ => n - (intOf s22).toNat)
        case atStart => exact ⟨0, Nat.zero_le _, rfl, fun i hi => absurd hi (Nat.not_lt_zero _), by first | rfl | trivial⟩
        case round =>
          obtain ⟨j, hj, rfl, hgj, rfl⟩ := hrel
          by_cases hjl : j < n
          · have i2 : (j : Int) < (n : Int) := by omega
            have hcj := HR2.out.cell (i := j) hjl
            have uj : Hid (wrap64 ((j : Int) + 1) = ((j + 1 : Nat) : Int)) := cw64 (by have := HN.out; omega)
            have HJ := Lib.hid (And.intro hj hjl)
            obtain ⟨b, hbb⟩ : ∃ b, b = reachB (nums l) k j := ⟨_, rfl⟩
            rw [← hbb] at hcj
            have HBB := Lib.hid hbb
            clear hj hjl hbb
            cases b
            · have hf : Hid (cwhole (nums l) = false) := cwhole_at (i := k) (j := j) (by have := HN.out; have := HK.out; omega) (by have := HN.out; have := HJ.out; omega) HBB.out.symm
              go_wp2_with fail
              go_ret2
              exact ⟨by rw [HF.out, hf.out]; rfl, HB2.out⟩
            · have HG : Hid (∀ i, i < j + 1 → reachB (nums l) k i = true) := fun i hi => by
                by_cases e : i = j
                · subst e; exact HBB.out.symm
                · exact hgj.out i (by omega)
              go_wp2_with fail
              go_roundw
              case rel => exact ⟨j + 1, by have := HJ.out; omega, by first | rfl | rw [uj.out], HG, by first | rfl | trivial⟩
              case measure => (try rw [uj.out]); have := HJ.out; simp [intOf]; omega
          · obtain rfl : j = n := by omega
            have HG : Hid (∀ i, i < k + 1 → ∀ q, q < j → reachB (nums l) i q = true) := fun i hi q hq => by
              by_cases e : i = k
              · subst e; exact hgj.out q hq
              · exact hg.out i (by omega) q hq
            clear hj hjl hgj
            go_wp2_with fail
            go_roundw
            case rel => exact ⟨k + 1, by have := HK.out; omega, by first | rfl | rw [uk.out], HG, HB2⟩
            case measure => (try rw [uk.out]); have := HK.out; simp [intOf]; omega
      · obtain rfl : k = n := by omega
        have hf : Hid (cwhole (nums l) = true) := cwhole_of fun i hi j hj => hg.out i (by have := HN.out; omega) j (by have := HN.out; omega)
        go_wp2_with fail
        go_ret2
        exact ⟨by rw [HF.out, hf.out]; rfl, hb.out⟩
  · have HF : Hid (cwholeB (nums l) = false) := by unfold Hid cwholeB; rw [decide_eq_false h0]; rfl
    have b0 : (cwrong (nums l) != 0) = true := by simp [h0]
    generalize cwrong (nums l) = z at *
    clear hl h0
    go_enter Try.func15, Try.ntmps15
    go_wp2_with fail
    refine HW.out.mono ?_
    rintro e w1 ⟨rfl, m1, rfl⟩
    have HB1 : Hid (Below w.heap.size w (w.drewN m1)) := below_drewN (Below.refl _ _) m1
    go_wp2_with fail
    go_ret2
    exact ⟨by rw [HF.out]; rfl, HB1.out⟩
end Go.Proofs.Ytkffakekakhgdaa
