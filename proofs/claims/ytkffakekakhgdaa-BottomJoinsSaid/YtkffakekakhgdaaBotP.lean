/- Package bottom: rows that rise by rank, each once. Plain: no program in sight. No condition. -/
import Derived.Test.YtkffakekakhgdaaBotM
namespace Go.Proofs.Ytkffakekakhgdaa
open Go.ChangeShapes Go.WideShapes Go.ChangeAt Go.RowKit
set_option linter.unusedVariables false

section
variable {α : Type} (k : α → Nat)
/-- One more, where it ranks; none twice. -/
def insK (x : α) : List α → List α
  | [] => [x]
  | y :: l => if k x < k y then x :: y :: l else if k x = k y then y :: l else y :: insK x l
def sortK (l : List α) : List α := l.foldl (fun s x => insK k x s) []
def Rising (l : List α) : Prop := l.Pairwise fun x y => k x < k y
def InjK : Prop := ∀ x y, k x = k y → x = y
variable {k}
theorem mem_insK (hk : InjK k) {x z : α} : ∀ {l : List α}, z ∈ insK k x l ↔ z = x ∨ z ∈ l
  | [] => by simp [insK]
  | y :: l => by
    rw [insK]
    split
    · simp
    · split
      · next h => rw [hk _ _ h]; simp
      · rw [List.mem_cons, mem_insK hk (l := l), List.mem_cons]
        constructor
        · rintro (h | h | h)
          · exact .inr (.inl h)
          · exact .inl h
          · exact .inr (.inr h)
        · rintro (h | h | h)
          · exact .inr (.inl h)
          · exact .inl h
          · exact .inr (.inr h)
theorem rising_insK {x : α} : ∀ {l : List α}, Rising k l → Rising k (insK k x l)
  | [], _ => by simp [insK, Rising]
  | y :: l, h => by
    have h1 := List.pairwise_cons.1 h
    rw [insK]
    split
    · next h2 =>
      refine List.pairwise_cons.2 ⟨fun z hz => ?_, h⟩
      rcases List.mem_cons.1 hz with rfl | hz
      · exact h2
      · exact Nat.lt_trans h2 (h1.1 z hz)
    · next h2 =>
      split
      · exact h
      · next h3 =>
        refine List.pairwise_cons.2 ⟨fun z hz => ?_, rising_insK h1.2⟩
        have : z = x ∨ z ∈ l := by
          clear h h1 h2 h3
          induction l with
          | nil => simp [insK] at hz; exact .inl hz
          | cons a l ih =>
            rw [insK] at hz
            split at hz
            · rcases List.mem_cons.1 hz with hz | hz
              · exact .inl hz
              · exact .inr hz
            · split at hz
              · exact .inr hz
              · rcases List.mem_cons.1 hz with hz | hz
                · exact .inr (by rw [hz]; exact List.mem_cons_self ..)
                · exact (ih hz).imp id (List.mem_cons_of_mem _)
        rcases this with rfl | hz
        · omega
        · exact h1.1 z hz
theorem sortK_snoc (l : List α) (x : α) : sortK k (l ++ [x]) = insK k x (sortK k l) := by unfold sortK; rw [List.foldl_append]; rfl
theorem sortK_ind {P : List α → Prop} (h0 : P []) (h1 : ∀ l x, P l → P (l ++ [x])) (l : List α) : P l := by
  have : ∀ r : List α, P r.reverse := fun r => by
    induction r with
    | nil => exact h0
    | cons x r ih => rw [List.reverse_cons]; exact h1 _ _ ih
  have h := this l.reverse
  rwa [List.reverse_reverse] at h
theorem rising_sortK (l : List α) : Rising k (sortK k l) := by
  refine sortK_ind (P := fun l => Rising k (sortK k l)) List.Pairwise.nil (fun l x ih => ?_) l
  rw [sortK_snoc]; exact rising_insK ih
theorem mem_sortK (hk : InjK k) (l : List α) : ∀ z, z ∈ sortK k l ↔ z ∈ l := by
  refine sortK_ind (P := fun l => ∀ z, z ∈ sortK k l ↔ z ∈ l) (fun z => Iff.rfl) (fun l x ih z => ?_) l
  rw [sortK_snoc, mem_insK hk, ih z, List.mem_append, List.mem_singleton]
  exact Or.comm
/-- There is one such row alone. -/
theorem rising_one : ∀ {l m : List α}, Rising k l → Rising k m → (∀ z, z ∈ l ↔ z ∈ m) → l = m
  | [], [], _, _, _ => rfl
  | [], y :: m, _, _, h => absurd ((h y).2 (List.mem_cons_self ..)) (by simp)
  | x :: l, [], _, _, h => absurd ((h x).1 (List.mem_cons_self ..)) (by simp)
  | x :: l, y :: m, hl, hm, h => by
    have h1 := List.pairwise_cons.1 hl
    have h2 := List.pairwise_cons.1 hm
    have e : x = y := by
      rcases List.mem_cons.1 ((h x).1 (List.mem_cons_self ..)) with e | hx
      · exact e
      · rcases List.mem_cons.1 ((h y).2 (List.mem_cons_self ..)) with e | hy
        · exact e.symm
        · have a := h2.1 x hx
          have b := h1.1 y hy
          omega
    subst e
    refine congrArg (x :: ·) (rising_one h1.2 h2.2 fun z => ⟨fun hz => ?_, fun hz => ?_⟩)
    · rcases List.mem_cons.1 ((h z).1 (List.mem_cons_of_mem _ hz)) with e | hz'
      · subst e; exact absurd (h1.1 z hz) (Nat.lt_irrefl _)
      · exact hz'
    · rcases List.mem_cons.1 ((h z).2 (List.mem_cons_of_mem _ hz)) with e | hz'
      · subst e; exact absurd (h2.1 z hz) (Nat.lt_irrefl _)
      · exact hz'
theorem sortK_of (hk : InjK k) {l m : List α} (hm : Rising k m) (h : ∀ z, z ∈ m ↔ z ∈ l) : sortK k l = m :=
  rising_one (rising_sortK l) hm fun z => (mem_sortK hk l z).trans (h z).symm
theorem sortK_self (hk : InjK k) {l : List α} (h : Rising k l) : sortK k l = l := sortK_of hk h fun _ => Iff.rfl
theorem take_insK (x : α) : ∀ (r : Nat) (l : List α), (insK k x (l.take r)).take r = (insK k x l).take r
  | 0, l => by simp
  | r + 1, [] => rfl
  | r + 1, y :: l => by
    rw [List.take_succ_cons, insK, insK]
    split
    · rw [List.take_succ_cons, List.take_succ_cons]
      cases r with
      | zero => rfl
      | succ r => rw [List.take_succ_cons, List.take_succ_cons, List.take_take, Nat.min_eq_left (Nat.le_succ r)]
    · split
      · rw [List.take_succ_cons, List.take_succ_cons, List.take_take, Nat.min_self]
      · rw [List.take_succ_cons, List.take_succ_cons, take_insK x r l]
theorem rising_take {l : List α} (h : Rising k l) (r : Nat) : Rising k (l.take r) := List.Pairwise.sublist (List.take_sublist r l) h
/-- What is kept of one more. -/
theorem keep_more (hk : InjK k) (l : List α) (x : α) (r : Nat) : (sortK k ((sortK k l).take r ++ [x])).take r = (sortK k (l ++ [x])).take r := by
  rw [sortK_snoc, sortK_snoc, sortK_self hk (rising_take (rising_sortK l) r), take_insK]
end
/-! ### ranks -/
def brank (seed x : BitVec 64) : Nat := (bmix (x ^^^ seed)).toNat
theorem shr_zero {b : Nat} (hb : 0 < b) {z : BitVec 64} (h : z = z >>> b) : z = 0#64 := by
  have h1 : ∀ n, z = z >>> (n * b) := fun n => by
    induction n with
    | zero => simp
    | succ n ih =>
      rw [Nat.succ_mul]
      conv => lhs; rw [h]
      conv => lhs; lhs; rw [ih]
      rw [BitVec.shiftRight_add]
  have h2 := h1 64
  apply BitVec.eq_of_toNat_eq
  rw [h2, BitVec.toNat_ushiftRight, Nat.shiftRight_eq_div_pow]
  have h3 : z.toNat < 2 ^ (64 * b) := Nat.lt_of_lt_of_le z.isLt (Nat.pow_le_pow_right (by decide) (by omega))
  rw [Nat.div_eq_of_lt h3]
  rfl
theorem xsh_inj {b : Nat} (hb : 0 < b) {x y : BitVec 64} (h : x ^^^ (x >>> b) = y ^^^ (y >>> b)) : x = y := by
  have hz : (x ^^^ y) = (x ^^^ y) >>> b := by
    rw [BitVec.ushiftRight_xor_distrib]
    have h1 : x ^^^ (x >>> b) ^^^ (y ^^^ (x >>> b)) = y ^^^ (y >>> b) ^^^ (y ^^^ (x >>> b)) := by rw [h]
    have e1 : x ^^^ (x >>> b) ^^^ (y ^^^ (x >>> b)) = x ^^^ y := by
      rw [BitVec.xor_comm y (x >>> b), BitVec.xor_assoc, ← BitVec.xor_assoc (x >>> b) (x >>> b) y, BitVec.xor_self, BitVec.zero_xor]
    have e2 : y ^^^ (y >>> b) ^^^ (y ^^^ (x >>> b)) = (x >>> b) ^^^ (y >>> b) := by
      rw [BitVec.xor_comm y (y >>> b), BitVec.xor_assoc, ← BitVec.xor_assoc y y (x >>> b), BitVec.xor_self, BitVec.zero_xor, BitVec.xor_comm]
    rw [e1, e2] at h1
    exact h1
  have h0 := shr_zero hb hz
  have h2 : x ^^^ y ^^^ y = y := by rw [h0, BitVec.zero_xor]
  rwa [BitVec.xor_assoc, BitVec.xor_self, BitVec.xor_zero] at h2
theorem mul_inj {c i x y : BitVec 64} (hi : i * c = 1#64) (h : x * c = y * c) : x = y := by
  have h1 : x * c * i = y * c * i := by rw [h]
  rw [BitVec.mul_assoc, BitVec.mul_assoc, BitVec.mul_comm c i, hi, BitVec.mul_one, BitVec.mul_one] at h1
  exact h1
theorem bmix_inj {x y : BitVec 64} (h : bmix x = bmix y) : x = y := by
  unfold bmix mstep at h
  rw [BitVec.mul_one, BitVec.mul_one] at h
  have h1 := xsh_inj (by decide) h
  have h2 := xsh_inj (by decide) (mul_inj binv_two h1)
  exact xsh_inj (by decide) (mul_inj binv_one h2)
theorem brank_inj (seed : BitVec 64) : InjK (brank seed) := fun x y h => by
  have h1 := bmix_inj (BitVec.eq_of_toNat_eq h)
  have h2 : x ^^^ seed ^^^ seed = y ^^^ seed ^^^ seed := by rw [h1]
  rwa [BitVec.xor_assoc, BitVec.xor_assoc, BitVec.xor_self, BitVec.xor_zero, BitVec.xor_zero] at h2
end Go.Proofs.Ytkffakekakhgdaa
