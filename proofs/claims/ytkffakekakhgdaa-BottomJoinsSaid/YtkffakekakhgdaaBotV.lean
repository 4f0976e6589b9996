/- slices.Compact at []uint64: the shelf's contract at this program; what the sort and Compact leave is sortK. No condition. -/
import Derived.Shelf.SlicesE.Compact
import Derived.Lib.OwnBridge
import Derived.Sort.OwnSortedInts
import Derived.Test.YtkffakekakhgdaaBotU
namespace Go.Proofs.Ytkffakekakhgdaa
open Go.ChangeShapes Go.WideShapes Go.ChangeAt Go.RowKit Go.Sort
set_option linter.unusedVariables false

def laysCP_ren : Go.Shelf.Ren := ⟨fun | 43 => 41 | n => n, fun | 0 => 0 | 3 => 3 | 4 => 4 | 22 => 23 | 23 => 22 | n => n, fun | n => n⟩
theorem laysCP : Go.Proofs.SlLaysE.n43 Try.prog laysCP_ren := {
  mixed := by kernel_rfl
  f43 := ⟨"slices.Compact[[]uint64,uint64]", by kernel_rfl, Try.func41.trans (congrArg some (by kernel_rfl))⟩
  t0 := Try.underlying0
  a0 := Try.isAgg0
  z0 := Try.sizeOf0
  v0 := Try.zeroValue0
  t3 := Try.underlying3
  a3 := Try.isAgg3
  z3 := Try.sizeOf3
  v3 := Try.zeroValue3
  t4 := Try.underlying4
  a4 := Try.isAgg4
  z4 := Try.sizeOf4
  v4 := Try.zeroValue4
  t22 := Try.underlying23
  a22 := Try.isAgg23
  z22 := Try.sizeOf23
  v22 := Try.zeroValue23
  a23 := Try.isAgg22
  z23 := Try.sizeOf22 }

section
variable {α : Type} [Inhabited α] [DecidableEq α] {k : α → Nat}
theorem compact_rising (hk : InjK k) {s : List α} (hs : s.Pairwise fun x y => k x ≤ k y) : ∀ m, m ≤ s.length → Rising k (Go.Lib.compactUpTo s.toArray m) ∧ ∀ z, z ∈ Go.Lib.compactUpTo s.toArray m ↔ z ∈ s.take m
  | 0, _ => ⟨List.Pairwise.nil, fun z => by simp [Go.Lib.compactUpTo]⟩
  | m + 1, hm => by
    obtain ⟨h1, h2⟩ := compact_rising hk hs m (by omega)
    have hml : m < s.length := by omega
    have hg : ∀ i, (hi : i < s.length) → s.toArray[i]! = s[i] := fun i hi => by simp [getElem!_pos, hi]
    rw [Go.Lib.compactUpTo_succ, List.take_succ_eq_append_getElem hml, hg m hml]
    by_cases hkp : Go.Lib.keeps s.toArray m = true
    · rw [if_pos hkp]
      refine ⟨List.pairwise_append.2 ⟨h1, List.pairwise_singleton .., fun x hx y hy => ?_⟩, fun z => by rw [List.mem_append, List.mem_append, h2]⟩
      rw [List.mem_singleton.1 hy]
      obtain ⟨i, hi, rfl⟩ := List.mem_take_iff_getElem.1 ((h2 x).1 hx)
      unfold Go.Lib.keeps at hkp
      have hne := of_decide_eq_true hkp
      rcases hne with h0 | hne
      · omega
      · rw [hg m hml, hg (m - 1) (by omega)] at hne
        have hle : ∀ a b (hb : b < s.length), (hab : a < b) → k (s[a]'(by omega)) ≤ k s[b] := fun a b hb hab => List.pairwise_iff_getElem.1 hs a b (by omega) hb hab
        have h3 := hle (m - 1) m hml (by omega)
        have h4 : k (s[m - 1]'(by omega)) ≠ k s[m] := fun e => hne (hk _ _ e).symm
        by_cases e : i = m - 1
        · subst e; omega
        · have := hle i (m - 1) (by omega) (by omega); omega
    · rw [if_neg hkp, List.append_nil]
      refine ⟨h1, fun z => ?_⟩
      rw [h2, List.mem_append, List.mem_singleton]
      refine ⟨.inl, fun h => h.elim id fun e => ?_⟩
      subst e
      unfold Go.Lib.keeps at hkp
      have hm0 : ¬ (m = 0 ∨ s.toArray[m]! ≠ s.toArray[m - 1]!) := fun h => hkp (decide_eq_true h)
      have h5 : s[m] = s[m - 1]'(by omega) := by
        have h6 : s.toArray[m]! = s.toArray[m - 1]! := Decidable.byContradiction fun h => hm0 (.inr h)
        rwa [hg m hml, hg (m - 1) (by omega)] at h6
      rw [h5]
      exact List.mem_take_iff_getElem.2 ⟨m - 1, by omega, rfl⟩
end
/-- What the sort leaves. -/
def bms (seed : BitVec 64) (l : List (BitVec 64)) : List (BitVec 64) := l.mergeSort fun x y => !(ltOf (bcf seed)) y x
theorem bms_len (seed : BitVec 64) (l : List (BitVec 64)) : (bms seed l).length = l.length := (List.mergeSort_perm l _).length_eq
theorem bms_up (seed : BitVec 64) (l : List (BitVec 64)) : (bms seed l).Pairwise fun x y => brank seed x ≤ brank seed y := by
  have h := List.pairwise_mergeSort (le := fun x y => !(ltOf (bcf seed)) y x) (fun a b c h1 h2 => by simp only [bcf_lt] at *; simp at *; omega) (fun a b => by simp only [bcf_lt]; simp; omega) l
  refine h.imp fun {a b} h => ?_
  simp only [bcf_lt] at h
  simp at h
  exact h
theorem bms_compact (seed : BitVec 64) (l : List (BitVec 64)) : Go.Lib.compactUpTo (bms seed l).toArray (bms seed l).toArray.size = sortK (brank seed) l := by
  have h := compact_rising (brank_inj seed) (bms_up seed l) (bms seed l).length (Nat.le_refl _)
  rw [List.take_length] at h
  rw [List.size_toArray]
  exact (sortK_of (brank_inj seed) h.1 fun z => (h.2 z).trans (List.mergeSort_perm l _).mem_iff).symm
theorem eql_w64 (P : Program) (T : TypeId) : EqlAt P T W64 (fun x y => decide (x = y)) := ⟨fun x y w => by
  rw [(EqlAt.intD P T .u64).1 (wv x) (wv y) w]
  congr 2
  rw [decide_eq_decide]
  exact ⟨fun h => wv_inj h, fun h => by rw [h]⟩, fun op a b x y w => (GuardAt.int P T .u64) op a b (wv x) (wv y) w⟩
theorem neq_w64 (P : Program) (T : TypeId) : NeqAt P T W64 (fun x y => decide (x = y)) := ⟨fun x y w => by
  rw [(NeqAt.intD P T .u64).1 (wv x) (wv y) w]
  congr 3
  rw [decide_eq_decide]
  exact ⟨fun h => wv_inj h, fun h => by rw [h]⟩, fun op a b x y w => (GuardAt.int P T .u64) op a b (wv x) (wv y) w⟩
end Go.Proofs.Ytkffakekakhgdaa
