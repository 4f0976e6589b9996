/- General facts on slices that came in and on worlds; nothing of the program's own functions. No condition. -/
import Derived.Test.YtakjcodfcoaadaaRows
import Derived.WalkKit
import Derived.ProofKit
import Derived.OpenShut
import Derived.ChangeOld
import Derived.Below
import Derived.Carry
import Derived.Outline
import Derived.WalkSpells
import Derived.WalkLawsBesides
import Derived.Lib.Hide
import Derived.Deep.QuietTactic
import Derived.BigQuiet
import Derived.Deep.Grids
import Derived.Deep.Draws
import Derived.SizedLaws
namespace Go.Proofs.Ytakjcodfcoaadaa
open Go.ChangeShapes Go.WideShapes Go.ChangeAt Go.RowKit

/-! ### slices that are read -/
theorem block_lt {w : World} {a : Addr} {v : Value} (h : w.cell? a = some v) : a.block < w.heap.size := by
  rcases Nat.lt_or_ge a.block w.heap.size with hlt | hge
  · exact hlt
  · unfold World.cell? at h
    rw [Array.getElem?_eq_none hge] at h
    simp at h


/-- The slice at A holds the cells xs, in blocks below B; of an empty list nothing is said. -/
def Seg (w : World) (B : Nat) (A : Option Addr) (xs : List Value) : Prop :=
  0 < xs.length → ∃ ad, A = some ad ∧ ad.block < B ∧ ∀ k u, xs[k]? = some u → w.cell? (ad.add k) = some u

theorem addr_block (a : Addr) (n : Nat) : (a.add n).block = a.block := by unfold Addr.add; split <;> rfl
theorem addr_add (a : Addr) (i j : Nat) : (a.add i).add j = a.add (i + j) := by
  unfold Addr.add
  by_cases hi : i = 0 <;> by_cases hj : j = 0 <;> simp [hi, hj, Nat.add_assoc]

section
variable {w w' : World} {B B' : Nat} {A : Option Addr} {xs : List Value}
theorem Seg.nil : Seg w B A [] := fun h => absurd h (by simp)
theorem Seg.get (h : Seg w B A xs) {k : Nat} {u : Value} (hk : xs[k]? = some u) : ∃ ad, A = some ad ∧ ad.block < B ∧ w.cell? (ad.add k) = some u := by
  have hl : 0 < xs.length := by have := (List.getElem?_eq_some_iff.1 hk).1; omega
  obtain ⟨ad, e, hb, hc⟩ := h hl
  exact ⟨ad, e, hb, hc k u hk⟩
theorem Seg.bool {bs : List Bool} (h : Seg w B A (bs.map .bool)) {k : Nat} (hk : k < bs.length) : ∃ ad, A = some ad ∧ ad.block < B ∧ w.cell? (ad.add k) = some (.bool bs[k]) :=
  h.get (by simp [hk])
theorem Seg.int {t : IntKind} {zs : List Int} (h : Seg w B A (zs.map (.int t))) {k : Nat} (hk : k < zs.length) : ∃ ad, A = some ad ∧ ad.block < B ∧ w.cell? (ad.add k) = some (.int t zs[k]) :=
  h.get (by simp [hk])
theorem Seg.keep (h : Seg w B A xs) (hk : ∀ p : Addr, p.block < B → w'.cell? p = w.cell? p) : Seg w' B A xs := fun hl => by
  obtain ⟨ad, e, hb, hc⟩ := h hl
  exact ⟨ad, e, hb, fun k u hu => (hk _ (by rw [addr_block]; exact hb)).trans (hc k u hu)⟩
theorem Seg.more (h : Seg w B A xs) (hB : B ≤ B') : Seg w B' A xs := fun hl => by
  obtain ⟨ad, e, hb, hc⟩ := h hl
  exact ⟨ad, e, by omega, hc⟩
theorem Seg.below (h : Seg w B A xs) (hb : Below B w w') : Seg w' B A xs := h.keep fun _ hp => hb.cell hp
theorem Seg.drew (h : Seg w B A xs) : Seg w.drew B A xs := h
theorem Seg.drewN (h : Seg w B A xs) (k : Nat) : Seg (w.drewN k) B A xs := h
theorem Seg.alloc (h : Seg w B A xs) (hB : B ≤ w.heap.size) (o : Obj) : Seg (w.alloc o) B A xs := h.keep fun p hp => World.cell?_alloc_lt w o p (by omega)
theorem Seg.setCell (h : Seg w B A xs) {p : Addr} (hB : B ≤ p.block) (u : Value) : Seg (w.setCell p u) B A xs :=
  h.keep fun q hq => World.cell?_setCell_other w p q u (fun e => by subst e; omega)
theorem Seg.cut {ad : Addr} (h : Seg w B (some ad) xs) (k : Nat) : Seg w B (some (ad.add k)) (xs.drop k) := fun hl => by
  obtain ⟨ad', e, hb, hc⟩ := h (by rw [List.length_drop] at hl; omega)
  injection e with e
  subst e
  exact ⟨_, rfl, by rw [addr_block]; exact hb, fun j u hu => by rw [addr_add]; exact hc _ u (by rw [← hu, List.getElem?_drop])⟩
theorem Seg.pre (h : Seg w B A xs) (k : Nat) : Seg w B A (xs.take k) := fun hl => by
  obtain ⟨ad', e, hb, hc⟩ := h (by rw [List.length_take] at hl; omega)
  exact ⟨_, e, hb, fun j u hu => hc j u (by rw [List.getElem?_take] at hu; split at hu <;> simp_all)⟩
end

/-! ### opening the arguments -/
section
variable {H : Type} {enc : TypeId × Value → H} {P : Program} {W : World}
theorem open_seg_bools {t e : TypeId} {v : Value} {d : DataW H} {ps : List MemPlace} (ht : P.underlying t = some (.slice e)) (he : P.underlying e = some .bool) (hc : P.cellsOf e = 1)
    (h : DataW.Trod enc P W 0 (fun _ => true) true t v d ps) (hv : ∃ a len cap, v = .slice a len cap) :
    ∃ (A : Option Addr) (bs : List Bool) (c : Nat), v = .slice A bs.length c ∧ bs.length ≤ c ∧ c ≤ maxLen ∧ Seg W W.heap.size A (bs.map .bool) := by
  obtain ⟨fuel, hf⟩ := h
  obtain ⟨a, len, cap, rfl⟩ := hv
  have hlt := DataW.trod_lt fuel _ _ _ hf
  rcases Deep.open_bools ht he hc hf with ⟨hcs, _⟩ | ⟨x, l, c, Bf, hcs, _, hl, hm, hx, hcell⟩
  · simp [Value.cells] at hcs
    obtain ⟨rfl, rfl, rfl⟩ := hcs
    exact ⟨none, [], 0, rfl, by simp, by simp, Seg.nil⟩
  · simp [Value.cells] at hcs
    obtain ⟨rfl, rfl, rfl⟩ := hcs
    refine ⟨some x, (List.range len).map Bf, cap, by simp, by simpa using hl, hm, fun h0 => ?_⟩
    have h0' : 0 < len := by simpa using h0
    have hb : x.block < W.heap.size := by
      have := hcell 0 (by omega)
      have e : x.add 0 = x := rfl
      rw [e] at this
      exact block_lt this
    refine ⟨x, rfl, hb, fun k u hu => ?_⟩
    have hk : k < len := by
      have := (List.getElem?_eq_some_iff.1 hu).1
      simpa using this
    rw [hcell k (by omega)]
    simp [hk] at hu
    rw [hu]
theorem open_seg_ints {t e : TypeId} {k : IntKind} {v : Value} {d : DataW H} {ps : List MemPlace} (ht : P.underlying t = some (.slice e)) (he : P.underlying e = some (.int k)) (hc : P.cellsOf e = 1)
    (h : DataW.Trod enc P W 0 (fun _ => true) true t v d ps) (hv : ∃ a len cap, v = .slice a len cap) :
    ∃ (A : Option Addr) (zs : List Int) (c : Nat), v = .slice A zs.length c ∧ zs.length ≤ c ∧ c ≤ maxLen ∧ (∀ n ∈ zs, (Lit.int k n).wf = true) ∧ Seg W W.heap.size A (zs.map (.int k)) := by
  obtain ⟨fuel, hf⟩ := h
  obtain ⟨a, len, cap, rfl⟩ := hv
  rcases open_ints ht he hc hf with ⟨hcs, _⟩ | ⟨x, l, c, zs, hcs, _, hl, hm, hz, hx, hcell, hwz⟩
  · simp [Value.cells] at hcs
    obtain ⟨rfl, rfl, rfl⟩ := hcs
    exact ⟨none, [], 0, rfl, by simp, by simp, by simp, Seg.nil⟩
  · simp [Value.cells] at hcs
    obtain ⟨rfl, rfl, rfl⟩ := hcs
    have hzl : zs.length = cap := by simpa using hz
    refine ⟨some x, zs.take len, cap, by simp; omega, by simp; omega, hm, fun n hn => hwz n (List.mem_of_mem_take hn), fun h0 => ?_⟩
    have h0' : 0 < len := by simp at h0; omega
    have hb : x.block < W.heap.size := by
      have := hcell 0 (by omega)
      have e : x.add 0 = x := rfl
      rw [e] at this
      exact block_lt this
    refine ⟨x, rfl, hb, fun j u hu => ?_⟩
    have hk : j < len := by
      have := (List.getElem?_eq_some_iff.1 hu).1
      simp at this
      omega
    rw [hcell j (by omega)]
    rw [List.getElem?_map, List.getElem?_take_of_lt hk] at hu
    have hjz : j < zs.length := by omega
    simp [List.getElem?_eq_getElem hjz] at hu
    simp [List.getD, List.getElem?_eq_getElem hjz, hu]
end

theorem own : ownKnob Try.prog.godebug = none := by kernel_rfl
theorem laidOut : laidOutB Try.prog = true := by kernel_rfl

end Go.Proofs.Ytakjcodfcoaadaa
