/- Slices of slices of numbers that come in. Nothing of the program's own functions. No condition. -/
import Derived.Test.YtkffakekakhgdaaBase2
import Derived.Deep.Matrix
import Derived.SizedLaws
namespace Go.Proofs.Ytkffakekakhgdaa
open Go.ChangeShapes Go.WideShapes Go.ChangeAt Go.RowKit
set_option linter.unusedVariables false

/-- A row: its address, its numbers, its capacity. -/
abbrev Rw : Type := Option Addr × List Int × Nat
abbrev rowV (x : Rw) : Value := .slice x.1 x.2.1.length x.2.2
def RowOk (W : World) (B : Nat) (x : Rw) : Prop := Seg W B x.1 (x.2.1.map (.int .i64)) ∧ x.2.1.length ≤ x.2.2 ∧ x.2.2 ≤ maxLen ∧ ∀ n ∈ x.2.1, (Lit.int .i64 n).wf = true
/-- Rows that come in. -/
def RowsOk (W : World) (B : Nat) (A : Option Addr) (l : List Rw) : Prop := Seg W B A (l.map rowV) ∧ ∀ x ∈ l, RowOk W B x
/-- Their numbers. -/
def nums (l : List Rw) : List (List Int) := l.map (·.2.1)
section
variable {W W' : World} {B : Nat} {A : Option Addr} {l : List Rw}
theorem RowOk.below {x : Rw} (h : RowOk W B x) (hb : Below B W W') : RowOk W' B x := ⟨h.1.below hb, h.2⟩
theorem RowsOk.below (h : RowsOk W B A l) (hb : Below B W W') : RowsOk W' B A l := ⟨h.1.below hb, fun x hx => (h.2 x hx).below hb⟩
theorem RowsOk.drewN (h : RowsOk W B A l) (n : Nat) : RowsOk (W.drewN n) B A l := h.below (below_drewN (Below.refl _ _) n)
theorem RowsOk.on (h : RowsOk W W.heap.size A l) (hb : Below W.heap.size W W') : RowsOk W' W'.heap.size A l :=
  ⟨(h.1.below hb).more hb.size, fun x hx => ⟨((h.2 x hx).1.below hb).more hb.size, (h.2 x hx).2⟩⟩
/-- Row k. -/
theorem RowsOk.row (h : RowsOk W B A l) {k : Nat} (hk : k < l.length) : ∃ ad, A = some ad ∧ ad.block < B ∧ W.cell? (ad.add k) = some (rowV l[k]) ∧ RowOk W B l[k] := by
  obtain ⟨ad, h1, h2, h3⟩ := h.1.get (k := k) (u := rowV l[k]) (by simp [hk])
  exact ⟨ad, h1, h2, h3, h.2 _ (List.getElem_mem hk)⟩
end
abbrev RowsX : Type := Option Addr × List Rw × Nat
abbrev RowsV (x : RowsX) : Value := .slice x.1 x.2.1.length x.2.2
set_option maxRecDepth 100000 in
theorem open_rows {H : Type} {enc : TypeId × Value → H} {W : World} {v : Value} {d : DataW H} {ps : List MemPlace} {r : Reach} {b0 : Nat}
    (h : DataW.Trod enc Try.prog W 0 (fun _ => true) true 35 v d ps) (hv : Value.okWide Try.prog W r b0 35 v) :
    ∃ x : RowsX, v = RowsV x ∧ (RowsOk W W.heap.size x.1 x.2.1 ∧ x.2.1.length ≤ x.2.2 ∧ x.2.2 ≤ maxLen) := by
  obtain ⟨fuel, hf⟩ := h
  obtain ⟨a, len, cap, rfl⟩ := okWide_slice Try.underlying35 hv
  rcases Deep.open_int_rows Try.underlying35 Try.underlying36 Try.underlying3 (by kernel_rfl) (by kernel_rfl) hf with ⟨hcs, _⟩ | ⟨x, l, c, A, L, C, Z, hcs, _, hl, hm, _, hr⟩
  · simp [Value.cells] at hcs
    obtain ⟨rfl, rfl, rfl⟩ := hcs
    exact ⟨(none, [], 0), rfl, ⟨Seg.nil, fun x hx => by cases hx⟩, Nat.le_refl _, Nat.zero_le _⟩
  · simp [Value.cells] at hcs
    obtain ⟨rfl, rfl, rfl⟩ := hcs
    have hrow : ∀ r, r < cap → (Z r).length = C r ∧ L r ≤ C r := fun r h => ⟨(hr r h).2.2.2.1, (hr r h).2.1⟩
    refine ⟨(some x, (List.range len).map (fun r => ((A r, (Z r).take (L r), C r) : Rw)), cap), by simp, ⟨fun h0 => ?_, fun y hy => ?_⟩, by simpa using hl, hm⟩
    · have h0' : 0 < len := by simpa using h0
      have hb : x.block < W.heap.size := by
        have h1 := (hr 0 (by omega)).1
        have e : x.add 0 = x := rfl
        rw [e] at h1
        exact block_lt h1
      refine ⟨x, rfl, hb, fun k u hu => ?_⟩
      have hk : k < len := by
        have := (List.getElem?_eq_some_iff.1 hu).1
        simpa using this
      simp [hk] at hu
      rw [(hr k (by omega)).1, ← hu]
      have := hrow k (by omega)
      simp [rowV]
      omega
    · obtain ⟨k, hk, rfl⟩ := List.mem_map.1 hy
      have hk' : k < len := List.mem_range.1 hk
      obtain ⟨_, h2, h3, h4, h5, h6, h7⟩ := hr k (by omega)
      refine ⟨fun h0 => ?_, by show ((Z k).take (L k)).length ≤ C k; simp; omega, h3, fun n hn => h5 n (List.mem_of_mem_take hn)⟩
      have h0' : 0 < L k := by simp at h0; omega
      cases hA : A k with
      | none => exact absurd (h6 hA) (by omega)
      | some a' =>
        obtain ⟨_, hc⟩ := h7 a' hA
        have hb : a'.block < W.heap.size := by
          have h1 := hc 0 (by omega)
          have e : a'.add 0 = a' := rfl
          rw [e] at h1
          exact block_lt h1
        refine ⟨a', rfl, hb, fun j u hu => ?_⟩
        have hj : j < L k := by
          have := (List.getElem?_eq_some_iff.1 hu).1
          simp at this; omega
        rw [hc j (by omega)]
        have hjz : j < (Z k).length := by omega
        rw [List.getElem?_map, List.getElem?_take_of_lt hj, List.getElem?_eq_getElem hjz] at hu
        simp at hu
        simp [List.getD, List.getElem?_eq_getElem hjz, hu]
/-! ### how long each row can be -/
def RowsSz (l : List Rw) : Prop := ∀ x ∈ l, x.2.2 * 8 ≤ 140737488351232
theorem mem_weightsAll {H : Type} {P : Program} {e : TypeId} {x : Nat} : ∀ (es : List (DataW H)) (d : DataW H), d ∈ es → x ∈ d.weights P e → x ∈ DataW.weightsAll P e es
  | [], d, h, _ => by cases h
  | y :: es, d, h, hx => by
    rw [DataW.weightsAll]
    rcases List.mem_cons.1 h with rfl | h
    · exact List.mem_append_left _ hx
    · exact List.mem_append_right _ (mem_weightsAll es d h hx)
set_option maxRecDepth 100000 in
theorem open_rowsS {H : Type} {enc : TypeId × Value → H} {W : World} {v : Value} {d : DataW H} {ps : List MemPlace} {r : Reach} {b0 : Nat}
    (h : DataW.Trod enc Try.prog W 0 (fun _ => true) true 35 v d ps) (hv : Value.okWide Try.prog W r b0 35 v) (hR : ∀ x ∈ DataW.weights Try.prog 35 d, x ≤ reachBytes) :
    ∃ x : RowsX, v = RowsV x ∧ (RowsOk W W.heap.size x.1 x.2.1 ∧ x.2.1.length ≤ x.2.2 ∧ x.2.2 ≤ maxLen ∧ RowsSz x.2.1) := by
  obtain ⟨fuel, hf⟩ := h
  obtain ⟨a, len, cap, rfl⟩ := okWide_slice Try.underlying35 hv
  rcases Deep.open_int_rows Try.underlying35 Try.underlying36 Try.underlying3 (by kernel_rfl) (by kernel_rfl) hf with ⟨hcs, _⟩ | ⟨x, l, c, A, L, C, Z, hcs, _, hl, hm, hd, hr⟩
  · simp [Value.cells] at hcs
    obtain ⟨rfl, rfl, rfl⟩ := hcs
    exact ⟨(none, [], 0), rfl, ⟨Seg.nil, fun x hx => by cases hx⟩, Nat.le_refl _, Nat.zero_le _, fun x hx => by cases hx⟩
  · simp [Value.cells] at hcs
    obtain ⟨rfl, rfl, rfl⟩ := hcs
    injection hd with hd1 _
    subst hd1
    have hrow : ∀ r, r < cap → (Z r).length = C r ∧ L r ≤ C r := fun r h => ⟨(hr r h).2.2.2.1, (hr r h).2.1⟩
    refine ⟨(some x, (List.range len).map (fun r => ((A r, (Z r).take (L r), C r) : Rw)), cap), by simp, ⟨fun h0 => ?_, fun y hy => ?_⟩, by simpa using hl, hm, fun y hy => ?_⟩
    · have h0' : 0 < len := by simpa using h0
      have hb : x.block < W.heap.size := by
        have h1 := (hr 0 (by omega)).1
        have e : x.add 0 = x := rfl
        rw [e] at h1
        exact block_lt h1
      refine ⟨x, rfl, hb, fun k u hu => ?_⟩
      have hk : k < len := by
        have := (List.getElem?_eq_some_iff.1 hu).1
        simpa using this
      simp [hk] at hu
      rw [(hr k (by omega)).1, ← hu]
      have := hrow k (by omega)
      simp [rowV]
      omega
    · obtain ⟨k, hk, rfl⟩ := List.mem_map.1 hy
      have hk' : k < len := List.mem_range.1 hk
      obtain ⟨_, h2, h3, h4, h5, h6, h7⟩ := hr k (by omega)
      refine ⟨fun h0 => ?_, by show ((Z k).take (L k)).length ≤ C k; simp; omega, h3, fun n hn => h5 n (List.mem_of_mem_take hn)⟩
      have h0' : 0 < L k := by simp at h0; omega
      cases hA : A k with
      | none => exact absurd (h6 hA) (by omega)
      | some a' =>
        obtain ⟨_, hc⟩ := h7 a' hA
        have hb : a'.block < W.heap.size := by
          have h1 := hc 0 (by omega)
          have e : a'.add 0 = a' := rfl
          rw [e] at h1
          exact block_lt h1
        refine ⟨a', rfl, hb, fun j u hu => ?_⟩
        have hj : j < L k := by
          have := (List.getElem?_eq_some_iff.1 hu).1
          simp at this; omega
        rw [hc j (by omega)]
        have hjz : j < (Z k).length := by omega
        rw [List.getElem?_map, List.getElem?_take_of_lt hj, List.getElem?_eq_getElem hjz] at hu
        simp at hu
        simp [List.getD, List.getElem?_eq_getElem hjz, hu]
    · obtain ⟨k, hk, rfl⟩ := List.mem_map.1 hy
      have hk' : k < len := List.mem_range.1 hk
      obtain ⟨_, h2, h3, h4, h5, h6, h7⟩ := hr k (by omega)
      show C k * 8 ≤ 140737488351232
      cases hA : A k with
      | none => rw [h6 hA]; decide
      | some a' =>
        have hu1 : Try.prog.underlying 35 = some (.slice 36) := Try.underlying35
        have hu2 : Try.prog.underlying 36 = some (.slice 3) := Try.underlying36
        have hb8 : Try.prog.bytesOf 3 = 8 := by kernel_rfl
        have hmem : (C k) * 8 ∈ DataW.weights Try.prog 36 (Deep.intRow (H := H) .i64 (A k) (L k) (Z k)) := by
          rw [hA]
          simp only [Deep.intRow, DataW.weights, hu2, hb8]
          refine List.mem_cons.2 (.inl ?_)
          simp [lits, h4]
          omega
        have h8 := hR (C k * 8) (by
          simp only [DataW.weights, hu1]
          exact List.mem_cons_of_mem _ (List.mem_append_left _ (mem_weightsAll _ _ (List.mem_map.2 ⟨k, hk, rfl⟩) hmem)))
        exact h8
end Go.Proofs.Ytkffakekakhgdaa
