/- Rows that come in, of bounded bulk. Nothing of the program's own functions. No condition. -/
import Derived.Test.YtkffakekakhgdaaRows
import Derived.Test.YtkffakekakhgdaaCycH
import Derived.Test.YtkffakekakhgdaaRwI
namespace Go.Proofs.Ytkffakekakhgdaa
open Go.ChangeShapes Go.WideShapes Go.ChangeAt Go.RowKit
set_option linter.unusedVariables false

theorem bulk_pos {H : Type} (d : DataW H) : 1 ≤ Rows.uptoBulk d := by
  cases d with
  | lit l => cases l <;> simp [Rows.uptoBulk]
  | _ => simp [Rows.uptoBulk]
theorem bulk_len {H : Type} : ∀ ds : List (DataW H), ds.length ≤ Rows.uptoBulkAll ds
  | [] => Nat.zero_le _
  | d :: ds => by
    have := bulk_pos d
    have := bulk_len ds
    simp only [List.length_cons, Rows.uptoBulkAll]
    omega
theorem bulk_flat {H : Type} {α : Type} (f : α → List Int) (g : α → DataW H) : ∀ (l : List α), (∀ x ∈ l, (f x).length ≤ Rows.uptoBulk (g x)) → (l.map f).flatten.length ≤ Rows.uptoBulkAll (l.map g)
  | [], _ => Nat.zero_le _
  | x :: l, h => by
    have h1 := bulk_flat f g l fun y hy => h y (List.mem_cons_of_mem _ hy)
    have h2 := h x (List.mem_cons_self ..)
    simp only [List.map_cons, List.flatten_cons, List.length_append, Rows.uptoBulkAll]
    omega
theorem bulk_row {H : Type} (A : Option Addr) (L : Nat) (Z : List Int) (h0 : A = none → Z.take L = []) : (Z.take L).length ≤ Rows.uptoBulk (Deep.intRow (H := H) .i64 A L Z) := by
  cases A with
  | none => rw [h0 rfl]; exact Nat.zero_le _
  | some a =>
    have h := bulk_len (lits (H := H) .i64 (Z.take L))
    have e : (lits (H := H) .i64 (Z.take L)).length = (Z.take L).length := by simp [lits]
    rw [e] at h
    simp only [Deep.intRow, Rows.uptoBulk]
    omega
def RowsU {H : Type} (W : World) (d : DataW H) (x : RowsX) : Prop := RowsOk W W.heap.size x.1 x.2.1 ∧ x.2.1.length ≤ Rows.uptoBulk d ∧ (nums x.2.1).flatten.length ≤ Rows.uptoBulk d
theorem RowsOk.toR {W : World} {B : Nat} {A : Option Addr} {l : List Rw} (h : RowsOk W B A l) : RowsR W B A (nums l) := fun k hk => by
  have hk2 : k < l.length := by simpa [nums] using hk
  obtain ⟨ad, h1, h2, h3, h4⟩ := h.row hk2
  have e : (nums l)[k] = (l[k]).2.1 := by simp [nums]
  rw [e]
  exact ⟨ad, _, _, h1, h2, h3, h4.1⟩
set_option maxRecDepth 100000 in
theorem open_rowsU {H : Type} {enc : TypeId × Value → H} {W : World} {v : Value} {d : DataW H} {ps : List MemPlace} {r : Reach} {b0 : Nat}
    (h : DataW.Trod enc Try.prog W 0 (fun _ => true) true 35 v d ps) (hv : Value.okWide Try.prog W r b0 35 v) :
    ∃ x : RowsX, v = RowsV x ∧ RowsU W d x := by
  obtain ⟨fuel, hf⟩ := h
  obtain ⟨a, len, cap, rfl⟩ := okWide_slice Try.underlying35 hv
  rcases Deep.open_int_rows Try.underlying35 Try.underlying36 Try.underlying3 (by kernel_rfl) (by kernel_rfl) hf with ⟨hcs, _⟩ | ⟨x, l, c, A, L, C, Z, hcs, _, hl, hm, hd, hr⟩
  · simp [Value.cells] at hcs
    obtain ⟨rfl, rfl, rfl⟩ := hcs
    exact ⟨(none, [], 0), rfl, ⟨Seg.nil, fun x hx => by cases hx⟩, Nat.zero_le _, Nat.zero_le _⟩
  · simp [Value.cells] at hcs
    obtain ⟨rfl, rfl, rfl⟩ := hcs
    injection hd with hd1 _
    have hrow : ∀ r, r < cap → (Z r).length = C r ∧ L r ≤ C r := fun r h => ⟨(hr r h).2.2.2.1, (hr r h).2.1⟩
    refine ⟨(some x, (List.range len).map (fun r => ((A r, (Z r).take (L r), C r) : Rw)), cap), by simp, ⟨fun h0 => ?_, fun y hy => ?_⟩, ?_, ?_⟩
    · have h0' : 0 < len := by simpa using h0
      have hb : x.block < W.heap.size := by
        have h1 := (hr 0 (by omega)).1
        have e : x.add 0 = x := rfl
        rw [e] at h1
        exact block_lt h1
      refine ⟨x, rfl, hb, fun k u hu => ?_⟩
      have hk : k < len := by
        have := (List.getElem?_eq_some_iff.1 hu).1
        simpa using this
      simp [hk] at hu
      rw [(hr k (by omega)).1, ← hu]
      have := hrow k (by omega)
      simp [rowV]
      omega
    · obtain ⟨k, hk, rfl⟩ := List.mem_map.1 hy
      have hk' : k < len := List.mem_range.1 hk
      obtain ⟨_, h2, h3, h4, h5, h6, h7⟩ := hr k (by omega)
      refine ⟨fun h0 => ?_, by show ((Z k).take (L k)).length ≤ C k; simp; omega, h3, fun n hn => h5 n (List.mem_of_mem_take hn)⟩
      have h0' : 0 < L k := by simp at h0; omega
      cases hA : A k with
      | none => exact absurd (h6 hA) (by omega)
      | some a' =>
        obtain ⟨_, hc⟩ := h7 a' hA
        have hb : a'.block < W.heap.size := by
          have h1 := hc 0 (by omega)
          have e : a'.add 0 = a' := rfl
          rw [e] at h1
          exact block_lt h1
        refine ⟨a', rfl, hb, fun j u hu => ?_⟩
        have hj : j < L k := by
          have := (List.getElem?_eq_some_iff.1 hu).1
          simp at this; omega
        rw [hc j (by omega)]
        have hjz : j < (Z k).length := by omega
        rw [List.getElem?_map, List.getElem?_take_of_lt hj, List.getElem?_eq_getElem hjz] at hu
        simp at hu
        simp [List.getD, List.getElem?_eq_getElem hjz, hu]
    · subst hd1
      have h1 := bulk_len ((List.range len).map fun r => Deep.intRow (H := H) .i64 (A r) (L r) (Z r))
      simp only [List.length_map, List.length_range] at h1 ⊢
      simp only [Rows.uptoBulk]
      omega
    · subst hd1
      have h1 := bulk_flat (fun r => (Z r).take (L r)) (fun r => Deep.intRow (H := H) .i64 (A r) (L r) (Z r)) (List.range len) fun r hr1 => by
        have hr2 : r < len := List.mem_range.1 hr1
        obtain ⟨_, h2, h3, h4, h5, h6, h7⟩ := hr r (by omega)
        refine bulk_row _ _ _ fun hA => ?_
        have := h6 hA
        exact List.eq_nil_of_length_eq_zero (by simp; omega)
      have e : nums ((List.range len).map (fun r => ((A r, (Z r).take (L r), C r) : Rw))) = (List.range len).map fun r => (Z r).take (L r) := by
        unfold nums; rw [List.map_map]; rfl
      simp only [e, Rows.uptoBulk]
      omega
end Go.Proofs.Ytkffakekakhgdaa
