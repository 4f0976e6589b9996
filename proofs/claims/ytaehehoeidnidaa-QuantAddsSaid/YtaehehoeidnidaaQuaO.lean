/- A slice of structs of three numbers that comes in. Nothing of the program's own functions. No condition. -/
import Derived.Test.YtaehehoeidnidaaQuaT
namespace Go.Proofs.Ytaehehoeidnidaa
open Go.ChangeShapes Go.WideShapes Go.ChangeAt Go.RowKit
set_option linter.unusedVariables false

abbrev RkV (x : Option Addr × List Rk × Nat) : Value := .slice x.1 x.2.1.length x.2.2
def RkOk (W : World) (x : Option Addr × List Rk × Nat) : Prop := Seg W W.heap.size x.1 (flat3 x.2.1) ∧ x.2.1.length ≤ x.2.2 ∧ x.2.2 ≤ 9223372036854775807
def ktab (f : Nat → Rk) (n : Nat) : List Rk := (List.range n).map f
theorem ktab_len (f : Nat → Rk) (n : Nat) : (ktab f n).length = n := by simp [ktab]
theorem kat_ktab {f : Nat → Rk} {n k : Nat} (h : k < n) : kat (ktab f n) k = f k := by simp [kat, ktab, h]
set_option maxRecDepth 100000 in
theorem open_rks {H : Type} {enc : TypeId × Value → H} {W : World} {v : Value} {d : DataW H} {ps : List MemPlace} {r : Reach} {b0 : Nat}
    (h : DataW.Trod enc Try.prog W 0 (fun _ => true) true 96 v d ps) (hv : Value.okWide Try.prog W r b0 96 v) :
    ∃ x, v = RkV x ∧ RkOk W x := by
  obtain ⟨fuel, hf⟩ := h
  obtain ⟨a, len, cap, rfl⟩ := okWide_slice Try.underlying96 hv
  rcases Deep.open_slice Try.underlying96 hf with ⟨hcs, _⟩ | ⟨x, l, c, m, n, D, Pl, hcs, _, hl, hm, hmm, _, hx⟩
  · simp [Value.cells] at hcs
    obtain ⟨rfl, rfl, rfl⟩ := hcs
    exact ⟨(none, [], 0), rfl, Seg.nil, Nat.le_refl _, Nat.zero_le _⟩
  · simp [Value.cells] at hcs
    obtain ⟨rfl, rfl, rfl⟩ := hcs
    have hmc : m = cap := by rw [hmm]; rfl
    have ce : Try.prog.cellsOf 104 = 3 := by kernel_rfl
    have ci : Try.prog.cellsOf 3 = 1 := by kernel_rfl
    have hc : ∀ i, ∃ q : Rk, i < len → W.cell? (x.add (i * 3)) = some (.int .i64 q.1) ∧ W.cell? (x.add (i * 3 + 1)) = some (.int .i64 q.2.1) ∧ W.cell? (x.add (i * 3 + 2)) = some (.int .i64 q.2.2) := by
      intro i
      by_cases hi : i < len
      · obtain ⟨cs', h1, h2⟩ := hx i (by omega)
        rw [ce] at h1
        obtain ⟨_, hlen, hcell⟩ := World.cells?_some h1
        obtain ⟨xs, k, _, _, _, hxl, hg⟩ := DataW.trod_struct Try.underlying104 h2
        match xs, hxl, cs', hlen with
        | [y0, y1, y2], _, [v0, v1, v2], _ =>
          have g0 := hg 0 _ rfl
          have g1 := hg 1 _ rfl
          have g2 := hg 2 _ rfl
          simp [ci] at g0 g1 g2
          obtain ⟨n0, e0, _, _⟩ := DataW.trod_int Try.underlying3 g0
          obtain ⟨n1, e1, _, _⟩ := DataW.trod_int Try.underlying3 g1
          obtain ⟨n2, e2, _, _⟩ := DataW.trod_int Try.underlying3 g2
          simp at e0 e1 e2
          have f0 := hcell 0 (by omega)
          have f1 := hcell 1 (by omega)
          have f2 := hcell 2 (by omega)
          rw [Deep.add_add] at f0 f1 f2
          exact ⟨(n0, n1, n2), fun _ => ⟨by simpa [e0] using f0, by simpa [e1] using f1, by simpa [e2] using f2⟩⟩
      · exact ⟨(0, 0, 0), fun h => absurd h hi⟩
    obtain ⟨q, hq⟩ := Classical.skolem.1 hc
    refine ⟨(some x, ktab q len, cap), by simp [ktab_len], fun h0 => ?_, by rw [ktab_len]; exact hl, hm⟩
    rw [flat3_len, ktab_len] at h0
    have hb : x.block < W.heap.size := by
      have h1 := (hq 0 (by omega)).1
      have e : x.add (0 * 3) = x := rfl
      rw [e] at h1
      exact block_lt h1
    refine ⟨x, rfl, hb, fun i u hu => ?_⟩
    have hi : i < (flat3 (ktab q len)).length := (List.getElem?_eq_some_iff.1 hu).1
    rw [flat3_len, ktab_len] at hi
    have hk : i / 3 < len := by omega
    obtain ⟨h1, h2, h3⟩ := flat3_at (ktab q len) (i / 3) (by rw [ktab_len]; exact hk)
    rw [kat_ktab hk] at h1 h2 h3
    obtain ⟨h4, h5, h6⟩ := hq (i / 3) hk
    rcases (by omega : i = i / 3 * 3 ∨ i = i / 3 * 3 + 1 ∨ i = i / 3 * 3 + 2) with e | e | e
    · rw [← e] at h1 h4
      rw [h4, ← h1]; exact hu
    · rw [← e] at h2 h5
      rw [h5, ← h2]; exact hu
    · rw [← e] at h3 h6
      rw [h6, ← h3]; exact hu
end Go.Proofs.Ytaehehoeidnidaa
