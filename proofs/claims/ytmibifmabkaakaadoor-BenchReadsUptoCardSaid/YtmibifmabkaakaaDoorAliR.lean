/- Rows of pairs: made, written, read; the kit's laws at pairs. Plain facts. No condition. -/
import Derived.Test.YtmibifmabkaakaaDoorAliT
import Derived.Deep.MidRow
namespace Go.Proofs.YtmibifmabkaakaaDoor
open Go.ChangeShapes Go.WideShapes Go.ChangeAt Go.RowKit
set_option linter.unusedVariables false

/-- Cell c of a row of pairs. -/
def pc (V T : Nat → Int) : Nat → Value := fun c => if c % 2 = 0 then .int .i64 (V (c / 2)) else .int .i64 (T (c / 2))
theorem pc_even (V T : Nat → Int) (k : Nat) : pc V T (k * 2) = .int .i64 (V k) := by
  unfold pc; rw [if_pos (by omega), show k * 2 / 2 = k by omega]
theorem pc_odd (V T : Nat → Int) (k : Nat) : pc V T (k * 2 + 1) = .int .i64 (T k) := by
  unfold pc; rw [if_neg (by omega), show (k * 2 + 1) / 2 = k by omega]
/-- A row of n pairs. -/
def PRow (w : World) (g n : Nat) (V T : Nat → Int) : Prop := w.rowIs g 105 (n * 2) (pc V T)
def ptab (V T : Nat → Int) (n : Nat) : List (Int × Int) := (List.range n).map fun k => (V k, T k)
theorem ptab_len (V T : Nat → Int) (n : Nat) : (ptab V T n).length = n := by simp [ptab]
theorem ptab_succ (V T : Nat → Int) (n : Nat) : ptab V T (n + 1) = ptab V T n ++ [(V n, T n)] := by simp [ptab, List.range_succ]
theorem prat_ptab {V T : Nat → Int} {n k : Nat} (h : k < n) : prat (ptab V T n) k = (V k, T k) := by simp [prat, ptab, h]
section
variable {w w' : World} {g n : Nat} {V T : Nat → Int}
theorem PRow.lt (h : PRow w g n V T) : g < w.heap.size := World.rowIs.lt h
theorem PRow.seg (h : PRow w g n V T) : Seg w w.heap.size (some ⟨g, 0, none⟩) (flat (ptab V T n)) := by
  refine rowIs_seg h (fun i u hu => ?_) (by rw [flat_len, ptab_len]; exact Nat.le_refl _)
  have hi : i < (flat (ptab V T n)).length := (List.getElem?_eq_some_iff.1 hu).1
  rw [flat_len, ptab_len] at hi
  have hk : i / 2 < n := by omega
  obtain ⟨h1, h2⟩ := flat_at (ptab V T n) (i / 2) (by rw [ptab_len]; exact hk)
  rw [prat_ptab hk] at h1 h2
  rcases (by omega : i = i / 2 * 2 ∨ i = i / 2 * 2 + 1) with e | e
  · rw [← e, hu] at h1
    injection h1 with h1
    rw [h1, e, pc_even, show i / 2 * 2 / 2 = i / 2 by omega]
  · rw [← e, hu] at h2
    injection h2 with h2
    rw [h2, e, pc_odd, show (i / 2 * 2 + 1) / 2 = i / 2 by omega]
theorem PRow.congr {V' T' : Nat → Int} (h : PRow w g n V T) (e1 : ∀ i, i < n → V i = V' i) (e2 : ∀ i, i < n → T i = T' i) : PRow w g n V' T' :=
  World.rowIs.congr h fun i hi => by
    by_cases hc : i % 2 = 0
    · unfold pc; rw [if_pos hc, if_pos hc, e1 _ (by omega)]
    · unfold pc; rw [if_neg hc, if_neg hc, e2 _ (by omega)]
theorem PRow.set (h : PRow w g n V T) (k : Nat) (a b : Int) : PRow ((w.setCell ⟨g, k * 2, none⟩ (.int .i64 a)).setCell ⟨g, k * 2 + 1, none⟩ (.int .i64 b)) g n (updf V k a) (updf T k b) := by
  refine World.rowIs.congr (World.rowIs.set (World.rowIs.set h (k * 2) (.int .i64 a)) (k * 2 + 1) (.int .i64 b)) fun i _ => ?_
  unfold pc updf
  by_cases h1 : i = k * 2 + 1
  · rw [if_pos h1, if_neg (by omega), if_pos (by omega)]
  · by_cases h2 : i = k * 2
    · rw [if_neg h1, if_pos h2, if_pos (by omega), if_pos (by omega)]
    · rw [if_neg h1, if_neg h2]
      split
      · rw [if_neg (by omega)]
      · rw [if_neg (by omega)]
theorem PRow.there (h : PRow w g n V T) {k : Nat} (hk : k < n) : w.there g (k * 2) 2 := fun j hj =>
  ⟨by rw [World.rowIs.cell h (show k * 2 + j < n * 2 by omega)]; rfl, World.rowIs.frozen h _⟩
theorem PRow.far (h : PRow w g n V T) {p : Addr} (hp : g ≠ p.block) (u : Value) : PRow (w.setCell p u) g n V T := World.rowIs.setOther h hp u
theorem PRow.alloc (h : PRow w g n V T) (o : Obj) : PRow (w.alloc o) g n V T := World.rowIs.alloc h o
theorem PRow.below {B : Nat} (h : PRow w g n V T) (hb : Below B w w') (hg : g < B) : PRow w' g n V T := rowIs_below h hb hg
end
/-- Made. -/
theorem PRow.made (w : World) (n : Nat) : PRow (w.alloc (.cells (madeCells #[.int .i64 0, .int .i64 0] (n * 2)) 105)) w.heap.size n (fun _ => 0) (fun _ => 0) := by
  refine ⟨_, Deep.blk_alloc_new _ _, size_madeCells _ _, fun i hi => ?_⟩
  have e : pc (fun _ => 0) (fun _ => 0) i = .int .i64 0 := by unfold pc; split <;> rfl
  rw [e]
  rcases (by omega : i % 2 = 0 ∨ i % 2 = 1) with h | h <;> simp [madeCells, hi, h]
theorem run_make_pairs {n : Nat} (hn : n ≤ 1048576) (w : World) :
    (Instr.makeSlice 49 (.int .i64 (n : Int)) (.int .i64 (n : Int))).run Tryd.prog w = .ok (.slice (some ⟨w.heap.size, 0, none⟩) n n) (w.alloc (.cells (madeCells #[.int .i64 0, .int .i64 0] (n * 2)) 105)) := by
  have hinfo : (Tryd.prog.info? 105).map (fun i => (i.zero, i.size, i.bytes)) = some (some (.agg #[.int .i64 0, .int .i64 0]), 2, 16) := by kernel_rfl
  obtain ⟨i, hi, hzz⟩ := Option.map_eq_some_iff.1 hinfo
  simp only [Prod.mk.injEq] at hzz
  obtain ⟨hz, hs, hb⟩ := hzz
  have hr := run_make (P := Tryd.prog) w 49 105 i _ Tryd.underlying49 hi hz .i64 .i64 n n (by omega) (Int.le_refl _) (by rw [hb]; omega) (by omega)
  simp only [Int.toNat_natCast, hs] at hr
  exact hr
/-- A pair stored into a row. -/
theorem wpList_store_pair {P : Program} {ops : Array Oper} {rest : List Oper} {o : Oper} {a : Act} {w : World} {Q : Exit → Act → World → Prop} (hgd : o.guard = none) (ty : TypeId) (x y : Operand) (ho : o.op = .store ty x y)
    {g n : Nat} {V T : Nat → Int} (h : PRow w g n V T) {k : Nat} (hk : k < n) (u v : Int) (hx : a.eval x = .pointer (some ⟨g, k * 2, none⟩)) (hy : a.eval y = .agg #[.int .i64 u, .int .i64 v])
    (hi : (P.info? ty).map (·.size) = some 2)
    (hK : ∀ w', PRow w' g n (updf V k u) (updf T k v) → w.grownBy w' (some g) → w'.heap.size = w.heap.size → wpList P ops Q rest (a.put o.dst undef) w') : wpList P ops Q (o :: rest) a w := by
  refine wpList_store_mid hgd ty x y ho g (k * 2) #[.int .i64 u, .int .i64 v] hx hy (h.there hk) hi (by simp [Value.oneCell']) ?_
  refine hK _ (h.set k u v) ?_ (by simp [World.setCells])
  refine ⟨rfl, rfl, rfl, by simp [World.setCells], fun q _ hne => ?_⟩
  have hq : q ≠ g := fun e => hne (by rw [e])
  have e1 := Below.heap_setCell (w.setCell ⟨g, k * 2, none⟩ (.int .i64 u)) ⟨g, k * 2 + 1, none⟩ (.int .i64 v) q hq
  have e2 := Below.heap_setCell w ⟨g, k * 2, none⟩ (.int .i64 u) q hq
  exact e1.trans e2
/-- A call's answer: a slice of pairs, and a number. -/
def POut (w w' : World) (e : Ending) (l : List (Int × Int)) (err : Int) : Prop :=
  ∃ A c, e = .returned (.tuple #[.slice A l.length c, .int .i64 err]) ∧ l.length ≤ c ∧ Seg w' w'.heap.size A (flat l) ∧ Below w.heap.size w w'
theorem POut.nil_ {w w' : World} {err : Int} (h : Below w.heap.size w w') : POut w w' (.returned (.tuple #[.slice none 0 0, .int .i64 err])) [] err :=
  ⟨none, 0, rfl, Nat.le_refl _, Seg.nil, h⟩
theorem POut.row {w w' : World} {g n : Nat} {V T : Nat → Int} {err : Int} (h : PRow w' g n V T) (hb : Below w.heap.size w w') :
    POut w w' (.returned (.tuple #[.slice (some ⟨g, 0, none⟩) n n, .int .i64 err])) (ptab V T n) err :=
  ⟨_, n, by rw [ptab_len], by rw [ptab_len]; exact Nat.le_refl _, h.seg, hb⟩
def amakeL (l : List Int) : List (Int × Int) := if (asumR l).2 = 0 then ptab (amakeF l).V (amakeF l).T l.length else []
theorem asum_good {l : List Int} (h : (asumR l).2 = 0) : 1 ≤ l.length ∧ l.length ≤ 400 ∧ aokc l l.length = true ∧ 0 < asum l l.length ∧ (asumR l).1 = asum l l.length := by
  unfold asumR at h ⊢
  by_cases h1 : aokB l = true
  · rw [if_pos h1] at h ⊢
    by_cases h2 : asum l l.length = 0
    · rw [if_pos h2] at h; cases h
    · rw [if_neg h2]
      unfold aokB at h1
      rw [Bool.and_eq_true, decide_eq_true_eq] at h1
      have := asum_bd h1.2 l.length (Nat.le_refl _)
      exact ⟨h1.1.1, h1.1.2, h1.2, by omega, rfl⟩
  · rw [if_neg h1] at h; cases h
end Go.Proofs.YtmibifmabkaakaaDoor
