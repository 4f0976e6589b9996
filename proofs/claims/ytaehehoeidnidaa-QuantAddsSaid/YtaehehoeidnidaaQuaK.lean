/- Slices of structs of three numbers that the call owns: copied within, appended to. Nothing of the program's own functions. No condition. -/
import Derived.Test.YtaehehoeidnidaaQuaM
import Derived.Laws.CopyOwn
import Derived.Lib.AppendZerosOnto
import Derived.Lib.Overlaps
import Derived.Laws.Externs
import Derived.Deep.RegionLaw
namespace Go.Proofs.Ytaehehoeidnidaa
open Go.ChangeShapes Go.WideShapes Go.ChangeAt Go.RowKit
set_option linter.unusedVariables false

theorem rk_size : (Try.prog.info? 104).map (·.size) = some 3 := by kernel_rfl
theorem rk_info : ∃ i, Try.prog.info? 104 = some i ∧ i.zero = some (.agg #[.int .i64 0, .int .i64 0, .int .i64 0]) ∧ i.size = 3 ∧ i.bytes = 24 := by
  have hinfo : (Try.prog.info? 104).map (fun i => (i.zero, i.size, i.bytes)) = some (some (.agg #[.int .i64 0, .int .i64 0, .int .i64 0]), 3, 24) := by kernel_rfl
  obtain ⟨i, hi, hzz⟩ := Option.map_eq_some_iff.1 hinfo
  simp only [Prod.mk.injEq] at hzz
  exact ⟨i, hi, hzz⟩
theorem flat3_one : ∀ (ps : List Rk), ∀ v ∈ flat3 ps, v.oneCell' = true
  | [], v, h => by simp [flat3] at h
  | p :: ps, v, h => by
    simp only [flat3, List.mem_cons] at h
    rcases h with rfl | rfl | rfl | h
    · rfl
    · rfl
    · rfl
    · exact flat3_one ps v h
section
variable {P : Program}
theorem run_copy3 (w : World) (dT sT ty elem : TypeId) (g o dLen dCap : Nat) (a : Addr) (sLen sCap : Nat) (cur : List Value) (t : TypeId) (cs : List Value)
    (hu : P.underlying dT = some (.slice elem)) (hs : (P.info? elem).map (·.size) = some 3)
    (hg : w.heap[g]? = some (.cells cur.toArray t (0, 0))) (hn : cs.length = Nat.min sLen dLen * 3)
    (hsrc : ∀ j v, cs[j]? = some v → w.cell? (a.add j) = some v) (hfit : o + cs.length ≤ cur.length) (h1 : ∀ v ∈ cs, v.oneCell' = true) :
    (Builtin.copy_ #[dT, sT] ty #[.slice (some ⟨g, o, none⟩) dLen dCap, .slice (some a) sLen sCap]).run P w =
      .ok (goInt (Nat.min sLen dLen : Nat)) (w.setRow g (splice cur o cs).toArray) := by
  have hl := run_loadCells_list (P := P) w a cs hsrc
  have hst := run_storeCells_at P g o t cs 0 cur.toArray w hg (by simpa using hfit) h1
  cases hq : P.info? elem with
  | none => simp [hq] at hs
  | some i =>
    have hi : i.size = 3 := by simpa [hq] using hs
    have hst' : (storeCells ⟨g, o, none⟩ cs).run P w = .ok () (w.setRow g (splice cur o cs).toArray) := by
      have e : (splice cur o cs).toArray = (cur.toArray.toList.take (o + 0) ++ cs ++ cur.toArray.toList.drop (o + 0 + cs.length)).toArray := by simp [splice]
      rw [e]
      exact hst
    simp [Builtin.copy_, run_underlying hu, Builtin.lenOf, Builtin.firstCells, sizeOf, typeInfo, hq, hi, ← hn, hl, hst']
theorem wpList_copy3 {w : World} {ops : Array Oper} {rest : List Oper} {o : Oper} {a : Act} {Q : Exit → Act → World → Prop} (hgd : o.guard = none) (d s : Operand) (dT sT : TypeId)
    (ho : o.op = .call { callee := .builtin .copy, args := #[d, s], argTypes := #[dT, sT] }) (elem : TypeId) (hu : P.underlying dT = some (.slice elem)) (hsz : (P.info? elem).map (·.size) = some 3)
    (g off dLen dCap : Nat) (ad : Addr) (sLen sCap : Nat) (hd : a.eval d = .slice (some ⟨g, off, none⟩) dLen dCap) (hs : a.eval s = .slice (some ad) sLen sCap)
    (cur : List Value) (t : TypeId) (hg : w.heap[g]? = some (.cells cur.toArray t (0, 0))) (cs : List Value) (hn : cs.length = Nat.min sLen dLen * 3)
    (hsrc : ∀ j v, cs[j]? = some v → w.cell? (ad.add j) = some v) (hfit : off + cs.length ≤ cur.length) (h1 : ∀ v ∈ cs, v.oneCell' = true) (B : Nat) (w0 : World) (hb : Below B w0 w) (hBg : B ≤ g)
    (h : ∀ n w', Hid (w'.heap[g]? = some (.cells (splice cur off cs).toArray t (0, 0))) → Hid (∀ k, k ≠ g → w'.heap[k]? = w.heap[k]?) → Hid (Below B w0 w') → wpList P ops Q rest (a.put o.dst (goInt n)) w') : wpList P ops Q (o :: rest) a w := by
  refine wpList_plain hgd fun K hK => ?_
  have hrun := run_copy3 (P := P) w dT sT o.type elem g off dLen dCap ad sLen sCap cur t cs hu hsz hg hn hsrc hfit h1
  unfold Oper.wp
  simp only [execOp, ho, resolve, invoke, builtin, Sem.run_bind, Sem.run_pure, Result.andThen_ok, List.map_toArray, List.map_cons, List.map_nil, hd, hs, hrun]
  exact hK _ _ (h _ _ (setRow_heap w g _ _ t _ hg) (fun k hk => setRow_other w g k _ hk) (below_setRow hb hBg _))
theorem step_copy3 {w : World} {ops : Array Oper} {o : Oper} {a : Act} {K : Act → World → Prop} {Q : Exit → Act → World → Prop} {E : Prop} (hgd : o.guard = none) (d s : Operand) (dT sT : TypeId)
    (ho : o.op = .call { callee := .builtin .copy, args := #[d, s], argTypes := #[dT, sT] }) (elem : TypeId) (hu : P.underlying dT = some (.slice elem)) (hsz : (P.info? elem).map (·.size) = some 3)
    (g off dLen dCap : Nat) (ad : Addr) (sLen sCap : Nat) (hd : a.eval d = .slice (some ⟨g, off, none⟩) dLen dCap) (hs : a.eval s = .slice (some ad) sLen sCap)
    (cur : List Value) (t : TypeId) (hg : w.heap[g]? = some (.cells cur.toArray t (0, 0))) (cs : List Value) (hn : cs.length = Nat.min sLen dLen * 3)
    (hsrc : ∀ j v, cs[j]? = some v → w.cell? (ad.add j) = some v) (hfit : off + cs.length ≤ cur.length) (h1 : ∀ v ∈ cs, v.oneCell' = true) (B : Nat) (w0 : World) (hb : Below B w0 w) (hBg : B ≤ g)
    (h : ∀ n w', Hid (w'.heap[g]? = some (.cells (splice cur off cs).toArray t (0, 0))) → Hid (∀ k, k ≠ g → w'.heap[k]? = w.heap[k]?) → Hid (Below B w0 w') → K (a.put o.dst (goInt n)) w') :
    if Region.wanted o (yielded ops a.tmps) = true then Oper.wp P o a w K Q else E := by
  have hw : Region.wanted o (yielded ops a.tmps) = true := by simp [Region.wanted, hgd]
  rw [if_pos hw]
  have hrun := run_copy3 (P := P) w dT sT o.type elem g off dLen dCap ad sLen sCap cur t cs hu hsz hg hn hsrc hfit h1
  unfold Oper.wp
  simp only [execOp, ho, resolve, invoke, builtin, Sem.run_bind, Sem.run_pure, Result.andThen_ok, List.map_toArray, List.map_cons, List.map_nil, hd, hs, hrun]
  exact h _ _ (setRow_heap w g _ _ t _ hg) (fun k hk => setRow_other w g k _ hk) (below_setRow hb hBg _)
end
/-- Slice v of such structs, in blocks from base on, is the call's own; it holds ps. -/
def Own3 (w : World) (base : Nat) (v : Value) (ps : List Rk) : Prop := w.ownsRow base 104 3 v ps.length (flat3 ps)
section
variable {w w' : World} {base : Nat} {v : Value} {ps : List Rk}
theorem Own3.none_ : Own3 w base (.slice none 0 0) [] := ⟨rfl, .inl ⟨rfl, rfl⟩⟩
theorem Own3.block (h : Own3 w base v ps) : ∀ k, v.ownBlock = some k → base ≤ k := by
  intro k hk
  rcases h.2 with ⟨rfl, _⟩ | ⟨g, cap, cur, rfl, hg, _⟩
  · simp [Value.ownBlock] at hk
  · simp [Value.ownBlock] at hk; omega
theorem Own3.below {B : Nat} (h : Own3 w base v ps) (hb : Below B w w') (hB : w.heap.size ≤ B) : Own3 w' base v ps := by
  obtain ⟨h1, h2⟩ := h
  refine ⟨h1, ?_⟩
  rcases h2 with h2 | ⟨g, cap, cur, hv, hg, hh, r⟩
  · exact Or.inl h2
  · have hlt : g < w.heap.size := by
      rcases Nat.lt_or_ge g w.heap.size with hlt | hge
      · exact hlt
      · rw [Array.getElem?_eq_none hge] at hh; cases hh
    exact Or.inr ⟨g, cap, cur, hv, hg, by rw [hb.block g (by omega)]; exact hh, r⟩
theorem Own3.alloc (h : Own3 w base v ps) (o : Obj) : Own3 (w.alloc o) base v ps := World.ownsRow.alloc h o
theorem Own3.drew (h : Own3 w base v ps) : Own3 w.drew base v ps := h
theorem Own3.drewN (h : Own3 w base v ps) (n : Nat) : Own3 (w.drewN n) base v ps := h
theorem Own3.rebase {b : Nat} (h : Own3 w base v ps) (hb : b ≤ base) : Own3 w b v ps := by
  obtain ⟨h1, h2⟩ := h
  refine ⟨h1, ?_⟩
  rcases h2 with h2 | ⟨g, cap, cur, hv, hg, r⟩
  · exact .inl h2
  · exact .inr ⟨g, cap, cur, hv, by omega, r⟩
theorem Own3.seg (h : Own3 w base v ps) : ∃ A c, v = .slice A ps.length c ∧ ps.length ≤ c ∧ Seg w w.heap.size A (flat3 ps) := by
  rcases h.2 with ⟨rfl, h0⟩ | ⟨g, cap, cur, rfl, _, hh, hn, _⟩
  · have : ps = [] := List.eq_nil_of_length_eq_zero h0
    subst this
    exact ⟨none, 0, rfl, Nat.le_refl _, Seg.nil⟩
  · refine ⟨_, _, rfl, hn, fun hl => ⟨_, rfl, ?_, World.ownsRow.cells h (g := g) rfl⟩⟩
    rcases Nat.lt_or_ge g w.heap.size with hlt | hge
    · exact hlt
    · rw [Array.getElem?_eq_none hge] at hh; cases hh
/-- Known whole. -/
theorem Own3.open_ (h : Own3 w base v ps) : (v = .slice none 0 0 ∧ ps = []) ∨ ∃ g cap cur, v = .slice (some ⟨g, 0, none⟩) ps.length cap ∧ base ≤ g ∧ w.heap[g]? = some (.cells (flat3 ps ++ cur).toArray 104 (0, 0)) ∧ ps.length ≤ cap ∧ cap ≤ maxLen ∧ (flat3 ps ++ cur).length = cap * 3 := by
  rcases h.2 with ⟨rfl, h0⟩ | ⟨g, cap, cur, rfl, hg, hh, hn, hm, hs, ht⟩
  · exact .inl ⟨rfl, List.eq_nil_of_length_eq_zero h0⟩
  · refine .inr ⟨g, cap, cur.toList.drop (ps.length * 3), rfl, hg, ?_, hn, hm, ?_⟩
    · rw [← ht, List.take_append_drop]; exact hh
    · rw [← ht, List.take_append_drop, Array.length_toList, hs]
theorem Own3.mk_ {g cap : Nat} {cur : List Value} (hg : base ≤ g) (hh : w.heap[g]? = some (.cells cur.toArray 104 (0, 0))) (hn : ps.length ≤ cap) (hm : cap ≤ maxLen) (hs : cur.length = cap * 3) (ht : cur.take (ps.length * 3) = flat3 ps) :
    Own3 w base (.slice (some ⟨g, 0, none⟩) ps.length cap) ps :=
  ⟨flat3_len ps, .inr ⟨g, cap, cur.toArray, rfl, hg, hh, hn, hm, by simpa using hs, by simpa using ht⟩⟩
end
theorem wpList_push3 (w : World) {ops : Array Oper} {rest : List Oper} {o : Oper} {a : Act} {Q : Exit → Act → World → Prop} (hgd : o.guard = none) (s x : Operand)
    (ho : o.op = .call { callee := .builtin .append, args := #[s, x], argTypes := #[96, 96] })
    (base : Nat) (v : Value) (ps qs : List Rk) (hs : a.eval s = v) (hown : Own3 w base v ps) (ad : Addr) (c : Nat) (hx : a.eval x = .slice (some ad) qs.length c)
    (hc : ∀ j u, (flat3 qs)[j]? = some u → w.cell? (ad.add j) = some u) (hn : ps.length + qs.length ≤ 1000) (hbase : base ≤ w.heap.size)
    (h : ∀ v' w', Own3 w' base v' (ps ++ qs) → w.grownBy w' v.ownBlock → wpList Try.prog ops Q rest (a.put o.dst v') w') : wpList Try.prog ops Q (o :: rest) a w := by
  obtain ⟨i, hi, hz, hsz, hby⟩ := rk_info
  exact wpList_append_own w hgd s x _ ho base _ i _ 3 24 Try.underlying96 hi hz hsz hby rfl (by decide) v ps.length (flat3 ps) hs hown ad qs.length c _ hx (flat3_len qs) hc (flat3_one qs) (by unfold maxLen; omega) (by omega) hbase fun v' w' h1 h2 _ => h v' w' (by
    unfold Own3
    rw [flat3_app, List.length_append]
    exact h1) h2
end Go.Proofs.Ytaehehoeidnidaa
