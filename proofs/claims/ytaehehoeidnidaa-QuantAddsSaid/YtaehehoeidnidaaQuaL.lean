/- slices.Clone and slices.Delete at slices of structs of three numbers. No condition but the length. -/
import Derived.Test.YtaehehoeidnidaaQuaJ
namespace Go.Proofs.Ytaehehoeidnidaa
open Go.ChangeShapes Go.WideShapes Go.ChangeAt Go.RowKit
set_option linter.unusedVariables false

set_option maxRecDepth 20000 in
set_option maxHeartbeats 2000000 in
theorem clone_none (c : Nat) (w : World) : Calls Try.prog 145 #[.slice none 0 c] w (InsOut w.heap.size [] w) := by
  have q22 : ∀ (w : World) (a : Option Addr) (n c n' c' : Nat), (binOp .eql 96 (.slice a n c) (.slice none n' c')).run Try.prog w = .ok (.bool a.isNone) w := fun w a n c n' c' => Lib.run_eql_slice_nil w _ _ a n c n' c' Try.underlying96
  go_enter Try.func145, Try.ntmps145
  go_wp2_with fail
  go_ret
  exact ⟨_, rfl, Own3.none_, Below.refl _ _⟩
set_option maxRecDepth 20000 in
set_option maxHeartbeats 2000000 in
theorem clone_some (ad : Addr) (ps : List Rk) (c : Nat) (w : World) (hs : Seg w w.heap.size (some ad) (flat3 ps)) (hl : ps.length ≤ 400) :
    Calls Try.prog 145 #[.slice (some ad) ps.length c] w (InsOut w.heap.size ps w) := by
  have q22 : ∀ (w : World) (a : Option Addr) (n c n' c' : Nat), (binOp .eql 96 (.slice a n c) (.slice none n' c')).run Try.prog w = .ok (.bool a.isNone) w := fun w a n c n' c' => Lib.run_eql_slice_nil w _ _ a n c n' c' Try.underlying96
  have HL : Hid (0 + ps.length ≤ 1000) := by unfold Hid; omega
  have HC : Hid (∀ j u, (flat3 ps)[j]? = some u → (w.alloc (.cells #[] 104)).cell? (ad.add j) = some u) := fun j u h => by
    obtain ⟨a2, e, _, hc⟩ := hs.get h
    injection e with e
    subst e
    exact (World.cell?_alloc_lt w _ _ (block_lt hc)).trans hc
  have HO : Hid (Own3 (w.alloc (.cells #[] 104)) w.heap.size (.slice (some ⟨w.heap.size, 0, none⟩) 0 0) []) :=
    Own3.mk_ (cur := []) (Nat.le_refl _) (heap_alloc_new w _) (Nat.le_refl _) (Nat.zero_le _) rfl rfl
  clear hs
  go_enter Try.func145, Try.ntmps145
  go_wp2_with (at_builtin; refine wpList_push3 _ rfl (.tmp 5) (.tmp 6) rfl w.heap.size _ [] ps rfl HO.out ad c rfl HC.out HL.out (by simp) ?_; intro v1 w1 ho1 hg1; have HO1 := Lib.hid ho1; have HG1 := Lib.hid hg1; clear ho1 hg1)
  go_ret
  exact ⟨_, rfl, HO1.out, (((Below.refl _ _).alloc (Nat.le_refl _) _).grown HG1.out (by simp) HO.out.block)⟩
theorem clone_any (A : Option Addr) (ps : List Rk) (c : Nat) (w : World) (hs : Seg w w.heap.size A (flat3 ps)) (hl : ps.length ≤ 400) :
    Calls Try.prog 145 #[.slice A ps.length c] w (InsOut w.heap.size ps w) := by
  cases A with
  | none =>
    cases ps with
    | nil => exact clone_none c w
    | cons p ps => obtain ⟨ad, h, _⟩ := hs (by simp [flat3]); cases h
  | some ad => exact clone_some ad ps c w hs hl
section
variable {P : Program}
theorem run_clear3 (w : World) (t elem ty : TypeId) (g o c : Nat) (cur : List Value) (te : TypeId) (hu : P.underlying t = some (.slice elem)) (z0 z1 z2 : Value)
    (hz : ∀ w, (zeroValue elem).run P w = .ok (.agg #[z0, z1, z2]) w) (h1 : z0.oneCell' = true ∧ z1.oneCell' = true ∧ z2.oneCell' = true)
    (hg : w.heap[g]? = some (.cells cur.toArray te (0, 0))) (hfit : o + 3 ≤ cur.length) :
    (Builtin.clear_ #[t] ty #[.slice (some ⟨g, o, none⟩) 1 c]).run P w = .ok (.tuple #[]) (w.setRow g (splice cur o [z0, z1, z2]).toArray) := by
  have hst := run_storeCells_at P g o te [z0, z1, z2] 0 cur.toArray w hg (by simpa using hfit) (by simpa using h1)
  have e : (splice cur o [z0, z1, z2]).toArray = (cur.toArray.toList.take (o + 0) ++ [z0, z1, z2] ++ cur.toArray.toList.drop (o + 0 + [z0, z1, z2].length)).toArray := by simp [splice]
  rw [← e] at hst
  have hzc : (Builtin.zeroCells (Value.agg #[z0, z1, z2]).cells 1).toList = [z0, z1, z2] := by simp [Builtin.zeroCells, Value.cells, List.range_succ]
  simp [Builtin.clear_, run_underlying hu, hz, hzc, hst]
theorem wpList_clear3 {w : World} {ops : Array Oper} {rest : List Oper} {o : Oper} {a : Act} {Q : Exit → Act → World → Prop} (hgd : o.guard = none) (s : Operand) (t elem : TypeId)
    (ho : o.op = .call { callee := .builtin .clear, args := #[s], argTypes := #[t] }) (hu : P.underlying t = some (.slice elem)) (z0 z1 z2 : Value)
    (hz : ∀ w, (zeroValue elem).run P w = .ok (.agg #[z0, z1, z2]) w) (h1 : z0.oneCell' = true ∧ z1.oneCell' = true ∧ z2.oneCell' = true)
    (g off c : Nat) (hs : a.eval s = .slice (some ⟨g, off, none⟩) 1 c) (cur : List Value) (te : TypeId) (hg : w.heap[g]? = some (.cells cur.toArray te (0, 0))) (hfit : off + 3 ≤ cur.length) (B : Nat) (w0 : World) (hb : Below B w0 w) (hBg : B ≤ g)
    (h : ∀ w', Hid (w'.heap[g]? = some (.cells (splice cur off [z0, z1, z2]).toArray te (0, 0))) → Hid (Below B w0 w') → wpList P ops Q rest (a.put o.dst (.tuple #[])) w') : wpList P ops Q (o :: rest) a w := by
  refine wpList_plain hgd fun K hK => ?_
  have hrun := run_clear3 (P := P) w t elem o.type g off c cur te hu z0 z1 z2 hz h1 hg hfit
  unfold Oper.wp
  simp only [execOp, ho, resolve, invoke, builtin, Sem.run_bind, Sem.run_pure, Result.andThen_ok, List.map_toArray, List.map_cons, List.map_nil, hs, hrun]
  exact hK _ _ (h _ (setRow_heap w g _ _ te _ hg) (below_setRow hb hBg _))
theorem step_room3 {w : World} {ops : Array Oper} {o : Oper} {a : Act} {K : Act → World → Prop} {Q : Exit → Act → World → Prop} {E : Prop} (hgd : o.guard = none) (s x : Operand) (t : TypeId)
    (ho : o.op = .call { callee := .builtin .append, args := #[s, x], argTypes := #[t, t] }) (e : TypeId) (hu : P.underlying t = some (.slice e)) (hsz : (P.info? e).map (·.size) = some 3)
    (g n cap : Nat) (ad : Addr) (m c N : Nat) (hN : n + m = N) (hs : a.eval s = .slice (some ⟨g, 0, none⟩) n cap) (hx : a.eval x = .slice (some ad) m c)
    (cur : List Value) (hg : w.heap[g]? = some (.cells cur.toArray e (0, 0))) (cs : List Value) (hl : cs.length = m * 3) (hsrc : ∀ j v, cs[j]? = some v → w.cell? (ad.add j) = some v) (h1 : ∀ v ∈ cs, v.oneCell' = true)
    (hroom : n + m ≤ cap) (hfit : n * 3 + cs.length ≤ cur.length) (B : Nat) (w0 : World) (hb : Below B w0 w) (hBg : B ≤ g)
    (h : ∀ w', Hid (w'.heap[g]? = some (.cells (splice cur (n * 3) cs).toArray e (0, 0))) → Hid (Below B w0 w') → K (a.put o.dst (.slice (some ⟨g, 0, none⟩) N cap)) w') :
    if Region.wanted o (yielded ops a.tmps) = true then Oper.wp P o a w K Q else E := by
  subst hN
  have hw : Region.wanted o (yielded ops a.tmps) = true := by simp [Region.wanted, hgd]
  rw [if_pos hw]
  cases hq : P.info? e with
  | none => rw [hq] at hsz; cases hsz
  | some i =>
    rw [hq] at hsz
    have hi : i.size = 3 := by simpa using hsz
    have hrun := run_append_room (P := P) w t o.type e i hu hq g n cap cur.toArray hg ad m c cs (by rw [hi]; exact hl) hsrc h1 hroom (by rw [hi]; simpa using hfit)
    have e1 : (cur.toArray.toList.take (n * i.size) ++ cs ++ cur.toArray.toList.drop (n * i.size + cs.length)).toArray = (splice cur (n * 3) cs).toArray := by rw [hi]; simp [splice]
    rw [e1] at hrun
    unfold Oper.wp
    simp only [execOp, ho, resolve, invoke, builtin, Sem.run_bind, Sem.run_pure, Result.andThen_ok, List.map_toArray, List.map_cons, List.map_nil, hs, hx, hrun]
    exact h _ (setRow_heap w g _ _ e _ hg) (below_setRow hb hBg _)
end
/-- One less. -/
theorem splice_del (ps : List Rk) (X z : List Value) (k cap : Nat) (hk : k + 1 < ps.length) (hX : (flat3 ps ++ X).length = cap * 3) (hz : z.length = 3) :
    (splice (splice (flat3 ps ++ X) (k * 3) (flat3 (ps.drop (k + 1)))) ((ps.length - 1) * 3) z).length = cap * 3 ∧
    (splice (splice (flat3 ps ++ X) (k * 3) (flat3 (ps.drop (k + 1)))) ((ps.length - 1) * 3) z).take ((ps.take k ++ ps.drop (k + 1)).length * 3) = flat3 (ps.take k ++ ps.drop (k + 1)) := by
  have hl1 : (flat3 (ps.drop (k + 1))).length = (ps.length - (k + 1)) * 3 := by rw [flat3_len, List.length_drop]
  have hl2 : (flat3 (ps.take k)).length = k * 3 := by rw [flat3_len, List.length_take]; omega
  have hl0 : (flat3 ps).length = ps.length * 3 := flat3_len ps
  have hl3 : (flat3 (ps.drop k)).length = (ps.length - k) * 3 := by rw [flat3_len, List.length_drop]
  have e0 : flat3 ps = flat3 (ps.take k) ++ flat3 (ps.drop k) := by rw [← flat3_app, List.take_append_drop]
  have hT : (ps.take k ++ ps.drop (k + 1)).length = ps.length - 1 := by rw [List.length_append, List.length_take, List.length_drop]; omega
  have hX' := hX
  rw [List.length_append, hl0] at hX'
  have e1 : splice (flat3 ps ++ X) (k * 3) (flat3 (ps.drop (k + 1))) = flat3 (ps.take k ++ ps.drop (k + 1)) ++ (flat3 (ps.drop k) ++ X).drop ((ps.length - (k + 1)) * 3) := by
    rw [e0, List.append_assoc, splice_app _ _ _ _ hl2.symm, hl1, flat3_app]
  have hl4 : (flat3 (ps.take k ++ ps.drop (k + 1))).length = (ps.length - 1) * 3 := by rw [flat3_len, hT]
  rw [e1, splice_app _ _ _ _ hl4.symm, hT]
  refine ⟨?_, by rw [← hl4, List.append_assoc, List.take_left]⟩
  rw [List.length_append, List.length_append, List.length_drop, List.length_drop, List.length_append, hl4, hz, hl3]
  omega
set_option maxRecDepth 20000 in
set_option maxHeartbeats 2000000 in
theorem delete_at (g cap k : Nat) (ps : List Rk) (X : List Value) (w : World) (base : Nat) (hbg : base ≤ g) (hg : w.heap[g]? = some (.cells (flat3 ps ++ X).toArray 104 (0, 0))) (hX : (flat3 ps ++ X).length = cap * 3) (hk : k + 1 < ps.length) (hc : ps.length ≤ cap) (hm : cap ≤ 9223372036854775807) :
    Calls Try.prog 171 #[.slice (some ⟨g, 0, none⟩) ps.length cap, .int .i64 k, .int .i64 ((k : Int) + 1)] w (InsOut base (ps.take k ++ ps.drop (k + 1)) w) := by
  have HG := Lib.hid hg
  have HX := Lib.hid hX
  have hz2 : ¬ ((k : Int) = (k : Int) + 1) := by omega
  have hin : k + 1 ≤ ps.length := by omega
  have htn : ((k : Int) + 1).toNat = k + 1 := by omega
  have hb2 : ¬ (cap = k + 1) := by omega
  have hb4 : ¬ (cap = k) := by omega
  have HN : Hid (k + (ps.length - (k + 1)) = ps.length - 1) := by unfold Hid; omega
  have HL1 : Hid ((flat3 (ps.drop (k + 1))).length = (ps.length - (k + 1)) * 3) := by unfold Hid; rw [flat3_len, List.length_drop]
  have HR : Hid (k + (ps.length - (k + 1)) ≤ cap) := by unfold Hid; omega
  have HF1 : Hid (k * 3 + (flat3 (ps.drop (k + 1))).length ≤ (flat3 ps ++ X).length) := by unfold Hid; rw [hX, HL1.out]; omega
  have HF2 : Hid ((ps.length - 1) * 3 + 3 ≤ (splice (flat3 ps ++ X) (k * 3) (flat3 (ps.drop (k + 1)))).length) := by unfold Hid; rw [length_splice _ _ _ HF1.out, hX]; omega
  have hkc : k ≤ cap := by omega
  have hk1 : (k : Int) + 1 ≤ (ps.length : Int) := by omega
  have hk0 : (0 : Int) ≤ (k : Int) + 1 := by omega
  have hcn : ((ps.length - 1 : Nat) : Int) = (ps.length : Int) - 1 := by omega
  clear hg hX
  go_enter Try.func171, Try.ntmps171
  go_wp2_with fail
  go_region_law (refine step_room3 rfl (.tmp 22) (.tmp 25) 96 rfl 104 Try.underlying96 rk_size g k cap ⟨g, (k + 1) * 3, none⟩ (ps.length - (k + 1)) (cap - (k + 1)) (ps.length - 1) HN.out (by simp [Act.eval, Act.put]) (by simp [Act.eval, Act.put]) (flat3 ps ++ X) HG.out (flat3 (ps.drop (k + 1))) HL1.out (row_drop HG.out hin) (flat3_one _) HR.out HF1.out base w (Below.refl _ _).drew hbg ?_; intro w1 ha1 hc1)
  clear hcn
  have h7 : ((ps.length - 1 : Nat) : Int) ≤ (ps.length : Int) := by omega
  have h8 : ps.length - (ps.length - 1) = 1 := by omega
  have h9 : ¬ (cap = ps.length - 1) := by omega
  go_wp2_with (refine wpList_clear3 rfl (.tmp 31) 96 104 rfl Try.underlying96 (.int .i64 0) (.int .i64 0) (.int .i64 0) (fun _ => by kernel_rfl) ⟨rfl, rfl, rfl⟩ g ((ps.length - 1) * 3) (cap - (ps.length - 1)) rfl (splice (flat3 ps ++ X) (k * 3) (flat3 (ps.drop (k + 1)))) 104 ha1.out HF2.out base w hc1.out hbg ?_; intro w2 ha2 hc2)
  go_ret
  have hs := splice_del ps X [.int .i64 0, .int .i64 0, .int .i64 0] k cap hk HX.out rfl
  have hT : (ps.take k ++ ps.drop (k + 1)).length = ps.length - 1 := by rw [List.length_append, List.length_take, List.length_drop]; omega
  refine ⟨_, rfl, ?_, hc2.out⟩
  rw [← hT]
  exact Own3.mk_ hbg ha2.out (by rw [hT]; omega) (by unfold maxLen; omega) hs.1 hs.2
theorem delete_any (v : Value) (ps : List Rk) (k : Nat) (w : World) (base : Nat) (hown : Own3 w base v ps) (hk : k + 1 < ps.length) :
    Calls Try.prog 171 #[v, .int .i64 k, .int .i64 ((k : Int) + 1)] w (InsOut base (ps.take k ++ ps.drop (k + 1)) w) := by
  rcases hown.open_ with ⟨_, rfl⟩ | ⟨g, cap, X, rfl, hg, hh, hc, hm, hX⟩
  · simp at hk
  · exact delete_at g cap k ps X w base hg hh hX hk hc (by unfold maxLen at hm; omega)
end Go.Proofs.Ytaehehoeidnidaa
