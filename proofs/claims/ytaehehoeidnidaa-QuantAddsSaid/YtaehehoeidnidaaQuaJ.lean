/- slices.Insert at a slice of structs of three numbers that the call owns: where there is no room; and all its ways in one. No condition but the length. -/
import Derived.Test.YtaehehoeidnidaaQuaI
import Derived.Deep.DeepCutAuto
namespace Go.Proofs.Ytaehehoeidnidaa
open Go.ChangeShapes Go.WideShapes Go.ChangeAt Go.RowKit
set_option linter.unusedVariables false

theorem splice_app {α : Type} (A B cs : List α) (off : Nat) (h : off = A.length) : splice (A ++ B) off cs = (A ++ cs) ++ B.drop cs.length := by
  subst h
  unfold splice
  rw [List.take_left, ← List.drop_drop, List.drop_left, List.append_assoc]
theorem wpList_mk3 (w : World) {ops : Array Oper} {rest : List Oper} {o : Oper} {a : Act} {Q : Exit → Act → World → Prop} (hgd : o.guard = none) (s x : Operand)
    (ho : o.op = .call { callee := .builtin .append, args := #[s, x], argTypes := #[96, 3] })
    (g i cap k N : Nat) (hN : i + k = N) (hs : a.eval s = .slice (some ⟨g, 0, none⟩) i cap) (hx : a.eval x = .int .i64 ((k : Nat) : Int)) (hk : 0 < k) (hc : cap < i + k) (hb : i + k ≤ 1000)
    (ps : List Rk) (hp : ps.length = i) (hcell : ∀ j v, (flat3 ps)[j]? = some v → w.cell? ((⟨g, 0, none⟩ : Addr).add j) = some v)
    (h : ∀ G gn X w', Hid (w'.heap[gn]? = some (.cells (flat3 ps ++ X).toArray 104 (0, 0))) → Hid (X.length = (G - i) * 3) → Hid (N ≤ G ∧ G ≤ maxLen) → Hid (gn = w.heap.size) → Hid (Below w.heap.size w w') → wpList Try.prog ops Q rest (a.put o.dst (.slice (some ⟨gn, 0, none⟩) N G)) w') : wpList Try.prog ops Q (o :: rest) a w := by
  subst hN
  obtain ⟨i0, hi0, hz0, hzs, hzb⟩ := rk_info
  have hold : (Builtin.firstCells i0.size i (.slice (some ⟨g, 0, none⟩) i cap)).run Try.prog w.drew = .ok (flat3 ps).toArray w.drew := by
    rw [hzs]
    exact run_firstCells_some w.drew 3 i ⟨g, 0, none⟩ i cap (flat3 ps) (by rw [flat3_len, hp]) hcell
  obtain ⟨z, hz, hzc⟩ : ∃ z, i0.zero = some z ∧ z.cells.size = 3 := ⟨_, hz0, rfl⟩
  have hr := Lib.run_append_grow_zeros w 96 3 o.type 104 i0 z .i64 .i64 Try.underlying96 Try.underlying3 hi0 hz (some ⟨g, 0, none⟩) i cap (flat3 ps) hold k hk (by omega) hc (by omega) (by rw [hzb]; omega) (by rw [hzb]; exact growslice_fits hc (by omega))
  have hG := grownCap_ge w (i + k) cap 104
  have hG2 := grownCap_le_maxLen w (i + k) cap 104 (by unfold maxLen; omega)
  obtain ⟨G, hGG⟩ : ∃ G, G = grownCap w (i + k) cap 104 := ⟨_, rfl⟩
  rw [← hGG] at hr hG hG2
  obtain ⟨X, hX⟩ : ∃ X : List Value, X = (Builtin.zeroCells z.cells k).toList ++ (Builtin.zeroCells z.cells (G - (i + k))).toList := ⟨_, rfl⟩
  have hrow : (flat3 ps).toArray ++ Builtin.zeroCells z.cells k ++ Builtin.zeroCells z.cells (G - (i + k)) = (flat3 ps ++ X).toArray := by
    apply Array.ext'
    rw [hX]
    simp
  rw [hrow] at hr
  refine Lib.wpList_append_run w hgd s x _ _ ho _ _ hs hx _ _ hr ?_
  refine h G w.heap.size X _ (heap_alloc_new w.drew _) ?_ ⟨hG, hG2⟩ rfl (((Below.refl _ _).drew).alloc (Nat.le_refl _) _)
  unfold Hid
  rw [hX, List.length_append, Array.length_toList, Array.length_toList, size_zeroCells, size_zeroCells, hzc]
  omega
theorem mk3_facts {i n G : Nat} (h : i < n) (h2 : n + 1 ≤ G) : ¬ (G = i) ∧ ¬ (G = i + 1) ∧ (i : Int) ≤ (n : Int) + 1 := by omega
set_option maxRecDepth 20000 in
set_option maxHeartbeats 2000000 in
theorem ins_grow (g cap i : Nat) (ps : List Rk) (X : List Value) (r : Rk) (vb : Nat) (w : World) (base : Nat) (hbg : base ≤ g) (hg : w.heap[g]? = some (.cells (flat3 ps ++ X).toArray 104 (0, 0))) (hX : (flat3 ps ++ X).length = cap * 3) (hi : i < ps.length) (hc : cap = ps.length)
    (hn : ps.length ≤ 399) (hb : Blk w vb 104 (rkc r)) (hbase : base ≤ w.heap.size) :
    Calls Try.prog 144 #[.slice (some ⟨g, 0, none⟩) ps.length cap, .int .i64 i, .slice (some ⟨vb, 0, none⟩) 1 1] w (InsOut base (ps.take i ++ r :: ps.drop i) w) := by
  subst hc
  have HG := Lib.hid hg
  have HB := Lib.hid hb
  have hlt : g < w.heap.size := Blk.lt (cs := (flat3 ps ++ X).toArray) hg
  have hvlt := hb.lt
  have hz2 : ¬ ((i : Int) = (ps.length : Int)) := by omega
  have hw1 : IntKind.i64.wrap ((i : Int) + 1) = (i : Int) + 1 := by rw [IntKind.wrap_i64]; omega
  have hb1 : (0 : Int) ≤ (i : Int) + 1 := by omega
  have hin : i ≤ ps.length := by omega
  have htn : ((i : Int) + 1).toNat = i + 1 := by omega
  have hb4 : ¬ (ps.length = i) := by omega
  have hkk : (ps.length : Int) + 1 - (i : Int) = ((ps.length + 1 - i : Nat) : Int) := by omega
  have HC : Hid (∀ j v, (flat3 (ps.take i))[j]? = some v → w.cell? ((⟨g, 0, none⟩ : Addr).add j) = some v) := fun j v h => by
    have e0 : flat3 ps = flat3 (ps.take i) ++ flat3 (ps.drop i) := by rw [← flat3_app, List.take_append_drop]
    have hj : j < (flat3 (ps.take i)).length := (List.getElem?_eq_some_iff.1 h).1
    rw [Addr.add_lit, Nat.zero_add, cell_of_row w g j _ _ (0, 0) hg, List.getElem?_toArray, e0, List.append_assoc, List.getElem?_append_left hj]
    exact h
  have HL : Hid ((ps.take i).length = i) := by unfold Hid; rw [List.length_take]; omega
  have HK : Hid (0 < ps.length + 1 - i ∧ ps.length < i + (ps.length + 1 - i) ∧ i + (ps.length + 1 - i) ≤ 1000) := by unfold Hid; omega
  clear hg hX hb
  go_enter Try.func144, Try.ntmps144
  have HE : Hid (i + (ps.length + 1 - i) = ps.length + 1) := by unfold Hid; omega
  go_upto_region 10 with (at_builtin; refine wpList_mk3 _ rfl (.tmp 34) (.tmp 39) rfl g i ps.length (ps.length + 1 - i) (ps.length + 1) HE.out rfl rfl HK.out.1 HK.out.2.1 HK.out.2.2 (ps.take i) HL.out HC.out ?_; intro G gn Y w1 hy1 hy2 hy3 hy4 hy5; obtain ⟨q1, q2, q3⟩ := mk3_facts hi hy3.out.1)
  have HZ : Hid (g ≠ gn ∧ vb ≠ gn) := by have := hy4.out; unfold Hid; omega
  have HB1 : Hid (Blk w1 vb 104 (rkc r)) := HB.out.below hy5.out hvlt
  have HG1 : Hid (w1.heap[g]? = some (.cells (flat3 ps ++ X).toArray 104 (0, 0))) := (hy5.out.block g hlt).trans HG.out
  have HLt : Hid ((flat3 (ps.take i)).length = i * 3) := by unfold Hid; rw [flat3_len, HL.out]
  have HY : Hid (Y.length = (G - i) * 3) := hy2
  have HBn : base ≤ gn := by have := hy4.out; omega
  have HC1 : Hid ((flat3 [r]).length = Nat.min 1 (ps.length + 1 - i) * 3) := by
    unfold Hid; show 3 = _; simp only [Nat.min_def]; split <;> omega
  have HF1 : Hid (i * 3 + (flat3 [r]).length ≤ (flat3 (ps.take i) ++ Y).length) := by
    unfold Hid; rw [List.length_append, HLt.out, HY.out]; have := hy3.out.1; show i * 3 + 3 ≤ _; omega
  have HU1 : Hid (splice (flat3 (ps.take i) ++ Y) (i * 3) (flat3 [r]) = flat3 (ps.take i ++ [r]) ++ Y.drop 3) := by
    unfold Hid; rw [splice_app _ _ _ _ HLt.out.symm, flat3_app]; rfl
  have HL2 : Hid ((flat3 (ps.take i ++ [r])).length = (i + 1) * 3) := by unfold Hid; rw [flat3_len, List.length_append, HL.out]; rfl
  have HC2 : Hid ((flat3 (ps.drop i)).length = Nat.min (ps.length - i) (ps.length - i) * 3) := by unfold Hid; rw [flat3_len, List.length_drop]; exact congrArg (· * 3) (Nat.min_self _).symm
  have HF2 : Hid ((i + 1) * 3 + (flat3 (ps.drop i)).length ≤ (flat3 (ps.take i ++ [r]) ++ Y.drop 3).length) := by
    unfold Hid; rw [List.length_append, HL2.out, List.length_drop, HY.out, flat3_len, List.length_drop]; have := hy3.out.1; omega
  have HU2 : Hid (splice (flat3 (ps.take i ++ [r]) ++ Y.drop 3) ((i + 1) * 3) (flat3 (ps.drop i)) = flat3 (ps.take i ++ r :: ps.drop i) ++ (Y.drop 3).drop ((ps.length - i) * 3)) := by
    unfold Hid; rw [splice_app _ _ _ _ HL2.out.symm, flat3_len, List.length_drop, ← flat3_app, List.append_assoc]; rfl
  have HB0 : Hid (Below base w w1) := hy5.out.mono hbase
  go_wp2_with (refine wpList_copy3 rfl (.tmp 43) (.tmp 44) 96 96 rfl 104 Try.underlying96 rk_size gn (i * 3) (ps.length + 1 - i) (G - i) ⟨vb, 0, none⟩ 1 1 rfl rfl (flat3 (ps.take i) ++ Y) 104 hy1.out (flat3 [r]) HC1.out (rk_new HB1.out) HF1.out (flat3_one _) base w HB0.out HBn ?_; intro n2 w2 ha2 hb2 hc2)
  rw [HU1.out] at ha2
  have HG2 : Hid (w2.heap[g]? = some (.cells (flat3 ps ++ X).toArray 104 (0, 0))) := (hb2.out g HZ.out.1).trans HG1.out
  go_region_law (refine step_copy3 rfl (.tmp 50) (.tmp 53) 96 96 rfl 104 Try.underlying96 rk_size gn ((i + 1) * 3) (ps.length - i) (G - (i + 1)) ⟨g, i * 3, none⟩ (ps.length - i) (ps.length - i) (by simp [Act.eval, Act.put]) (by simp [Act.eval, Act.put]) (flat3 (ps.take i ++ [r]) ++ Y.drop 3) 104 ha2.out (flat3 (ps.drop i)) HC2.out (row_drop HG2.out hin) HF2.out (flat3_one _) base w hc2.out.drew HBn ?_; intro n1 w3 ha3 hb3 hc3)
  go_wp2_with fail
  go_ret
  have hT : (ps.take i ++ r :: ps.drop i).length = ps.length + 1 := by rw [List.length_append, List.length_cons, List.length_take, List.length_drop]; omega
  refine ⟨_, rfl, ?_, hc3.out⟩
  have ha4 := ha3.out
  rw [HU2.out] at ha4
  rw [← hT]
  refine Own3.mk_ HBn ha4 (by rw [hT]; exact hy3.out.1) hy3.out.2 ?_ (by rw [← flat3_len, List.take_left])
  rw [List.length_append, flat3_len, hT, List.length_drop, List.length_drop, HY.out]
  have := hy3.out.1
  omega
theorem insert_any (v : Value) (ps : List Rk) (i : Nat) (r : Rk) (vb : Nat) (w : World) (base : Nat) (hown : Own3 w base v ps) (hi : i ≤ ps.length) (hn : ps.length ≤ 399) (hb : Blk w vb 104 (rkc r)) (hne : v.ownBlock ≠ some vb) (hbase : base ≤ w.heap.size) :
    Calls Try.prog 144 #[v, .int .i64 i, .slice (some ⟨vb, 0, none⟩) 1 1] w (InsOut base (ps.take i ++ r :: ps.drop i) w) := by
  by_cases he : i = ps.length
  · subst he
    have h := ins_end v ps r vb w base hown hn hb hbase
    rw [List.take_length, List.drop_length]
    exact h
  · rcases hown.open_ with ⟨_, rfl⟩ | ⟨g, cap, X, rfl, hg, hh, hc, hm, hX⟩
    · simp at hi he; omega
    · have hvb : vb ≠ g := fun e => hne (by rw [e]; rfl)
      by_cases hr : ps.length + 1 ≤ cap
      · exact ins_room g cap i ps X r vb w base hg hh hX (by omega) hr (by unfold maxLen at hm; omega) hn hb hvb
      · exact ins_grow g cap i ps X r vb w base hg hh hX (by omega) (by omega) hn hb hbase
end Go.Proofs.Ytaehehoeidnidaa
