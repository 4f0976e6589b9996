/- slices.Insert at a slice of structs of three numbers that the call owns. No condition but the length. -/
import Derived.Test.YtaehehoeidnidaaQuaK
import Derived.Laws.NewBlocks
namespace Go.Proofs.Ytaehehoeidnidaa
open Go.ChangeShapes Go.WideShapes Go.ChangeAt Go.RowKit
set_option linter.unusedVariables false

/-- What Insert leaves. -/
def InsOut (base : Nat) (ps : List Rk) (w : World) (e : Ending) (w' : World) : Prop := ∃ v', e = .returned v' ∧ Own3 w' base v' ps ∧ Below base w w'
def rkc (r : Rk) : Array Value := #[.int .i64 r.1, .int .i64 r.2.1, .int .i64 r.2.2]
theorem rk_new {w : World} {vb : Nat} {r : Rk} (h : Blk w vb 104 (rkc r)) : ∀ j u, (flat3 [r])[j]? = some u → w.cell? ((⟨vb, 0, none⟩ : Addr).add j) = some u := by
  intro j u hu
  rw [Addr.add_lit, Nat.zero_add]
  exact h.cell j (by simpa [flat3, rkc] using hu)
set_option maxRecDepth 20000 in
set_option maxHeartbeats 2000000 in
theorem ins_end (v : Value) (ps : List Rk) (r : Rk) (vb : Nat) (w : World) (base : Nat) (hown : Own3 w base v ps) (hn : ps.length ≤ 399) (hb : Blk w vb 104 (rkc r)) (hbase : base ≤ w.heap.size) :
    Calls Try.prog 144 #[v, .int .i64 ps.length, .slice (some ⟨vb, 0, none⟩) 1 1] w (InsOut base (ps ++ [r]) w) := by
  have HO := Lib.hid hown
  have HB := Lib.hid hb
  have HL : Hid (ps.length + 1 ≤ 1000) := by unfold Hid; omega
  have HV : Hid (v = .slice none 0 0 ∧ ps = [] ∨ ∃ g cap, v = .slice (some ⟨g, 0, none⟩) ps.length cap ∧ ps.length ≤ cap ∧ cap ≤ maxLen) := by
    rcases hown.open_ with h | ⟨g, cap, cur, h1, _, _, h2, h3, _⟩
    · exact .inl h
    · exact .inr ⟨g, cap, h1, h2, h3⟩
  clear hown hb
  rcases HV.out with ⟨rfl, rfl⟩ | ⟨g, cap, rfl, hc, hm⟩
  · clear HV
    go_enter Try.func144, Try.ntmps144
    go_wp2_with (at_builtin; refine wpList_push3 _ rfl _ _ rfl base _ [] [r] rfl HO.out ⟨vb, 0, none⟩ 1 rfl (rk_new HB.out) HL.out hbase ?_; intro v1 w1 ho1 hg1; have HO1 := Lib.hid ho1; have HG1 := Lib.hid hg1; clear ho1 hg1)
    go_ret
    exact ⟨_, rfl, HO1.out, (Below.refl _ _).grown HG1.out hbase HO.out.block⟩
  · clear HV
    unfold maxLen at hm
    by_cases hce : cap = ps.length
    · subst hce
      go_enter Try.func144, Try.ntmps144
      go_wp2_with (at_builtin; refine wpList_push3 _ rfl _ _ rfl base _ ps [r] rfl HO.out ⟨vb, 0, none⟩ 1 rfl (rk_new HB.out) HL.out hbase ?_; intro v1 w1 ho1 hg1; have HO1 := Lib.hid ho1; have HG1 := Lib.hid hg1; clear ho1 hg1)
      go_ret
      exact ⟨_, rfl, HO1.out, (Below.refl _ _).grown HG1.out hbase HO.out.block⟩
    · have hc2 : ps.length < cap := by omega
      have hc3 : ¬ (cap = ps.length) := hce
      go_enter Try.func144, Try.ntmps144
      go_wp2_with (at_builtin; refine wpList_push3 _ rfl _ _ rfl base _ ps [r] rfl HO.out ⟨vb, 0, none⟩ 1 rfl (rk_new HB.out) HL.out hbase ?_; intro v1 w1 ho1 hg1; have HO1 := Lib.hid ho1; have HG1 := Lib.hid hg1; clear ho1 hg1)
      go_ret
      exact ⟨_, rfl, HO1.out, (Below.refl _ _).grown HG1.out hbase HO.out.block⟩
theorem run_over (w : World) (vb g o lb cb : Nat) (hne : vb ≠ g) (r : Rk) (hb : Blk w vb 104 (rkc r)) (cur : Array Value) (hg : w.heap[g]? = some (.cells cur 104 (0, 0))) (hs : cur.size ≠ 0) :
    (callFunc 172 #[.slice (some ⟨vb, 0, none⟩) 1 1, .slice (some ⟨g, o, none⟩) lb cb]).run Try.prog w = .ok (.value (.bool false)) w := by
  have hz : ∀ w, (Go.sizeOf 104).run Try.prog w = .ok 3 w := by
    intro w
    have h := rk_size
    cases hq : Try.prog.info? 104 with
    | none => rw [hq] at h; cases h
    | some i =>
      rw [hq] at h
      have hi : i.size = 3 := by simpa using h
      simp [sizeOf, typeInfo, hq, hi]
  unfold Blk at hb
  rw [run_callFunc_extern Try.func172 (by kernel_rfl) (by kernel_rfl) (by kernel_rfl) (e := Extern.SlicesOverlaps.overlaps #[96, 96] #[4]) (by kernel_rfl),
    Lib.run_overlaps_apart w 96 4 104 Try.underlying96 3 hz ⟨vb, 0, none⟩ ⟨g, o, none⟩ 1 1 lb cb hne 104 104 3 cur.size (by simp [World.shape?, hb, rkc]) (by simp [World.shape?, hg]) hs (by simp [World.frozen?, hb]) (by simp [World.frozen?, hb])]
  rfl
/-- Two copies: what they leave. -/
theorem splice_ins (X : List Value) (ps : List Rk) (r : Rk) (i cap : Nat) (hi : i < ps.length) (hc : ps.length + 1 ≤ cap) (hX : (flat3 ps ++ X).length = cap * 3) :
    (splice (splice (flat3 ps ++ X) ((i + 1) * 3) (flat3 (ps.drop i))) (i * 3) (flat3 [r])).length = cap * 3 ∧
    (splice (splice (flat3 ps ++ X) ((i + 1) * 3) (flat3 (ps.drop i))) (i * 3) (flat3 [r])).take ((ps.take i ++ r :: ps.drop i).length * 3) = flat3 (ps.take i ++ r :: ps.drop i) := by
  have hl1 : (flat3 (ps.drop i)).length = (ps.length - i) * 3 := by rw [flat3_len, List.length_drop]
  have hl2 : (flat3 (ps.take i)).length = i * 3 := by rw [flat3_len, List.length_take]; omega
  have hl3 : (flat3 [r]).length = 3 := rfl
  have e0 : flat3 ps = flat3 (ps.take i) ++ flat3 (ps.drop i) := by rw [← flat3_app, List.take_append_drop]
  have hlen : (splice (flat3 ps ++ X) ((i + 1) * 3) (flat3 (ps.drop i))).length = cap * 3 := by rw [length_splice _ _ _ (by rw [hX, hl1]; omega), hX]
  refine ⟨by rw [length_splice _ _ _ (by rw [hlen, hl3]; omega), hlen], ?_⟩
  have hT : (ps.take i ++ r :: ps.drop i).length = ps.length + 1 := by rw [List.length_append, List.length_cons, List.length_take, List.length_drop]; omega
  rw [hT, flat3_app]
  have e1 : flat3 (r :: ps.drop i) = flat3 [r] ++ flat3 (ps.drop i) := rfl
  rw [e1]
  -- the first copy's list, its first part and what lies behind place i + 1
  obtain ⟨S1, hS1⟩ : ∃ S1, S1 = splice (flat3 ps ++ X) ((i + 1) * 3) (flat3 (ps.drop i)) := ⟨_, rfl⟩
  have ht : S1.take (i * 3) = flat3 (ps.take i) := by
    rw [hS1]
    unfold splice
    rw [List.take_append_of_le_length (by rw [List.length_take, hX]; omega), List.take_take, Nat.min_eq_left (by omega), e0, List.append_assoc, List.take_append_of_le_length (by omega), List.take_of_length_le (by omega)]
  have hd : (S1.drop (i * 3 + 3)).take ((ps.length - i) * 3) = flat3 (ps.drop i) := by
    rw [hS1]
    unfold splice
    rw [show i * 3 + 3 = (i + 1) * 3 by omega, List.drop_append_of_le_length (by rw [List.length_take, hX]; omega), List.drop_of_length_le (by rw [List.length_take, hX]; omega), List.nil_append, List.take_append_of_le_length (by omega), List.take_of_length_le (by omega)]
  rw [← hS1]
  unfold splice
  have q1 : (flat3 (ps.take i)).take (i * 3 + (3 + (ps.length - i) * 3)) = flat3 (ps.take i) := List.take_of_length_le (by omega)
  have q2 : (flat3 [r]).take (3 + (ps.length - i) * 3) = flat3 [r] := List.take_of_length_le (by omega)
  rw [ht, hl3, show (ps.length + 1) * 3 = i * 3 + (3 + (ps.length - i) * 3) by omega, List.take_append, q1, hl2, Nat.add_sub_cancel_left, List.take_append, q2, hl3, Nat.add_sub_cancel_left, hd]
theorem row_drop {w : World} {g : Nat} {t : TypeId} {ps : List Rk} {X : List Value} (hg : w.heap[g]? = some (.cells (flat3 ps ++ X).toArray t (0, 0))) {i : Nat} (hi : i ≤ ps.length) :
    ∀ j v, (flat3 (ps.drop i))[j]? = some v → w.cell? ((⟨g, i * 3, none⟩ : Addr).add j) = some v := by
  intro j v h
  have e0 : flat3 ps = flat3 (ps.take i) ++ flat3 (ps.drop i) := by rw [← flat3_app, List.take_append_drop]
  have hl2 : (flat3 (ps.take i)).length = i * 3 := by rw [flat3_len, List.length_take]; omega
  have hj : j < (flat3 (ps.drop i)).length := (List.getElem?_eq_some_iff.1 h).1
  rw [Addr.add_lit, cell_of_row w g (i * 3 + j) _ t (0, 0) hg]
  rw [List.getElem?_toArray, e0, List.append_assoc, List.getElem?_append_right (by omega), hl2, Nat.add_sub_cancel_left, List.getElem?_append_left hj]
  exact h
set_option maxRecDepth 20000 in
set_option maxHeartbeats 2000000 in
theorem ins_room (g cap i : Nat) (ps : List Rk) (X : List Value) (r : Rk) (vb : Nat) (w : World) (base : Nat) (hbg : base ≤ g) (hg : w.heap[g]? = some (.cells (flat3 ps ++ X).toArray 104 (0, 0))) (hX : (flat3 ps ++ X).length = cap * 3) (hi : i < ps.length) (hc : ps.length + 1 ≤ cap) (hm : cap ≤ 9223372036854775807)
    (hn : ps.length ≤ 399) (hb : Blk w vb 104 (rkc r)) (hne : vb ≠ g) :
    Calls Try.prog 144 #[.slice (some ⟨g, 0, none⟩) ps.length cap, .int .i64 i, .slice (some ⟨vb, 0, none⟩) 1 1] w (InsOut base (ps.take i ++ r :: ps.drop i) w) := by
  have hov : ∀ o lb cb, (callFunc 172 #[.slice (some ⟨vb, 0, none⟩) 1 1, .slice (some ⟨g, o, none⟩) lb cb]).run Try.prog w = .ok (.value (.bool false)) w := fun o lb cb => run_over w vb g o lb cb hne r hb _ hg (by rw [List.size_toArray, hX]; omega)
  have HG := Lib.hid hg
  have HX := Lib.hid hX
  have HB := Lib.hid hb
  have HN := Lib.hid hne
  have hz2 : ¬ ((i : Int) = (ps.length : Int)) := by omega
  have hw1 : IntKind.i64.wrap ((i : Int) + 1) = (i : Int) + 1 := by rw [IntKind.wrap_i64]; omega
  have hb1 : (0 : Int) ≤ (i : Int) + 1 := by omega
  have hin : i ≤ ps.length := by omega
  have htn : ((i : Int) + 1).toNat = i + 1 := by omega
  have hb2 : ¬ (cap = i + 1) := by omega
  have hb3 : (i : Int) ≤ (ps.length : Int) + 1 := by omega
  have hb4 : ¬ (cap = i) := by omega
  have HC1 : Hid ((flat3 (ps.drop i)).length = Nat.min (ps.length + 1 - i) (ps.length - i) * 3) := by unfold Hid; rw [flat3_len, List.length_drop]; simp only [Nat.min_def]; split <;> omega
  have HF1 : Hid ((i + 1) * 3 + (flat3 (ps.drop i)).length ≤ (flat3 ps ++ X).length) := by unfold Hid; rw [flat3_len, List.length_drop, hX]; omega
  have HC2 : Hid ((flat3 [r]).length = Nat.min 1 (ps.length + 1 - i) * 3) := by
    unfold Hid; show 3 = _; simp only [Nat.min_def]; split <;> omega
  have HF2 : Hid (i * 3 + (flat3 [r]).length ≤ (splice (flat3 ps ++ X) ((i + 1) * 3) (flat3 (ps.drop i))).length) := by
    unfold Hid; rw [(length_splice _ _ _ HF1.out), hX]; show i * 3 + 3 ≤ _; omega
  clear hg hX hb hne
  go_enter Try.func144, Try.ntmps144
  go_wp2_with (simp only [hov])
  go_region_law (refine step_copy3 rfl (.tmp 73) (.tmp 76) 96 96 rfl 104 Try.underlying96 rk_size g ((i + 1) * 3) (ps.length - i) (cap - (i + 1)) ⟨g, i * 3, none⟩ (ps.length + 1 - i) (cap - i) (by simp [Act.eval, Act.put]) (by simp [Act.eval, Act.put]) (flat3 ps ++ X) 104 HG.out (flat3 (ps.drop i)) HC1.out (row_drop HG.out hin) HF1.out (flat3_one _) base w (Below.refl _ _).drew hbg ?_; intro n1 w1 ha1 hb1 hc1)
  have HB1 : Hid (Blk w1 vb 104 (rkc r)) := (hb1.out vb HN.out).trans HB.out
  go_wp2_with (refine wpList_copy3 rfl (.tmp 80) (.tmp 81) 96 96 rfl 104 Try.underlying96 rk_size g (i * 3) (ps.length + 1 - i) (cap - i) ⟨vb, 0, none⟩ 1 1 rfl rfl (splice (flat3 ps ++ X) ((i + 1) * 3) (flat3 (ps.drop i))) 104 ha1.out (flat3 [r]) HC2.out (rk_new HB1.out) HF2.out (flat3_one _) base w hc1.out hbg ?_; intro n2 w2 ha2 hb2 hc2)
  go_ret
  have hs := splice_ins X ps r i cap hi hc HX.out
  have hT : (ps.take i ++ r :: ps.drop i).length = ps.length + 1 := by rw [List.length_append, List.length_cons, List.length_take, List.length_drop]; omega
  refine ⟨_, rfl, ?_, hc2.out⟩
  rw [← hT]
  exact Own3.mk_ hbg ha2.out (by rw [hT]; exact hc) (by unfold maxLen; omega) hs.1 hs.2
end Go.Proofs.Ytaehehoeidnidaa
