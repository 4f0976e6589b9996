/- How many tosses it takes, walked twice. No condition. -/
import Derived.Test.YtmcbkjepjijfjaaCoiC
import Derived.Test.YtmcbkjepjijfjaaHeld
namespace Go.Proofs.Ytmcbkjepjijfjaa
open Go.ChangeShapes Go.WideShapes Go.ChangeAt Go.RowKit
set_option linter.unusedVariables false

/-- t[l:] of a tape, its address under one name. -/
theorem slice_bools (A : Option Addr) {ys : List Bool} {l c : Nat} (hl : l ≤ ys.length) (hc : ys.length ≤ c) :
    ∃ A', (∀ u, (Instr.slice 41 (.slice A ys.length c) (some (.int .i64 (l : Nat))) none none).run Try.prog u = .ok (.slice A' (ys.drop l).length (c - l)) u) ∧ ∀ w B, Seg w B A (ys.map .bool) → Seg w B A' ((ys.drop l).map .bool) := by
  refine ⟨if c = l then A else A.map (·.add (l * 1)), fun u => ?_, fun w B h => ?_⟩
  · have hu : Try.prog.underlying 41 = some (.slice (Try.prog.elem 41)) := by kernel_rfl
    have he : Try.prog.elem 41 = 4 := by kernel_rfl
    rw [run_slice_l u 41 A ys.length c hu .i64 l (by omega) (by omega), he, Try.sizeOf4]
    simp [sliced, Result.andThen, List.length_drop]
  · by_cases e : c = l
    · rw [List.drop_eq_nil_of_le (by omega)]; exact Seg.nil
    · rw [if_neg e]
      cases A with
      | none =>
        intro h0
        obtain ⟨ad, e, _⟩ := h (by simp at h0 ⊢; omega)
        cases e
      | some ad => rw [List.map_drop, Nat.mul_one]; exact h.cut l
def pturn (t : List Bool) (a b : Int) : Nat → Nat → Nat → Int × Int × Int
  | 0, _, _ => (0, 0, 7)
  | f + 1, u, n => if (ptoss (t.drop u) a b).2.2 ≠ 0 then (0, 0, (ptoss (t.drop u) a b).2.2) else if (ptoss (t.drop u) a b).1 = true then ((n : Int), (u : Int) + (ptoss (t.drop u) a b).2.1, 0) else pturn t a b f (u + (ptoss (t.drop u) a b).2.1.toNat) (n + 1)
def pturnR (t : List Bool) (a b : Int) : Int × Int × Int := if cok a b = true ∧ a ≠ 0 then pturn t a b (t.length + 1) 0 1 else (0, 0, 2)
abbrev N3 (r : Int × Int × Int) : Ending := .returned (.tuple #[.int .i64 r.1, .int .i64 r.2.1, .int .i64 r.2.2])
theorem exec_load_blk2 {P : Program} {ev : Operand → Value} {o : Oper} (ty : TypeId) (x : Operand) (ho : o.op = .load ty x) (g : Nat) (hx : ev x = .pointer (some ⟨g, 0, none⟩)) (t : TypeId) (cs : Array Value) (d : TypeDesc) (w : World) (hg : Blk w g t cs)
    (hu : P.underlying ty = some d) (hd : (match d with | .struct _ | .array _ _ => true | _ => false) = true) (hi : (P.info? ty).map (·.size) = some cs.size) : (execOp ev o).run P w = .ok (.value (.agg cs)) w := by
  unfold execOp
  simp only [ho, hx, Instr.loadAt, Instr.sureAddr, Sem.run_bind, Sem.run_pure, Result.andThen_ok, run_loadVar_row w g t ty cs (0, 0) d hg hu hd hi]
theorem ptoss_err {t : List Bool} {a b : Int} (h : (ptoss t a b).2.2 ≠ 0) : (ptoss t a b).1 = false ∧ (ptoss t a b).2.1 = 0 := by
  unfold ptoss at h ⊢
  split at h
  · next hc => rw [if_pos hc, ctf_err b t a 0 h]; exact ⟨rfl, rfl⟩
  · next hc => rw [if_neg hc]; exact ⟨rfl, rfl⟩
theorem toss_any2 (t : List Bool) (a b : Int) (A : Option Addr) (c : Nat) (w : World) (hs : Seg w w.heap.size A (t.map .bool)) (hm : t.length < 140737488355328) :
    Calls Try.prog 49 #[.slice A t.length c, FracV a b] w fun e w' => e = C3 (ptoss t a b) ∧ Below w.heap.size w w' := toss_any t a b A c w hs (by omega)
set_option maxRecDepth 20000 in
set_option maxHeartbeats 1000000 in
theorem turn_coin (t : List Bool) (a b : Int) (A : Option Addr) (c : Nat) (w : World) (hs : Seg w w.heap.size A (t.map .bool)) (hm : t.length < 140737488355328) (hc : t.length ≤ c) :
    Calls Try.prog 51 #[.slice A t.length c, FracV a b] w fun e w' => e = N3 (pturnR t a b) ∧ Below w.heap.size w w' := by
  have HS := Lib.hid hs
  have hr := coright_any a b (w.alloc (.cells #[.int .i64 a, .int .i64 b] 62))
  clear hs
  cases hg : cok a b with
  | false =>
    rw [hg] at hr
    have HR := Lib.hid hr
    have HP : Hid (pturnR t a b = (0, 0, 2)) := by unfold pturnR Hid; rw [hg]; rfl
    clear hr hg
    go_enter Try.func51, Try.ntmps51
    go_wp2_with fail
    refine HR.out.mono ?_
    rintro e w1 ⟨rfl, hb⟩
    have HB1 : Hid (Below w.heap.size w w1) := ((Below.refl _ _).alloc (Nat.le_refl _) _).trans (hb.mono (by simp))
    clear hb
    go_wp2_with fail
    refine bodyPost_ret (v := .tuple #[.int .i64 0, .int .i64 0, .int .i64 2]) (by simp [results, Try.results51, go_sem]) rfl ⟨by rw [HP.out], HB1.out⟩
  | true =>
    rw [hg] at hr
    have HR := Lib.hid hr
    have HP : Hid (pturnR t a b = if a ≠ 0 then pturn t a b (t.length + 1) 0 1 else (0, 0, 2)) := by unfold pturnR Hid; rw [hg]; simp
    have HCK := Lib.hid hg
    unfold cok at hg
    simp at hg
    obtain ⟨g1, g2, g3, g4⟩ := hg
    clear hr
    by_cases h0 : a = 0
    · subst h0
      have HV : Hid (pturnR t 0 b = (0, 0, 2)) := by unfold Hid; rw [HP.out, if_neg (by simp)]
      skip
      go_enter Try.func51, Try.ntmps51
      go_wp2_with fail
      refine HR.out.mono ?_
      rintro e w1 ⟨rfl, hb⟩
      have HB1 : Hid (Below w.heap.size w w1) := ((Below.refl _ _).alloc (Nat.le_refl _) _).trans (hb.mono (by simp))
      have hbk := (Blk.new w 62 #[.int .i64 0, .int .i64 b]).below hb (by simp)
      have hc0 := hbk.cell 0 (u := .int .i64 0) rfl
      clear hb hbk
      go_wp2_with fail
      refine bodyPost_ret (v := .tuple #[.int .i64 0, .int .i64 0, .int .i64 2]) (by simp [results, Try.results51, go_sem]) rfl ⟨by rw [HV.out], HB1.out⟩
    · have HV : Hid (pturnR t a b = pturn t a b (t.length + 1) 0 1) := by unfold Hid; rw [HP.out, if_pos h0]
      have ha : 0 < a := by omega
      have b2 : (a == 0) = false := by rw [beq_eq_false_iff_ne]; omega
      have HTO : Hid (∀ (A' : Option Addr) (u c' : Nat) (q : World), Seg q q.heap.size A' ((t.drop u).map .bool) → Calls Try.prog 49 #[.slice A' (t.drop u).length c', FracV a b] q fun e w' => e = C3 (ptoss (t.drop u) a b) ∧ Below q.heap.size q w') :=
        fun A' u c' q h => toss_any2 (t.drop u) a b A' c' q h (by rw [List.length_drop]; omega)
      clear h0
      go_enter Try.func51, Try.ntmps51
      go_wp2_with fail
      refine HR.out.mono ?_
      rintro e w1 ⟨rfl, hb⟩
      have HB1 : Hid (Below w.heap.size w w1) := ((Below.refl _ _).alloc (Nat.le_refl _) _).trans (hb.mono (by simp))
      have HBK : Hid (Blk w1 w.heap.size 62 #[.int .i64 a, .int .i64 b]) := (Blk.new w 62 #[.int .i64 a, .int .i64 b]).below hb (by simp)
      have hc0 := HBK.out.cell 0 (u := .int .i64 a) rfl
      clear hb
      go_wp2_with fail
      clear hc0 b2
      go_loopw [7, 8] (fun s7 s8 wr => ∃ u n f : Nat, s7 = .int .i64 u ∧ s8 = .int .i64 n ∧ u ≤ t.length ∧ t.length + 1 ≤ u + f ∧ n ≤ u + 1 ∧ Hid (pturnR t a b = pturn t a b f u n) ∧ Blk wr w.heap.size 62 #[.int .i64 a, .int .i64 b] ∧ Below w.heap.size w wr) (fun s7 _ _ => t.length - (intOf s7).toNat)
      case atStart => exact ⟨0, 1, t.length + 1, rfl, rfl, Nat.zero_le _, by omega, by omega, HV.out, HBK.out, HB1.out⟩
      case round =>
        clear HBK HB1
        obtain ⟨u, n, f, rfl, rfl, hu, huf, hnu, hp, hbk, hbel⟩ := hrel
        obtain ⟨f, rfl⟩ : ∃ g, f = g + 1 := ⟨f - 1, by omega⟩
        have HBK := Lib.hid hbk
        have HB := Lib.hid hbel
        have HPT := Lib.hid hp.out
        rw [pturn] at HPT
        clear hbk hbel hp
        obtain ⟨A', hsl, hsg⟩ := slice_bools A (ys := t) (l := u) (c := c) hu hc
        have HSG := Lib.hid hsg
        have htt := HTO.out A' u (c - u)
        rw [List.length_drop] at htt hsl
        have HTT := Lib.hid htt
        clear htt
        have hpu := ptoss_used (t := t.drop u) (a := a) (b := b)
        have hpm := ptoss_more (t := t.drop u) (a := a) (b := b)
        have hpe := ptoss_err (t := t.drop u) (a := a) (b := b)
        rw [List.length_drop] at hpu
        obtain ⟨⟨y, v, e⟩, hre⟩ : ∃ r, r = ptoss (t.drop u) a b := ⟨_, rfl⟩
        rw [← hre] at hpu hpm hpe HPT HTT
        have HPU := Lib.hid hpu
        have HPM := Lib.hid hpm
        have HPE := Lib.hid hpe
        clear hre hpu hpm hpe hsg
        have iu : (u : Int) ≤ (t.length : Int) := by omega
        go_wp2_with fail
        refine wp_region_plan [(0, 0), (1, 0), (2, 0), (3, 1), (4, 2), (5, 0), (6, 0), (7, 0), (8, 0), (9, 0), (10, 0), (11, 0)] (fun w' => Blk w' w.heap.size 62 #[.int .i64 a, .int .i64 b] ∧ Below w.heap.size w w') (by kernel_rfl) (by kernel_rfl) (fun _ d _ _ _ h => by cases d <;> exact h) ⟨HBK.out.drew, Below.drew HB.out⟩ ?_
        iterate 3 ((refine plan0 (v := ?_) rfl rfl (by rfl) ?_ ?_); rotate_left; (intro w'; go_simp; with_reducible rfl); simp only [List.setIfInBounds_toArray, List.set_cons_zero, List.set_cons_succ])
        refine plan1 (v := FracV a b) rfl rfl (by rfl) ?_ ?_
        · exact fun w' hS => exec_load_blk2 _ _ rfl _ rfl _ _ _ _ hS.1 Try.underlying62 rfl (by kernel_rfl)
        simp only [List.setIfInBounds_toArray, List.set_cons_zero, List.set_cons_succ]
        refine plan2 rfl rfl fun K' hK' => ?_
        go_simp
        refine (HTT.out _ (HSG.out _ _ (((HS.out.below HB.out).more HB.out.size).drew))).mono ?_
        rintro e2 w2 ⟨rfl, hb⟩
        have HB2 : Hid (Below w.heap.size w w2) := HB.out.trans ((show Below wr.heap.size wr w2 from (Below.drew (Below.refl _ _)).trans hb).mono HB.out.size)
        have HBK2 : Hid (Blk w2 w.heap.size 62 #[.int .i64 a, .int .i64 b]) := HBK.out.drew.below hb HBK.out.lt
        dsimp only
        refine hK' _ _ ⟨HBK2.out, HB2.out⟩ ?_
        clear hK' K' hb hsl
        iterate 6 ((refine plan0 (v := ?_) rfl rfl (by rfl) ?_ ?_); rotate_left; (intro w'; go_simp; with_reducible rfl); simp only [List.setIfInBounds_toArray, List.set_cons_zero, List.set_cons_succ])
        iterate 1 ((refine plan0 (v := ?_) rfl rfl (by rfl) ?_ ?_); rotate_left; (intro w'; go_simp; with_reducible rfl))
        refine planEnd ?_
        by_cases he : e = 0
        · subst he
          have hpu := HPU.out rfl
          obtain ⟨V, rfl⟩ : ∃ V : Nat, v = V := ⟨v.toNat, by omega⟩
          cases y with
          | true =>
            have HF : Hid (pturnR t a b = ((n : Int), (u : Int) + V, 0)) := by unfold Hid; rw [HPT.out, if_neg (by simp), if_pos rfl]
            go_wp2_with fail
            refine bodyPost_ret (v := .tuple #[.int .i64 n, .int .i64 ((u : Int) + V), .int .i64 0]) (by simp [results, Try.results51, go_sem]) rfl ⟨by rw [HF.out], HB2.out⟩
          | false =>
            have HF : Hid (pturnR t a b = pturn t a b f (u + V) (n + 1)) := by unfold Hid; rw [HPT.out, if_neg (by simp), if_neg (by simp)]; rfl
            have hv0 := HPM.out rfl rfl ha
            go_wp2_with fail
            go_roundw
            case rel => exact ⟨u + V, n + 1, f, by go_num, by go_num, by omega, by omega, by omega, HF.out, HBK2.out, HB2.out⟩
            case measure => simp [intOf]; omega
        · have d1 : (e != 0) = true := by simpa using he
          have HF : Hid (pturnR t a b = (0, 0, e)) := by unfold Hid; rw [HPT.out, if_pos he]
          clear he
          go_wp2_with fail
          refine bodyPost_ret (v := .tuple #[.int .i64 0, .int .i64 0, .int .i64 e]) (by simp [results, Try.results51, go_sem]) rfl ⟨by rw [HF.out], HB2.out⟩
set_option maxRecDepth 20000 in
set_option maxHeartbeats 1000000 in
theorem cturn_any (t : List Bool) (a b : Int) (A : Option Addr) (c : Nat) (w : World) (hs : Seg w w.heap.size A (t.map .bool)) (hm : t.length < 140737488355328) (hc : t.length ≤ c) :
    Calls Try.prog 52 #[.slice A t.length c, FracV a b] w fun e w' => e = N3 (pturnR t a b) ∧ Below w.heap.size w w' := by
  have HS := Lib.hid hs
  have hr := cright2_any a b (w.alloc (.cells #[.int .i64 a, .int .i64 b] 62))
  clear hs
  cases hg : cok a b with
  | false =>
    rw [hg] at hr
    have HR := Lib.hid hr
    have HP : Hid (pturnR t a b = (0, 0, 2)) := by unfold pturnR Hid; rw [hg]; rfl
    clear hr hg
    go_enter Try.func52, Try.ntmps52
    go_wp2_with fail
    refine HR.out.mono ?_
    rintro e w1 ⟨rfl, hb⟩
    have HB1 : Hid (Below w.heap.size w w1) := ((Below.refl _ _).alloc (Nat.le_refl _) _).trans (hb.mono (by simp))
    clear hb
    go_wp2_with fail
    refine bodyPost_ret (v := .tuple #[.int .i64 0, .int .i64 0, .int .i64 2]) (by simp [results, Try.results52, go_sem]) rfl ⟨by rw [HP.out], HB1.out⟩
  | true =>
    rw [hg] at hr
    have HR := Lib.hid hr
    have HP : Hid (pturnR t a b = if a ≠ 0 then pturn t a b (t.length + 1) 0 1 else (0, 0, 2)) := by unfold pturnR Hid; rw [hg]; simp
    have HCK := Lib.hid hg
    unfold cok at hg
    simp at hg
    obtain ⟨g1, g2, g3, g4⟩ := hg
    clear hr
    by_cases h0 : a = 0
    · subst h0
      have HV : Hid (pturnR t 0 b = (0, 0, 2)) := by unfold Hid; rw [HP.out, if_neg (by simp)]
      skip
      go_enter Try.func52, Try.ntmps52
      go_wp2_with fail
      refine HR.out.mono ?_
      rintro e w1 ⟨rfl, hb⟩
      have HB1 : Hid (Below w.heap.size w w1) := ((Below.refl _ _).alloc (Nat.le_refl _) _).trans (hb.mono (by simp))
      have hbk := (Blk.new w 62 #[.int .i64 0, .int .i64 b]).below hb (by simp)
      have hc0 := hbk.cell 0 (u := .int .i64 0) rfl
      clear hb hbk
      go_wp2_with fail
      refine bodyPost_ret (v := .tuple #[.int .i64 0, .int .i64 0, .int .i64 2]) (by simp [results, Try.results52, go_sem]) rfl ⟨by rw [HV.out], HB1.out⟩
    · have HV : Hid (pturnR t a b = pturn t a b (t.length + 1) 0 1) := by unfold Hid; rw [HP.out, if_pos h0]
      have ha : 0 < a := by omega
      have i5 : ¬ a < 1 := by omega
      have HTO : Hid (∀ (A' : Option Addr) (u c' : Nat) (q : World), Seg q q.heap.size A' ((t.drop u).map .bool) → Calls Try.prog 50 #[.slice A' (t.drop u).length c', FracV a b] q fun e w' => e = C3 (ptoss (t.drop u) a b) ∧ Below q.heap.size q w') :=
        fun A' u c' q h => ctoss_any (t.drop u) a b A' c' q h (by rw [List.length_drop]; omega)
      clear h0
      go_enter Try.func52, Try.ntmps52
      go_wp2_with fail
      refine HR.out.mono ?_
      rintro e w1 ⟨rfl, hb⟩
      have HB1 : Hid (Below w.heap.size w w1) := ((Below.refl _ _).alloc (Nat.le_refl _) _).trans (hb.mono (by simp))
      have HBK : Hid (Blk w1 w.heap.size 62 #[.int .i64 a, .int .i64 b]) := (Blk.new w 62 #[.int .i64 a, .int .i64 b]).below hb (by simp)
      have hc0 := HBK.out.cell 0 (u := .int .i64 a) rfl
      clear hb
      go_wp2_with fail
      clear hc0 i5
      go_loopw [7, 8] (fun s7 s8 wr => ∃ u n f : Nat, s7 = .int .i64 u ∧ s8 = .int .i64 n ∧ u ≤ t.length ∧ t.length + 1 ≤ u + f ∧ n ≤ u ∧ Hid (pturnR t a b = pturn t a b f u (n + 1)) ∧ Blk wr w.heap.size 62 #[.int .i64 a, .int .i64 b] ∧ Below w.heap.size w wr) (fun s7 _ _ => t.length - (intOf s7).toNat)
      case atStart => exact ⟨0, 0, t.length + 1, rfl, rfl, Nat.zero_le _, by omega, by omega, HV.out, HBK.out, HB1.out⟩
      case round =>
        clear HBK HB1
        obtain ⟨u, n, f, rfl, rfl, hu, huf, hnu, hp, hbk, hbel⟩ := hrel
        obtain ⟨f, rfl⟩ : ∃ g, f = g + 1 := ⟨f - 1, by omega⟩
        have HBK := Lib.hid hbk
        have HB := Lib.hid hbel
        have HPT := Lib.hid hp.out
        rw [pturn] at HPT
        clear hbk hbel hp
        obtain ⟨A', hsl, hsg⟩ := slice_bools A (ys := t) (l := u) (c := c) hu hc
        have HSG := Lib.hid hsg
        have htt := HTO.out A' u (c - u)
        rw [List.length_drop] at htt hsl
        have HTT := Lib.hid htt
        clear htt
        have hpu := ptoss_used (t := t.drop u) (a := a) (b := b)
        have hpm := ptoss_more (t := t.drop u) (a := a) (b := b)
        have hpe := ptoss_err (t := t.drop u) (a := a) (b := b)
        rw [List.length_drop] at hpu
        obtain ⟨⟨y, v, e⟩, hre⟩ : ∃ r, r = ptoss (t.drop u) a b := ⟨_, rfl⟩
        rw [← hre] at hpu hpm hpe HPT HTT
        have HPU := Lib.hid hpu
        have HPM := Lib.hid hpm
        have HPE := Lib.hid hpe
        clear hre hpu hpm hpe hsg
        have iu : (u : Int) ≤ (t.length : Int) := by omega
        go_wp2_with fail
        refine wp_region_plan [(0, 0), (1, 0), (2, 0), (3, 1), (4, 2), (5, 0), (6, 0), (7, 0), (8, 0), (9, 0), (10, 0), (11, 0)] (fun w' => Blk w' w.heap.size 62 #[.int .i64 a, .int .i64 b] ∧ Below w.heap.size w w') (by kernel_rfl) (by kernel_rfl) (fun _ d _ _ _ h => by cases d <;> exact h) ⟨HBK.out.drew, Below.drew HB.out⟩ ?_
        iterate 3 ((refine plan0 (v := ?_) rfl rfl (by rfl) ?_ ?_); rotate_left; (intro w'; go_simp; with_reducible rfl); simp only [List.setIfInBounds_toArray, List.set_cons_zero, List.set_cons_succ])
        refine plan1 (v := FracV a b) rfl rfl (by rfl) ?_ ?_
        · exact fun w' hS => exec_load_blk2 _ _ rfl _ rfl _ _ _ _ hS.1 Try.underlying62 rfl (by kernel_rfl)
        simp only [List.setIfInBounds_toArray, List.set_cons_zero, List.set_cons_succ]
        refine plan2 rfl rfl fun K' hK' => ?_
        go_simp
        refine (HTT.out _ (HSG.out _ _ (((HS.out.below HB.out).more HB.out.size).drew))).mono ?_
        rintro e2 w2 ⟨rfl, hb⟩
        have HB2 : Hid (Below w.heap.size w w2) := HB.out.trans ((show Below wr.heap.size wr w2 from (Below.drew (Below.refl _ _)).trans hb).mono HB.out.size)
        have HBK2 : Hid (Blk w2 w.heap.size 62 #[.int .i64 a, .int .i64 b]) := HBK.out.drew.below hb HBK.out.lt
        dsimp only
        refine hK' _ _ ⟨HBK2.out, HB2.out⟩ ?_
        clear hK' K' hb hsl
        iterate 6 ((refine plan0 (v := ?_) rfl rfl (by rfl) ?_ ?_); rotate_left; (intro w'; go_simp; with_reducible rfl); simp only [List.setIfInBounds_toArray, List.set_cons_zero, List.set_cons_succ])
        iterate 1 ((refine plan0 (v := ?_) rfl rfl (by rfl) ?_ ?_); rotate_left; (intro w'; go_simp; with_reducible rfl))
        refine planEnd ?_
        by_cases he : e = 0
        · subst he
          have hpu := HPU.out rfl
          obtain ⟨V, rfl⟩ : ∃ V : Nat, v = V := ⟨v.toNat, by omega⟩
          cases y with
          | true =>
            have HF : Hid (pturnR t a b = (((n + 1 : Nat) : Int), (u : Int) + V, 0)) := by unfold Hid; rw [HPT.out, if_neg (by simp), if_pos rfl]
            go_wp2_with fail
            refine bodyPost_ret (v := .tuple #[.int .i64 (n + 1 : Nat), .int .i64 ((u : Int) + V), .int .i64 0]) (by simp [results, Try.results52, go_sem]) rfl ⟨by rw [HF.out], HB2.out⟩
          | false =>
            have HF : Hid (pturnR t a b = pturn t a b f (u + V) (n + 1 + 1)) := by unfold Hid; rw [HPT.out, if_neg (by simp), if_neg (by simp)]; rfl
            have hv0 := HPM.out rfl rfl ha
            go_wp2_with fail
            go_roundw
            case rel => exact ⟨u + V, n + 1, f, by go_num, by go_num, by omega, by omega, by omega, HF.out, HBK2.out, HB2.out⟩
            case measure => simp [intOf]; omega
        · have d1 : (e != 0) = true := by simpa using he
          have hpe := HPE.out he
          obtain ⟨rfl, rfl⟩ := hpe
          have HF : Hid (pturnR t a b = (0, 0, e)) := by unfold Hid; rw [HPT.out, if_pos he]
          clear he
          go_wp2_with fail
          refine bodyPost_ret (v := .tuple #[.int .i64 0, .int .i64 0, .int .i64 e]) (by simp [results, Try.results52, go_sem]) rfl ⟨by rw [HF.out], HB2.out⟩
end Go.Proofs.Ytmcbkjepjijfjaa
