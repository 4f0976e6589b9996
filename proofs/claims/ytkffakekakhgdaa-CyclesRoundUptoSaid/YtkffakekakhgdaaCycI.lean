/- The reference's WBack, walked, where all the rows together are no more than so long. No condition but that. -/
import Derived.Test.YtkffakekakhgdaaCycH
import Derived.Test.YtkffakekakhgdaaMapK
namespace Go.Proofs.Ytkffakekakhgdaa
open Go.ChangeShapes Go.WideShapes Go.ChangeAt Go.RowKit Go.Maps Go.WideMaps
set_option linter.unusedVariables false

/-- A map from numbers to numbers that the call makes, with how many it has. -/
def MapN (w : World) (b n : Nat) (F : Int → Option Int) (s : Nat) : Prop := ∃ D : DataW Unit, w.ownsMap Try.prog 3 (plainElem Try.prog 3) b n D ∧ DatK D F ∧ Tidy D ∧ Maps.size D = s
section
variable {w w' : World} {b n s : Nat} {F F' : Int → Option Int}
theorem MapN.k (h : MapN w b n F s) : MapK w b n F := by obtain ⟨D, h1, h2, _⟩ := h; exact ⟨D, h1, h2⟩
theorem MapN.lt (h : MapN w b n F s) : b < w.heap.size := h.k.lt
theorem MapN.below {B : Nat} (h : MapN w b n F s) (hb : Below B w w') (hB : b < B) : MapN w' b n F s := by
  obtain ⟨D, ⟨es, clock, hh, r⟩, h2⟩ := h
  exact ⟨D, ⟨es, clock, (hb.block b hB).trans hh, r⟩, h2⟩
theorem MapN.made (w : World) : MapN (w.alloc (.map #[] 0)) w.heap.size 0 (fun _ => none) 0 :=
  ⟨_, World.ownsMap_made _ _ _ _, ⟨isMap_empty, fun _ _ => rfl, fun _ _ _ h => by cases h⟩, tidy_empty, rfl⟩
theorem MapN.len (h : MapN w b n F s) {t : TypeId} (ht : Try.prog.underlying t = some (.map 3 3)) (ty : TypeId) : (Builtin.len_ #[t] ty #[.map (some b)]).run Try.prog w = .ok (.int .i64 (s : Nat)) w := by
  obtain ⟨D, h1, _, _, h4⟩ := h
  rw [← h4]
  exact h1.len ht ty
set_option maxRecDepth 20000 in
theorem MapN.update (h : MapN w b n F s) {t : TypeId} (ht : Try.prog.underlying t = some (.map 3 3)) (hn : n < maxLen) {x v : Int} (hx : (Lit.int .i64 x).wf = true) (hv : (Lit.int .i64 v).wf = true) :
    ∃ w', (Instr.mapUpdate t (.map (some b)) (.int .i64 x) (.int .i64 v)).run Try.prog w = .ok () w' ∧ MapN w' b (n + 1) (fun y => if y = x then some v else F y) (if (F x).isSome = true then s else s + 1) ∧ w.grownBy w' (some b) := by
  obtain ⟨D, hD, h2, h3, h4⟩ := h
  have hk := keyOf_int_mk (k := 3) Try.underlying3 hx
  obtain ⟨w', hrun, ho, hg⟩ := hD.update kint ht hn hk (plainElem_int Try.underlying3 hv)
  refine ⟨w', hrun, ⟨_, ho, ⟨h2.map.put _ _, fun y hy => ?_, fun y u hy hu z => ?_⟩, h3.put (kint.key hk) _, ?_⟩, hg⟩
  · by_cases e : y = x
    · subst e
      rw [has_put_same h2.map (kint.key hk), if_pos rfl]; rfl
    · rw [has_put_other (fun e2 => e (by injection e2)), if_neg e]
      exact h2.has y hy
  · by_cases e : y = x
    · subst e
      rw [if_pos rfl] at hu
      injection hu with hu
      rw [atKey_put_same h2.map (kint.key hk), hu]
    · rw [if_neg e] at hu
      rw [atKey_put_other (fun e2 => e (by injection e2))]
      exact h2.at_ y u hy hu z
  · rw [size_put h3, h2.has x hx, h4]
theorem wpList_mapn_store {ops : Array Oper} {rest : List Oper} {o : Oper} {a : Act} {Q : Exit → Act → World → Prop} (w : World) (hg : o.guard = none) (m x v : Operand) (t : TypeId) (hop : o.op = Op.mapUpdate t m x v) (ht : Try.prog.underlying t = some (.map 3 3)) (b n s : Nat) (F : Int → Option Int)
    (hm : a.eval m = .map (some b)) (h : MapN w b n F s) (hn : n < maxLen) (key c : Int) (hx : a.eval x = .int .i64 key) (hv : a.eval v = .int .i64 c) (hk : (Lit.int .i64 key).wf = true) (hc : (Lit.int .i64 c).wf = true)
    (hK : ∀ w', Hid (MapN w' b (n + 1) (fun y => if y = key then some c else F y) (if (F key).isSome = true then s else s + 1)) → Hid (w.grownBy w' (some b)) → wpList Try.prog ops Q rest (a.put o.dst undef) w') : wpList Try.prog ops Q (o :: rest) a w := by
  refine wpList_plain hg fun K' hK' => ?_
  obtain ⟨w', hrun, r1, r2⟩ := h.update ht hn hk hc
  unfold Oper.wp
  simp [execOp, hop, hm, hx, hv, hrun, Result.andThen]
  exact hK' _ _ (hK w' r1 r2)
set_option maxRecDepth 20000 in
theorem MapK.look_ok (h : MapK w b n F) {t : TypeId} (ht : Try.prog.underlying t = some (.map 3 3)) {x : Int} (hx : (Lit.int .i64 x).wf = true) :
    (Instr.lookup t (.map (some b)) (.int .i64 x) true).run Try.prog w = .ok (.tuple #[.int .i64 ((F x).getD 0), .bool (F x).isSome]) w := by
  obtain ⟨D, h1, h2⟩ := h
  have hw0 : (Lit.int .i64 0).wf = true := by decide
  obtain ⟨v, ps, hrun, hv⟩ := h1.look_ok kint ht (Try.zeroValue3 w) (plainElem_int Try.underlying3 hw0) (keyOf_int_mk (k := 3) Try.underlying3 hx)
  obtain ⟨c, rfl, hc, _⟩ := plainElem_int_inv Try.underlying3 hv
  rw [hrun, h2.has x hx]
  cases hF : F x with
  | none =>
    rw [atKey_of_not_has (by rw [h2.has x hx, hF]; rfl)] at hc
    injection hc with hc _
    injection hc with hc
    injection hc with _ hc
    rw [← hc]; rfl
  | some u =>
    rw [h2.at_ x u hx hF] at hc
    injection hc with hc _
    injection hc with hc
    injection hc with _ hc
    rw [← hc]; rfl
end
/-- What the map says. -/
def fK (R : List (List Int)) (i j : Nat) (y : Int) : Option Int := if y ∈ (psR R i j).map (·.1) then some (lkp (psR R i j) y) else none
theorem fK_step (R : List (List Int)) {i j : Nat} (hi : i < R.length) (hj : j < (R[i]).length) {x v : Int} (hx : pat R[i] j = x) (hv : pat R[i] ((j + 1) % (R[i]).length) = v) (y : Int) : fK R i (j + 1) y = if y = x then some v else fK R i j y := by
  unfold fK
  rw [psR_step R hi hj, List.map_append, lkp_snoc, hx, hv]
  have hm : y ∈ (psR R i j).map (·.1) ++ [(x, v)].map (·.1) ↔ y ∈ (psR R i j).map (·.1) ∨ y = x := by
    rw [List.mem_append]
    constructor
    · rintro (h | h)
      · exact Or.inl h
      · exact Or.inr (List.mem_singleton.1 h)
    · rintro (h | h)
      · exact Or.inl h
      · exact Or.inr (List.mem_singleton.2 h)
  by_cases e : y = x
  · rw [if_pos (hm.2 (Or.inr e)), if_pos e.symm, if_pos e]
  · rw [if_neg e]
    by_cases h : y ∈ (psR R i j).map (·.1)
    · rw [if_pos (hm.2 (Or.inl h)), if_neg (fun h => e h.symm), if_pos h]
    · rw [if_neg (fun h2 => (hm.1 h2).elim h e), if_neg h]
theorem fK_end (R : List (List Int)) {i : Nat} (hi : i < R.length) (y : Int) : fK R i (R[i]).length y = fK R (i + 1) 0 y := by unfold fK; rw [psR_end R hi, psR_zero]
theorem fK_some (R : List (List Int)) {i j : Nat} (hi : i < R.length) (hj : j ≤ (R[i]).length) (y : Int) : (fK R i j y).isSome = decide (y ∈ R.flatten.take (offR R i + j)) := by
  unfold fK
  rw [← psR_keys R hi hj]
  split
  · next h => rw [decide_eq_true h]; rfl
  · next h => rw [decide_eq_false h]; rfl
theorem fK_all (R : List (List Int)) (y : Int) : fK R R.length 0 y = if y ∈ R.flatten then some (lkp (prs R) y) else none := by
  unfold fK
  rw [psR_zero, List.take_length, prs_fst]
/-- So many there are as the list has, if each comes once. -/
def szOk (l : List Int) (m s : Nat) : Prop := s ≤ m ∧ (s = m ↔ (l.take m).Nodup)
theorem szOk_step {l : List Int} {m s : Nat} {x : Int} (hm : m < l.length) (hx : pat l m = x) (h : szOk l m s) : szOk l (m + 1) (if decide (x ∈ l.take m) = true then s else s + 1) := by
  have e : (l.take (m + 1)).Nodup ↔ (l.take m).Nodup ∧ x ∉ l.take m := by
    rw [pat_take hm, hx, List.nodup_append]
    simp
    intro _
    constructor
    · intro h2 h3; exact h2 x h3 rfl
    · intro h2 a ha e2; subst e2; exact h2 ha
  unfold szOk at *
  rw [e]
  by_cases hin : x ∈ l.take m
  · rw [decide_eq_true hin, if_pos rfl]
    exact ⟨by omega, fun h2 => by omega, fun h2 => absurd hin h2.2⟩
  · rw [decide_eq_false hin, if_neg (by simp)]
    refine ⟨by omega, fun h2 => ⟨h.2.1 (by omega), hin⟩, fun h2 => ?_⟩
    have := h.2.2 h2.1
    omega
theorem backR_dup {R : List (List Int)} (h : ¬ R.flatten.Nodup) : backR R = ([], 1) := by
  unfold backR
  rw [if_neg (fun hp => h (permB_nodup hp))]
theorem backR_miss {R : List (List Int)} {k : Nat} (hk : k < R.flatten.length) (h : (k : Int) ∉ R.flatten) : backR R = ([], 1) := by
  unfold backR
  rw [if_neg (fun hp => h ((permB_mem hp).2 (by omega)))]
theorem backR_all {R : List (List Int)} (h20 : R.flatten.length ≤ 20) (hn : R.flatten.Nodup) (ha : ∀ k, k < R.flatten.length → (k : Int) ∈ R.flatten) : backR R = (outR R, 0) := by
  unfold backR
  rw [if_pos]
  unfold permB
  rw [decide_eq_true h20, permB_eq, Bool.true_and, dokc_iff]
  intro k hk
  have h1 := List.nodup_iff_count.1 hn (k : Int)
  have h2 := List.count_pos_iff.2 (ha k hk)
  omega
theorem wsmall {p : Nat} (h : p ≤ 4000000000) : wrap64 (p : Int) = (p : Int) := by unfold wrap64; omega
set_option maxRecDepth 20000 in
set_option maxHeartbeats 4000000 in
theorem wback_any (R : List (List Int)) (A : Option Addr) (c : Nat) (w : World) (hr : RowsR w w.heap.size A R) (hm : R.length ≤ 1000000000) (hf : R.flatten.length ≤ 1000000000) (hw : ∀ r ∈ R, ∀ n ∈ r, (Lit.int .i64 n).wf = true) :
    Calls Try.prog 26 #[.slice A R.length c] w fun e w' => SOut w w' e (backR R).1 (backR R).2 := by
  obtain ⟨res, hres⟩ : ∃ res, res = backR R := ⟨_, rfl⟩
  rw [← hres]
  have HRES := Lib.hid hres
  have HRW := Lib.hid hr
  have HM := Lib.hid (And.intro hm hf)
  have HWF : Hid (∀ i (h : i < R.length) k, k < (R[i]).length → (Lit.int .i64 (pat R[i] k)).wf = true) := fun i h k hk => by
    rw [pat_get hk]; exact hw _ (List.getElem_mem h) _ (List.getElem_mem hk)
  clear hres hr hm hf hw
  obtain ⟨M, hM⟩ : ∃ M, M = R.length := ⟨_, rfl⟩
  rw [← hM]
  have HMM := Lib.hid hM
  have hmm := @run_makeMap Try.prog
  clear hM
  go_enter Try.func26, Try.ntmps26
  go_wp2_with fail
  have HM0 : Hid (MapN (w.alloc (.map #[] 0)) w.heap.size 0 (fK R 0 0) 0) := MapN.made w
  have HB0 : Hid (Below w.heap.size w (w.alloc (.map #[] 0))) := (Below.refl _ _).alloc (Nat.le_refl _) _
  have HS0 : Hid (szOk R.flatten (offR R 0 + 0) 0) := ⟨Nat.le_refl _, fun _ => List.nodup_nil, fun _ => rfl⟩
  obtain ⟨mb, hmb⟩ : ∃ mb, mb = w.heap.size := ⟨_, rfl⟩
  have HMB : Hid (w.heap.size ≤ mb) := by unfold Hid; omega
  rw [← hmb] at HM0 ⊢
  generalize hw2 : w.alloc (.map #[] 0) = w2 at *
  clear hw2 hmm hmb
  go_loopw [5, 17] (fun s5 s17 wx => ∃ (i m s : Nat), i ≤ M ∧ s17 = .int .i64 i ∧ s5 = .int .i64 m ∧ Hid (m = offR R i + 0) ∧ Hid (MapN wx mb m (fK R i 0) s) ∧ Hid (szOk R.flatten (offR R i + 0) s) ∧ Hid (Below w.heap.size w wx)) (fun _ s17 _ => M - (intOf s17).toNat)
  case atStart => exact ⟨0, 0, 0, Nat.zero_le _, rfl, rfl, rfl, HM0.out, HS0.out, HB0.out⟩
  case round =>
    clear HM0 HB0 HS0
    obtain ⟨i, m, s, hiM, rfl, rfl, HMO, HMN, HSZ, HBI⟩ := hrel
    by_cases hlt : i < M
    · have i3 : (i : Int) < (M : Int) := by omega
      have hiR : i < R.length := by rw [← HMM.out]; exact hlt
      obtain ⟨ad, A', c', rfl, had, hc0, hsg⟩ := HRW.out i hiR
      have hc := (HBI.out.cell (p := ad.add i) (by rw [add_block]; exact had)).trans hc0
      clear hc0 had
      have hwf := HWF.out i hiR
      obtain ⟨r, hr⟩ : ∃ r, r = R[i] := ⟨_, rfl⟩
      rw [← hr] at hc hsg hwf
      have HSG := Lib.hid hsg
      have HWR := Lib.hid hwf
      have HRI : Hid (∃ h : i < R.length, R[i] = r) := ⟨hiR, hr.symm⟩
      have HLE : Hid (offR R i + r.length ≤ R.flatten.length) := by rw [hr]; exact offR_le R hiR
      have uk : Hid (wrap64 ((i : Int) + 1) = ((i + 1 : Nat) : Int)) := by have := HM.out.1; have := HMM.out; unfold Hid wrap64; omega
      have HI := Lib.hid hlt
      obtain ⟨L, hL⟩ : ∃ L, L = r.length := ⟨_, rfl⟩
      rw [← hL] at hc
      have HLL := Lib.hid hL
      clear hr hsg hiR hlt hiM hL hwf
      go_wp2_with fail
      clear hc
      go_loopw [5, 23] (fun s5 s23 wx => ∃ (j m s : Nat), j ≤ L ∧ s23 = .int .i64 j ∧ s5 = .int .i64 m ∧ Hid (m = offR R i + j) ∧ Hid (MapN wx mb m (fK R i j) s) ∧ Hid (szOk R.flatten (offR R i + j) s) ∧ Hid (Below w.heap.size w wx)) (fun _ s23 _ => L - (intOf s23).toNat)
      case atStart => exact ⟨0, m, s, Nat.zero_le _, rfl, rfl, HMO.out, HMN.out, HSZ.out, HBI.out⟩
      case round =>
        clear HMO HMN HSZ HBI
        obtain ⟨j, m, s, hjL, rfl, rfl, HMO, HMN, HSZ, HBJ⟩ := hrel
        by_cases hlj : j < L
        · have i4 : (j : Int) < (L : Int) := by omega
          have hjr : j < r.length := by rw [← HLL.out]; exact hlj
          have h0r : 0 < r.length := by omega
          obtain ⟨ad2, rfl, _, hcz⟩ := (HSG.out.below HBJ.out).pat hjr
          obtain ⟨ad3, e3, _, hc0⟩ := (HSG.out.below HBJ.out).pat h0r
          injection e3 with e3
          subst e3
          rw [show ad2.add 0 = ad2 by simp [Addr.add]] at hc0
          obtain ⟨hiR, hRr⟩ := HRI.out
          have hjR : j < (R[i]).length := by rw [hRr]; exact hjr
          have hz0 : pat R[i] j = pat r j := by rw [hRr]
          have hzf : pat R.flatten (offR R i + j) = pat r j := by rw [pat_flat R hiR hjR, hz0]
          have hwz := HWR.out j hjr
          obtain ⟨z, hz⟩ : ∃ z, z = pat r j := ⟨_, rfl⟩
          rw [← hz] at hcz hz0 hzf hwz
          have hle := HLE.out
          have hff := HM.out.2
          have hsz2 := szOk_step (l := R.flatten) (m := offR R i + j) (by omega) hzf HSZ.out
          rw [← fK_some R hiR (Nat.le_of_lt hjR) z] at hsz2
          have HSZ2 := Lib.hid hsz2
          have HWZ := Lib.hid hwz
          obtain ⟨m1, hm1⟩ : ∃ m1, m1 = m + 1 := ⟨_, rfl⟩
          have hmb2 := HMO.out
          have HMX : Hid (m < maxLen) := by unfold Hid maxLen; omega
          have q1 : m1 ≤ 4000000000 := by omega
          obtain ⟨j1, hj1⟩ : ∃ j1, j1 = j + 1 := ⟨_, rfl⟩
          have q2 : j1 ≤ 4000000000 := by omega
          have HJ1 : Hid (j1 = j + 1 ∧ j < L ∧ m1 = m + 1 ∧ m1 = offR R i + (j + 1)) := ⟨hj1, hlj, hm1, by omega⟩
          have h0L : (0 : Nat) < L := by omega
          have k1 : (m : Int) + 1 = (m1 : Int) := by omega
          have k3 : (j : Int) + 1 = (j1 : Int) := by omega
          have HK2 := Lib.hid (wsmall q1)
          have HK4 := Lib.hid (wsmall q2)
          clear q1 q2
          by_cases hnx : j1 < L
          · have i5 : (j1 : Int) < (L : Int) := by omega
            have hj1r : j1 < r.length := by rw [← HLL.out]; exact hnx
            obtain ⟨ad4, e4, _, hc1⟩ := (HSG.out.below HBJ.out).pat hj1r
            injection e4 with e4
            subst e4
            have hv : pat R[i] ((j + 1) % (R[i]).length) = pat r j1 := by rw [hRr, ← hj1, Nat.mod_eq_of_lt hj1r]
            have hwv := HWR.out j1 hj1r
            obtain ⟨v, hvv⟩ : ∃ v, v = pat r j1 := ⟨_, rfl⟩
            rw [← hvv] at hc1 hv hwv
            have HFS := Lib.hid (fun y => fK_step R hiR hjR hz0 hv y)
            have HWV := Lib.hid hwv
            obtain ⟨zz, hzz⟩ : ∃ zz, zz = pat r 0 := ⟨_, rfl⟩
            rw [← hzz] at hc0
            clear hv hvv hwv hj1r hnx hzf hz hz0 hjR hRr hiR hjr h0r hlj hjL hle hff hsz2 hwz hmb2 hm1 hj1 hzz
            have k2 := HK2.out
            have k4 := HK4.out
            go_wp2_with (first
              | (at_mapUpdate; go_must (refine wpList_mapn_store _ rfl _ _ _ _ rfl Try.underlying84 mb m s _ rfl HMN.out HMX.out z v rfl rfl HWZ.out HWV.out ?_); intro w5 hm5 hg5
                 have HB5 : Hid (Below w.heap.size w w5) := HBJ.out.grown hg5.out HBJ.out.size (fun k e => by injection e with e; have := HMB.out; omega)
                 have HM5 : Hid (MapN w5 mb (m + 1) (fK R i (j + 1)) (if (fK R i j z).isSome = true then s else s + 1)) := by unfold Hid; rw [show fK R i (j + 1) = fun y => if y = z then some v else fK R i j y from funext HFS.out]; exact hm5.out
                 clear hm5 hg5)
              | fail)
            clear k2 k4
            go_roundw
            case rel => exact ⟨j + 1, m + 1, _, HJ1.out.2.1, by first | rfl | rw [HK4.out, HJ1.out.1] | rw [HJ1.out.1], by first | rfl | rw [HK2.out, HJ1.out.2.2.1] | rw [HJ1.out.2.2.1], by have := HJ1.out; unfold Hid; omega, HM5.out, HSZ2.out, HB5.out⟩
            case measure => (try rw [HK4.out]); have := HJ1.out; simp [intOf]; omega
          · have i5 : ¬ (j1 : Int) < (L : Int) := by omega
            have hv : pat R[i] ((j + 1) % (R[i]).length) = pat r 0 := by rw [hRr, ← hj1, show j1 = r.length by rw [← HLL.out]; omega, Nat.mod_self]
            have hwv := HWR.out 0 h0r
            obtain ⟨v, hvv⟩ : ∃ v, v = pat r 0 := ⟨_, rfl⟩
            rw [← hvv] at hc0 hv hwv
            have HFS := Lib.hid (fun y => fK_step R hiR hjR hz0 hv y)
            have HWV := Lib.hid hwv
            clear hv hvv hwv hnx hzf hz hz0 hjR hRr hiR hjr h0r hlj hjL hle hff hsz2 hwz hmb2 hm1 hj1
            have k2 := HK2.out
            have k4 := HK4.out
            go_wp2_with (first
              | (at_mapUpdate; go_must (refine wpList_mapn_store _ rfl _ _ _ _ rfl Try.underlying84 mb m s _ rfl HMN.out HMX.out z v rfl rfl HWZ.out HWV.out ?_); intro w5 hm5 hg5
                 have HB5 : Hid (Below w.heap.size w w5) := HBJ.out.grown hg5.out HBJ.out.size (fun k e => by injection e with e; have := HMB.out; omega)
                 have HM5 : Hid (MapN w5 mb (m + 1) (fK R i (j + 1)) (if (fK R i j z).isSome = true then s else s + 1)) := by unfold Hid; rw [show fK R i (j + 1) = fun y => if y = z then some v else fK R i j y from funext HFS.out]; exact hm5.out
                 clear hm5 hg5)
              | fail)
            clear k2 k4
            go_roundw
            case rel => exact ⟨j + 1, m + 1, _, HJ1.out.2.1, by first | rfl | rw [HK4.out, HJ1.out.1] | rw [HJ1.out.1], by first | rfl | rw [HK2.out, HJ1.out.2.2.1] | rw [HJ1.out.2.2.1], by have := HJ1.out; unfold Hid; omega, HM5.out, HSZ2.out, HB5.out⟩
            case measure => (try rw [HK4.out]); have := HJ1.out; simp [intOf]; omega
        · have hje : j = L := by omega
          have i4 : ¬ (j : Int) < (L : Int) := by omega
          obtain ⟨hiR, hRr⟩ := HRI.out
          have hLr : j = (R[i]).length := by rw [hje, HLL.out, hRr]
          have HME : Hid (m = offR R (i + 1) + 0) := by unfold Hid; rw [HMO.out, hLr, offR_step R hiR]; rfl
          have HNE : Hid (MapN wr mb m (fK R (i + 1) 0) s) := by
            have h := HMN.out
            rw [hLr, show fK R i (R[i]).length = fK R (i + 1) 0 from funext (fK_end R hiR)] at h
            exact h
          have HSE : Hid (szOk R.flatten (offR R (i + 1) + 0) s) := by
            have h := HSZ.out
            rw [hLr, ← offR_step R hiR] at h
            exact h
          clear hLr hje hlj hjL hRr
          clear hiR
          go_wp2_with fail
          go_roundw
          case rel => exact ⟨i + 1, m, s, HI.out, by first | rfl | rw [uk.out], rfl, HME.out, HNE.out, HSE.out, HBJ.out⟩
          case measure => (try rw [uk.out]); have := HI.out; simp [intOf]; omega
    · have hie : i = M := by omega
      have i3 : ¬ (i : Int) < (M : Int) := by omega
      have hmf : m = R.flatten.length := by rw [HMO.out, hie, HMM.out, offR_all]; rfl
      have hsz := HSZ.out
      rw [hie, HMM.out, offR_all] at hsz
      have hsz2 : s ≤ R.flatten.length ∧ (s = R.flatten.length ↔ R.flatten.Nodup) := by
        have h : szOk R.flatten R.flatten.length s := hsz
        unfold szOk at h
        rw [List.take_length] at h
        exact h
      have hmn : MapN wr mb m (fK R R.length 0) s := by
        have h := HMN.out
        rw [hie, HMM.out] at h
        exact h
      have HFN := Lib.hid (fun (y : Int) => fK_all R y)
      have hlen := hmn.len Try.underlying84
      have HMN2 := Lib.hid hmn
      have HMF := Lib.hid hmf
      have HSZ2 := Lib.hid hsz2
      by_cases h20 : 20 < m
      · have i2 : (20 : Int) < (m : Int) := by omega
        have HNO : Hid (res = ([], 1)) := by unfold Hid; rw [HRES.out]; exact backR_long (by rw [← hmf]; exact h20)
        clear hsz hsz2 hmn hmf hie hlt hiM h20
        go_wp2_with fail
        go_ret2
        rw [HNO.out]
        exact SOut.nil_ HBI.out
      · have i2 : ¬ (20 : Int) < (m : Int) := by omega
        have HM20 : Hid (m ≤ 20) := by unfold Hid; omega
        by_cases hsm : s = m
        · have b1 : ((s : Int) != (m : Int)) = false := by rw [hsm]; simp
          have HND : Hid (R.flatten.Nodup) := hsz2.2.1 (by rw [hsm, hmf])
          clear hsz hsz2 hmn hmf hie hlt hiM h20 hsm
          obtain ⟨wo, rfl⟩ : ∃ wo, wo = wr := ⟨_, rfl⟩
          go_wp2_with fail
          clear b1 hlen
          go_loopw [10, 58] (fun s10 s58 wx => ∃ k : Nat, k ≤ m ∧ s58 = .int .i64 k ∧ Hid (∀ x, x < k → (x : Int) ∈ R.flatten) ∧ Hid (Own wx wo.heap.size 3 s10 ((tab (fun (x : Nat) => lkp (prs R) (x : Int)) k).map (.int .i64))) ∧ Hid (Below wo.heap.size wo wx)) (fun _ s58 _ => m - (intOf s58).toNat)
          case atStart => exact ⟨0, Nat.zero_le _, rfl, fun x hx => absurd hx (Nat.not_lt_zero x), Own.none_, Below.refl _ _⟩
          case round =>
            obtain ⟨k, hkm, rfl, HALL, HOW, HBW⟩ := hrel
            by_cases hlt : k < m
            · have i1 : (k : Int) < (m : Int) := by omega
              have HK := Lib.hid hlt
              have hwk : (Lit.int .i64 (k : Int)).wf = true := WalkArith.wf_i64 (by have := HM20.out; omega)
              have hlk := ((HMN2.out.below HBW.out HMN2.out.lt).k).look_ok Try.underlying84 hwk
              rw [HFN.out] at hlk
              have uk : Hid (wrap64 ((k : Int) + 1) = ((k + 1 : Nat) : Int)) := rw20 (by have := HM20.out; omega)
              have HBE : Hid (Below w.heap.size w wr) := HBI.out.trans (HBW.out.mono HBI.out.size)
              by_cases hin : (k : Int) ∈ R.flatten
              · rw [if_pos hin] at hlk
                simp only [Option.isSome, Option.getD] at hlk
                obtain ⟨v, hv⟩ : ∃ v, v = lkp (prs R) (k : Int) := ⟨_, rfl⟩
                rw [← hv] at hlk
                have HST : Hid ((tab (fun (x : Nat) => lkp (prs R) (x : Int)) (k + 1)).map (Value.int .i64) = (tab (fun (x : Nat) => lkp (prs R) (x : Int)) k).map (.int .i64) ++ [.int .i64 v]) := by
                  unfold Hid tab; rw [List.range_succ, List.map_append, List.map_append, hv]; rfl
                have HA2 : Hid (∀ x, x < k + 1 → (x : Int) ∈ R.flatten) := fun x hx => by
                  by_cases e : x = k
                  · subst e; exact hin
                  · exact HALL.out x (by omega)
                have HNL : Hid ((((tab (fun (x : Nat) => lkp (prs R) (x : Int)) k).map (Value.int .i64)).length + 1) * 8 ≤ 140737488355328 ∧ ((tab (fun (x : Nat) => lkp (prs R) (x : Int)) k).map (Value.int .i64)).length + 1 ≤ maxLen) := by
                  have h2 := HM20.out
                  unfold Hid maxLen
                  rw [List.length_map, tab_len]
                  omega
                have HSZ3 : Hid (wo.heap.size ≤ (wr.alloc (.cells #[.int .i64 v] 3)).heap.size) := by have := HBW.out.size; unfold Hid; simp; omega
                clear hin hv hlt hkm hwk
                go_wp2_with (first
                  | (at_builtin; go_must (refine wpList_pushY _ rfl _ _ 36 3 8 elem_ints rfl wo.heap.size _ _ rfl (Own.alloc' HOW.out _) (.int .i64 v) _ _ rfl (cell_new1 _ _ _) rfl HNL.out.1 HNL.out.2 HSZ3.out ?_); intro v9 w9 hown9 hgr9
                     have HB9 : Hid (Below wo.heap.size wo w9) := (HBW.out.alloc HBW.out.size _).trans ((Below.refl _ _).grown hgr9 HSZ3.out (Own.alloc' HOW.out (.cells #[.int .i64 v] 3)).block)
                     rw [← HST.out] at hown9
                     have HO9 := Lib.hid hown9
                     clear hown9 hgr9)
                  | fail)
                go_roundw
                case rel => exact ⟨k + 1, HK.out, by first | rfl | rw [uk.out], HA2.out, HO9.out, HB9.out⟩
                case measure => (try rw [uk.out]); have := HK.out; simp [intOf]; omega
              · rw [if_neg hin] at hlk
                simp only [Option.isSome, Option.getD] at hlk
                have HNO : Hid (res = ([], 1)) := by unfold Hid; rw [HRES.out]; exact backR_miss (by rw [← HMF.out]; exact HK.out) hin
                clear hin hlt hkm hwk
                go_wp2_with fail
                go_ret2
                rw [HNO.out]
                exact SOut.nil_ HBE.out
            · have hke : k = m := by omega
              have i1 : ¬ (k : Int) < (m : Int) := by omega
              have HYES : Hid (res = (outR R, 0)) := by
                unfold Hid; rw [HRES.out]
                exact backR_all (by rw [← HMF.out]; exact HM20.out) HND.out (fun x hx => HALL.out x (by rw [hke, HMF.out]; exact hx))
              have HOE : Hid (Own wr wo.heap.size 3 u10 ((outR R).map (.int .i64))) := by
                have h := HOW.out
                rw [hke, HMF.out] at h
                exact h
              have HBE : Hid (Below w.heap.size w wr) := HBI.out.trans (HBW.out.mono HBI.out.size)
              clear hke hlt hkm
              go_wp2_with fail
              go_ret2
              rw [HYES.out]
              obtain ⟨A9, c9, e9, h9, h10⟩ := HOE.out.res
              rw [List.length_map] at e9 h9
              exact ⟨A9, c9, by rw [← e9]; rfl, h9, h10, HBE.out⟩
        · have b1 : ((s : Int) != (m : Int)) = true := by rw [bne_iff_ne]; omega
          have HNO : Hid (res = ([], 1)) := by
            unfold Hid; rw [HRES.out]
            exact backR_dup (fun h => hsm (by rw [hsz2.2.2 h, hmf]))
          clear hsz hsz2 hmn hmf hie hlt hiM h20 hsm
          go_wp2_with fail
          go_ret2
          rw [HNO.out]
          exact SOut.nil_ HBI.out
end Go.Proofs.Ytkffakekakhgdaa
