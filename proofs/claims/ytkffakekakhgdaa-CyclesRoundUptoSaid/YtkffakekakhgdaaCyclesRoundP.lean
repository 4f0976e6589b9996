/- The statement CyclesRoundUptoSaid: for every input of bulk at most 1048576 the law's function returns true and each argument reads as before. No other condition. -/
import Derived.Test.YtkffakekakhgdaaCycP
import Derived.OpenShut
import Derived.JoinedCond
namespace Go.Proofs.Ytkffakekakhgdaa.lawCyclesRound
open Go.ChangeShapes Go.WideShapes Go.ChangeAt Go.RowKit
set_option linter.unusedVariables false

theorem back_len (R : List (List Int)) : (backR R).1.length ≤ R.flatten.length := by
  unfold backR
  split
  · exact Nat.le_of_eq (outR_len R)
  · exact Nat.zero_le _
theorem CyclesRound_walk {H : Type} {d0 d1 : DataW H} (A : Option Addr) (z : List Int) (c : Nat) (x : RowsX) (W : World) (hc : z.length ≤ c) (hm : c ≤ maxLen) (hs : Seg W W.heap.size A (z.map (.int .i64))) (hu : RowsU W d1 x)
    (hk : Rows.uptoSmall H ([d0, d1] ++ []) = true) :
    Calls Try.prog 5 #[.slice A z.length c, RowsV x] W fun e w' => e = .returned (.bool true) ∧ Below W.heap.size W w' := by
  have h := of_decide_eq_true hk
  simp only [List.append_nil, Rows.uptoBulkAll] at h
  obtain ⟨D, l, d⟩ := x
  obtain ⟨k1, k2, k3⟩ := hu
  have hR := k1.toR
  have e : (nums l).length = l.length := by simp [nums]
  have hb := back_len (nums l)
  have hw : ∀ r ∈ nums l, ∀ n ∈ r, (Lit.int .i64 n).wf = true := fun r hr => by
    obtain ⟨y, hy, rfl⟩ := List.mem_map.1 hr
    exact (k1.2 y hy).2.2.2
  have hz : z.length ≤ 9223372036854775807 := Nat.le_trans hc (Nat.le_trans hm (by decide))
  simp only at k2 k3
  show Calls Try.prog _ #[.slice A z.length c, .slice D l.length d] W _
  rw [← e]
  cases hp : permB z with
  | false => exact cr_bad z (nums l) A D c d W hs hR hz (by omega) (by omega) hw (by omega) hp
  | true => exact cr_good z (nums l) A D c d W hs hR (by omega) (by omega) hw (by omega) hp

set_option maxRecDepth 100000 in
theorem lifted (os : Os) (started : os.Started) (H : Type) (enc : TypeId × Value → H) (F : Stop.Interp) :
    ReturnsInHanded {} Try.checked os 5 .any ((Rows.OpenSpec.upto Rows.cyclesRoundSpec).pre6 enc Try.prog Try.f5 Rows.cyclesRoundUptoRow.domain false) (((Rows.OpenSpec.upto Rows.cyclesRoundSpec).at F).post enc Try.prog Try.f5 false true false false) := by
  refine returnsInHanded_of_cond (C := Try.checked) (s := Rows.OpenSpec.upto Rows.cyclesRoundSpec) (k := Rows.uptoSmall) rfl own started (by kernel_rfl) Try.func5
    (OpenSpec.witness (enc := enc) (C := Try.checked) (s := Rows.OpenSpec.upto Rows.cyclesRoundSpec) (k := Rows.uptoSmall) rfl false ⟨#[], #[.slice none 0 0, .slice none 0 0], []⟩ 8 (by kernel_rfl) (by kernel_rfl) (by kernel_rfl)
      (x := ([.nil, .nil], [], [])) (by kernel_rfl) rfl (by kernel_rfl)) ?_
  intro W base args ds gs before hval0 hW _ hk _
  have hval : ∀ (j : Nat) t v, Try.f5.params[j]? = some t → args[j]? = some v → Value.okWide Try.prog W .any base t v := hval0
  have hW' := hW
  obtain ⟨p, q, hA0, hV, rfl, hfz, hnd⟩ := hW
  have hA : DataW.TrodAll enc Try.prog W 0 (fun _ => true) true Try.f5.params.toList args.toList ds p := hA0
  rw [Try.params5] at hA hval
  obtain ⟨v0, vs0, d0, ds0, p0, q0, hargs, rfl, rfl, h0, r0⟩ := trodAll_cons hA
  obtain ⟨v1, vs1, d1, ds1, p1, q1, rfl, rfl, rfl, h1, r1⟩ := trodAll_cons r0
  obtain ⟨rfl, rfl, rfl⟩ := trodAll_nil r1
  obtain rfl : args = #[v0, v1] := by cases args; simp_all
  obtain ⟨rfl, rfl⟩ := trodVars_none hV
  have k0 := h0
  have lt0 : ∀ x ∈ p0, x.block < W.heap.size := by obtain ⟨m, hm⟩ := k0; exact DataW.trod_lt m _ _ _ hm
  obtain ⟨A0, z0, c0, rfl, hc0, hm0, hw0, s0⟩ := open_seg_ints Try.underlying36 Try.underlying3 (by kernel_rfl) h0 (okWide_slice Try.underlying36 (hval 0 36 v0 rfl rfl))
  have k1 := h1
  have lt1 : ∀ x ∈ p1, x.block < W.heap.size := by obtain ⟨m, hm⟩ := k1; exact DataW.trod_lt m _ _ _ hm
  obtain ⟨x1, rfl, s1⟩ := open_rowsU h1 (hval 1 35 v1 rfl rfl)
  clear hA0 hval0
  refine (CyclesRound_walk A0 z0 c0 x1 W hc0 hm0 s0 s1 hk).mono fun e W' ⟨he, bel⟩ => ?_
  subst he
  exact ⟨_, rfl, _, _, _, [], _, [], hW', trodAll_mk1 (shut_bool Try.underlying4 _), (trodAll_cons_mk (Below.trod laidOut (by kernel_rfl) (of_decide_eq_true (by kernel_rfl)) k0 bel lt0) (trodAll_cons_mk (Below.trod laidOut (by kernel_rfl) (of_decide_eq_true (by kernel_rfl)) k1 bel lt1) trodAll_mk0)), rfl, bel.frame _, fun h => by cases h⟩

theorem over : Rows.cyclesRoundUptoRow.holds Try.pinned (Rows.OpenSpec.upto Rows.cyclesRoundSpec) :=
  OpenClaim.holds_of_cond 5 Try.f5 rfl rfl rfl rfl rfl rfl rfl ⟨rfl, rfl, rfl, rfl, rfl⟩ rfl rfl rfl rfl rfl (by kernel_rfl) Try.func5 (by kernel_rfl)
    (of_decide_eq_true (by kernel_rfl)) (by unfold Func.isWrapper; first | (rw [if_pos (by decide +kernel)]; kernel_rfl) | (rw [if_neg (by decide +kernel)]; exact ⟨rfl, rfl⟩))
    (fun os started H enc _ F => lifted os started H enc F)

theorem proved : Rows.CyclesRoundUptoSaid := over
#print axioms proved
end Go.Proofs.Ytkffakekakhgdaa.lawCyclesRound
