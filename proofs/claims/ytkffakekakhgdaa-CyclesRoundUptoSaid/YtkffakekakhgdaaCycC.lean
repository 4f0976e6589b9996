/- cycles.Odd and cycles.Times, walked. No condition but the list's own size. -/
import Derived.Test.YtkffakekakhgdaaCycB
import Derived.BigQuiet
import Derived.IntWalk
namespace Go.Proofs.Ytkffakekakhgdaa
open Go.ChangeShapes Go.WideShapes Go.ChangeAt Go.RowKit
set_option linter.unusedVariables false

theorem RowsO.at_ {W : World} {base m c : Nat} {A : Option Addr} {R : List (List Int)} (h : RowsO W base (.slice A m c) R) {k : Nat} (hk : k < R.length) :
    ∃ ad A' c', A = some ad ∧ W.cell? (ad.add k) = some (.slice A' (R[k]).length c') ∧ Own W base 3 (.slice A' (R[k]).length c') ((R[k]).map (.int .i64)) := by
  obtain ⟨vals, h1, h2, h3⟩ := h
  have hkv : k < vals.length := by omega
  have hu : vals[k]? = some vals[k] := List.getElem?_eq_getElem hkv
  have hr : R[k]? = some R[k] := List.getElem?_eq_getElem hk
  have ho := h3 k _ _ hu hr
  obtain ⟨A2, c2, e2, _, hs⟩ := h1.res
  obtain ⟨ad, e3, _, hc⟩ := hs.get hu
  obtain ⟨A', c', e4⟩ := own_slice ho
  rw [List.length_map] at e4
  injection e2 with e5 _ _
  refine ⟨ad, A', c', by rw [e5, e3], by rw [hc, e4], by rw [← e4]; exact ho⟩
theorem ofR_len (p : List Int) : (ofR p).length ≤ p.length := by
  unfold ofR
  rw [List.length_map]
  exact ofs_len _ _ _
/-- Odd or even, by rounds. -/
def oddR (p : List Int) : Bool := decide ((p.length - (ofR p).length) % 2 = 1)
set_option maxRecDepth 20000 in
set_option maxHeartbeats 4000000 in
theorem odd_bad (p : List Int) (A : Option Addr) (c : Nat) (w : World) (hs : Seg w w.heap.size A (p.map (.int .i64))) (hm : p.length ≤ 9223372036854775807) (hp : permB p = false) :
    Calls Try.prog 30 #[.slice A p.length c] w fun e w' => e = .returned (.tuple #[.bool false, .int .i64 1]) ∧ Below w.heap.size w w' := by
  have HO := Lib.hid (of_bad p A c w hs hm hp)
  obtain ⟨n, hn⟩ : ∃ n, n = p.length := ⟨_, rfl⟩
  rw [← hn] at HO hm ⊢
  have u1 : wrap64 (n : Int) = (n : Int) := by unfold wrap64; omega
  clear hs hn hp hm
  go_enter Try.func30, Try.ntmps30
  go_wp2_with fail
  refine HO.out.mono ?_
  rintro e w1 ⟨rfl, hb⟩
  have HB := Lib.hid hb
  clear hb
  go_wp2_with fail
  all_goals
    go_ret2
    exact ⟨rfl, HB.out⟩
set_option maxRecDepth 20000 in
set_option maxHeartbeats 4000000 in
theorem odd_good (p : List Int) (A : Option Addr) (c : Nat) (w : World) (hs : Seg w w.heap.size A (p.map (.int .i64))) (hp : permB p = true) :
    Calls Try.prog 30 #[.slice A p.length c] w fun e w' => e = .returned (.tuple #[.bool (oddR p), .int .i64 0]) ∧ Below w.heap.size w w' := by
  have HO := Lib.hid (of_any p A c w hs hp)
  have h20 := permB_len hp
  have hM := ofR_len p
  obtain ⟨o, ho⟩ : ∃ o, o = oddR p := ⟨_, rfl⟩
  rw [← ho]
  unfold oddR at ho
  obtain ⟨n, hn⟩ : ∃ n, n = p.length := ⟨_, rfl⟩
  obtain ⟨M, hMM⟩ : ∃ M, M = (ofR p).length := ⟨_, rfl⟩
  rw [← hMM] at HO ho hM
  rw [← hn] at HO ho hM h20 ⊢
  obtain ⟨D, hD⟩ : ∃ D, D = n - M := ⟨_, rfl⟩
  have u1 : (n : Int) - (M : Int) = (D : Int) := by omega
  have u2 : wrap64 (D : Int) = (D : Int) := by unfold wrap64; omega
  have hmod : (D : Int) % 2 = ((D % 2 : Nat) : Int) := by omega
  rw [← hD] at ho
  clear hs hn hp hMM hM h20 hD
  by_cases hz0 : D % 2 = 1
  · have b1 : ((D : Int) % 2 != 0) = true := by rw [hmod, hz0]; rfl
    have hO : Hid (o = true) := by unfold Hid; rw [ho]; exact decide_eq_true hz0
    clear hmod hz0 ho
    go_enter Try.func30, Try.ntmps30
    go_wp2_with fail
    refine HO.out.mono ?_
    rintro e w1 ⟨A1, c1, rfl, hr, hb⟩
    have HB := Lib.hid hb
    clear hb hr
    go_wp2_with fail
    go_ret2
    exact ⟨by rw [hO.out]; rfl, HB.out⟩
  · have b1 : ((D : Int) % 2 != 0) = false := by rw [hmod, show D % 2 = 0 by omega]; rfl
    have hO : Hid (o = false) := by unfold Hid; rw [ho]; exact decide_eq_false hz0
    clear hmod hz0 ho
    go_enter Try.func30, Try.ntmps30
    go_wp2_with fail
    refine HO.out.mono ?_
    rintro e w1 ⟨A1, c1, rfl, hr, hb⟩
    have HB := Lib.hid hb
    clear hb hr
    go_wp2_with fail
    go_ret2
    exact ⟨by rw [hO.out]; rfl, HB.out⟩
end Go.Proofs.Ytkffakekakhgdaa
