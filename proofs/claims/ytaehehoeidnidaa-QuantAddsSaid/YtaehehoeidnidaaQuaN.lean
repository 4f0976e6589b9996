/- The reference: OAdd, walked, where it says no; what its loops hold. No condition but the list's own length. -/
import Derived.Test.YtaehehoeidnidaaQuaB
import Derived.Test.YtaehehoeidnidaaQuaS
import Derived.Test.YtaehehoeidnidaaQuaA
import Derived.Test.YtaehehoeidnidaaQuaG
import Derived.Test.YtaehehoeidnidaaQuaI
import Derived.Laws.AppendOwnNone
namespace Go.Proofs.Ytaehehoeidnidaa
open Go.ChangeShapes Go.WideShapes Go.ChangeAt Go.RowKit
set_option linter.unusedVariables false

set_option maxRecDepth 20000 in
set_option maxHeartbeats 4000000 in
theorem oadd_bad (parts : Int) (A : Option Addr) (ps : List Rk) (c : Nat) (x : Int) (w : World) (hs : Seg w w.heap.size A (flat3 ps)) (hm : ps.length ≤ 9223372036854775807) (hq : ¬ QOk parts ps) :
    Calls Try.prog 83 #[.int .i64 parts, .slice A ps.length c, .int .i64 x] w (KOut w.heap.size (qaddR parts ps x) w) := by
  have HS := Lib.hid hs
  have HM := Lib.hid hm
  have HQ := Lib.hid (qokF hq)
  have HF : Hid (qaddR parts ps x = ([], 1)) := by unfold Hid qaddR; rw [if_pos (qokF hq)]
  clear hs hm hq
  go_enter Try.func83, Try.ntmps83
  go_wp2_with fail
  refine (oright_any parts A ps c _ HS.out HM.out).mono ?_
  rintro e w1 ⟨rfl, hb⟩
  rw [HQ.out]
  have HB := Lib.hid hb
  clear hb
  go_wp2_with fail
  go_ret2
  exact ⟨_, by rw [HF.out]; rfl, by rw [HF.out]; exact Own3.none_, HB.out⟩
set_option maxRecDepth 20000 in
set_option maxHeartbeats 4000000 in
theorem oadd_full (parts : Int) (A : Option Addr) (ps : List Rk) (c : Nat) (x : Int) (w : World) (hs : Seg w w.heap.size A (flat3 ps)) (hm : ps.length ≤ 9223372036854775807) (hq : QOk parts ps) (hf : ps.length = 400 ∨ qsum ps = 1099511627776) :
    Calls Try.prog 83 #[.int .i64 parts, .slice A ps.length c, .int .i64 x] w (KOut w.heap.size (qaddR parts ps x) w) := by
  have HS := Lib.hid hs
  have HM := Lib.hid hm
  have HQ := Lib.hid (qokT hq)
  have HOK := Lib.hid hq
  have HF : Hid (qaddR parts ps x = ([], 4)) := by unfold Hid qaddR; rw [if_neg (by rw [qokT hq]; simp), if_pos hf]
  by_cases h4 : ps.length = 400
  · have b1 : decide (399 < (ps.length : Int)) = true := decide_eq_true (by omega)
    have b2 : decide (399 < ps.length) = true := decide_eq_true (by omega)
    clear hs hm hq hf h4
    go_enter Try.func83, Try.ntmps83
    go_wp2_with fail
    refine (oright_any parts A ps c _ HS.out HM.out).mono ?_
    rintro e w1 ⟨rfl, hb⟩
    rw [HQ.out]
    have HB := Lib.hid hb
    clear hb
    go_wp2_with fail
    go_ret2
    exact ⟨_, by rw [HF.out]; rfl, by rw [HF.out]; exact Own3.none_, HB.out⟩
  · have b1 : decide (399 < (ps.length : Int)) = false := decide_eq_false (by have := hq.len; omega)
    have b2 : decide (399 < ps.length) = false := decide_eq_false (by have := hq.len; omega)
    have h5 : qsum ps = 1099511627776 := by rcases hf with h | h; exact absurd h h4; exact h
    have HS5 := Lib.hid h5
    clear hs hm hq hf h4 h5
    go_enter Try.func83, Try.ntmps83
    go_wp2_with fail
    refine (oright_any parts A ps c _ HS.out HM.out).mono ?_
    rintro e w1 ⟨rfl, hb⟩
    rw [HQ.out]
    have HB := Lib.hid hb
    clear hb
    go_wp2_with fail
    refine (oall_any A ps c _ ((HS.out.below HB.out).more HB.out.size) HOK.out.len HOK.out.one).mono ?_
    rintro e w2 ⟨rfl, hb⟩
    rw [HS5.out]
    have HB2 := Lib.hid hb
    clear hb
    go_wp2_with fail
    go_ret2
    exact ⟨_, by rw [HF.out]; rfl, by rw [HF.out]; exact Own3.none_, HB.out.trans (HB2.out.mono HB.out.size)⟩

def lowP (x : Int) (l : List Rk) : List Rk := l.filter fun r => decide (r.1 ≤ x)
def highP (x : Int) (l : List Rk) : List Rk := l.filter fun r => decide (x < r.1)
theorem lowP_len (x : Int) (l : List Rk) : (lowP x l).length ≤ l.length := List.length_filter_le _ _
theorem highP_len (x : Int) (l : List Rk) : (highP x l).length ≤ l.length := List.length_filter_le _ _
theorem take_kat {ps : List Rk} {k : Nat} (h : k < ps.length) : ps.take (k + 1) = ps.take k ++ [kat ps k] := by rw [List.take_succ_eq_append_getElem h, kat_get h]
theorem lowP_in {x : Int} {ps : List Rk} {k : Nat} (h : k < ps.length) (hc : (kat ps k).1 ≤ x) : lowP x (ps.take (k + 1)) = lowP x (ps.take k) ++ [kat ps k] ∧ highP x (ps.take (k + 1)) = highP x (ps.take k) := by
  have h2 : ¬ x < (kat ps k).1 := by omega
  rw [take_kat h]
  unfold lowP highP
  rw [List.filter_append, List.filter_append]
  simp [hc, h2]
theorem highP_in {x : Int} {ps : List Rk} {k : Nat} (h : k < ps.length) (hc : ¬ (kat ps k).1 ≤ x) : lowP x (ps.take (k + 1)) = lowP x (ps.take k) ∧ highP x (ps.take (k + 1)) = highP x (ps.take k) ++ [kat ps k] := by
  have h2 : x < (kat ps k).1 := by omega
  rw [take_kat h]
  unfold lowP highP
  rw [List.filter_append, List.filter_append]
  simp [hc, h2]
theorem low_high {parts : Int} {ps : List Rk} (h : QOk parts ps) (x : Int) : lowP x ps = qlow ps x ∧ highP x ps = qhigh ps x := q_split (q_pair h.one)
theorem low_high_len (x : Int) (l : List Rk) : (lowP x l).length + (highP x l).length = l.length := by
  induction l with
  | nil => rfl
  | cons r l ih =>
    unfold lowP highP at ih ⊢
    by_cases c : r.1 ≤ x
    · have c' : ¬ x < r.1 := by omega
      simp [c, c']; omega
    · have c' : x < r.1 := by omega
      simp [c, c']; omega
/-- Two own slices, one pushed. -/
theorem push_two {B : Nat} {w0 w wa w' : World} {v u v' : Value} {ps qs : List Rk} (hb : Below B w0 w) (hB : B ≤ w.heap.size) (hv : Own3 w B v ps) (hu : Own3 w B u qs) (ha : Apart v u) (hwa : Below w.heap.size w wa)
    (hg : wa.grownBy w' v.ownBlock) (hm : ∀ k, v'.ownBlock = some k → v.ownBlock = some k ∨ wa.heap.size ≤ k) : Own3 w' B u qs ∧ Apart v' u ∧ Below B w0 w' := by
  have hu2 := hu.below hwa (Nat.le_refl _)
  have hv2 := hv.below hwa (Nat.le_refl _)
  refine ⟨hu2.kept hg (fun k h1 h2 => ha k h2 h1), ha.moved hm (fun k hk => (hu2.lt k hk).2), ?_⟩
  exact (hb.trans (hwa.mono hB)).grown hg (Nat.le_trans hB hwa.size) hv2.block
end Go.Proofs.Ytaehehoeidnidaa
