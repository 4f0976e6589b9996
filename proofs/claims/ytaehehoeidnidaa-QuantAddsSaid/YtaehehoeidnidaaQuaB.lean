/- Package quant: Add, walked. No condition but the list's own length. -/
import Derived.Test.YtaehehoeidnidaaQuaW
import Derived.Test.YtaehehoeidnidaaQuaR
namespace Go.Proofs.Ytaehehoeidnidaa
open Go.ChangeShapes Go.WideShapes Go.ChangeAt Go.RowKit
set_option linter.unusedVariables false

theorem takeWhile_at {α : Type} (p : α → Bool) : ∀ (l : List α) (k : Nat), k ≤ l.length → (∀ i (h : i < l.length), i < k → p l[i] = true) → (∀ h : k < l.length, p l[k] = false) → l.takeWhile p = l.take k ∧ l.dropWhile p = l.drop k
  | [], k, _, _, _ => by simp
  | a :: l, 0, _, _, h => by
    have := h (by simp)
    simp at this
    simp [this]
  | a :: l, k + 1, hk, h1, h2 => by
    have h0 := h1 0 (by simp) (by omega)
    simp at h0
    have ih := takeWhile_at p l k (by simpa using hk) (fun i h hi => by have := h1 (i + 1) (by simpa using h) (by omega); simpa using this) (fun h => by have := h2 (by simpa using h); simpa using this)
    simp [h0, ih.1, ih.2]
theorem qlow_at {ps : List Rk} {x : Int} {k : Nat} (hk : k ≤ ps.length) (h1 : ∀ i, i < k → (kat ps i).1 ≤ x) (h2 : k < ps.length → x < (kat ps k).1) : qlow ps x = ps.take k ∧ qhigh ps x = ps.drop k :=
  takeWhile_at _ ps k hk (fun i h hi => by have := h1 i hi; rw [kat_get h] at this; simpa using this) (fun h => by have := h2 h; rw [kat_get h] at this; simpa using this)
theorem qall_end {ps : List Rk} {x : Int} {k : Nat} (hk : k ≤ ps.length) (h1 : ∀ i, i < k → (kat ps i).1 ≤ x) (h2 : k < ps.length → x < (kat ps k).1) (he : k = 0 ∨ k = ps.length) : qall ps x = ps.take k ++ (x, 1, 0) :: ps.drop k := by
  obtain ⟨e1, e2⟩ := qlow_at hk h1 h2
  unfold qall qown
  rw [e1, e2, if_neg]
  rintro ⟨a, b⟩
  rcases he with rfl | rfl
  · simp at a
  · simp at b
theorem qall_mid {ps : List Rk} {x : Int} {k : Nat} (hk : k < ps.length) (h1 : ∀ i, i < k → (kat ps i).1 ≤ x) (h2 : k < ps.length → x < (kat ps k).1) (h0 : 0 < k) : qall ps x = ps.take k ++ (x, 1, (kat ps k).2.1 + (kat ps k).2.2 - 1) :: ps.drop k := by
  obtain ⟨e1, e2⟩ := qlow_at (by omega) h1 h2
  unfold qall qown
  have e3 : kat (ps.drop k) 0 = kat ps k := by unfold kat; simp [List.getD_eq_getElem?_getD]
  rw [e1, e2, if_pos ⟨fun h => by have := congrArg List.length h; rw [List.length_take, List.length_nil] at this; omega, fun h => by have := congrArg List.length h; rw [List.length_drop, List.length_nil] at this; omega⟩, e3]
theorem qall_facts {parts : Int} {ps : List Rk} (h : QOk parts ps) (x m : Int) (k : Nat) (hm : 0 ≤ m ∧ m ≤ 4398046511104) (hl : ps.length < 400) :
    (1 ≤ (ps.take k ++ (x, 1, m) :: ps.drop k).length ∧ (ps.take k ++ (x, 1, m) :: ps.drop k).length ≤ 400) ∧ QB (ps.take k ++ (x, 1, m) :: ps.drop k) ∧ qsum (ps.take k ++ (x, 1, m) :: ps.drop k) ≤ 2199023255552 := by
  have hq : QB ps := fun r hr => by
    obtain ⟨i, hi, rfl⟩ := List.mem_iff_getElem.1 hr
    have := h.one i hi
    unfold Q1 at this
    rw [kat_get hi] at this
    omega
  refine ⟨?_, ?_, ?_⟩
  · rw [List.length_append, List.length_cons, List.length_take, List.length_drop]; omega
  · refine (hq.take k).app fun r hr => ?_
    rcases List.mem_cons.1 hr with rfl | hr
    · exact ⟨by show (0 : Int) ≤ 1; omega, hm⟩
    · exact hq.drop k r hr
  · have e : qsum ps = qsum (ps.take k) + qsum (ps.drop k) := by rw [← qsum_app, List.take_append_drop]
    have := h.all
    rw [qsum_app]
    simp only [qsum]
    omega
/-- What Add answers. -/
noncomputable def qaddR (parts : Int) (ps : List Rk) (x : Int) : List Rk × Int :=
  if qokB parts ps = false then ([], 1) else if ps.length = 400 ∨ qsum ps = 1099511627776 then ([], 4) else (qnew parts ps x, 0)
def KOut (base : Nat) (r : List Rk × Int) (w : World) (e : Ending) (w' : World) : Prop := ∃ v', e = .returned (.tuple #[v', .int .i64 r.2]) ∧ Own3 w' base v' r.1 ∧ Below base w w'
set_option maxRecDepth 20000 in
set_option maxHeartbeats 4000000 in
theorem add_bad (parts : Int) (A : Option Addr) (ps : List Rk) (c : Nat) (x : Int) (w : World) (hs : Seg w w.heap.size A (flat3 ps)) (hm : ps.length ≤ 9223372036854775807) (hq : ¬ QOk parts ps) :
    Calls Try.prog 82 #[.int .i64 parts, .slice A ps.length c, .int .i64 x] w (KOut w.heap.size (qaddR parts ps x) w) := by
  have HS := Lib.hid hs
  have HM := Lib.hid hm
  have HQ := Lib.hid (qokF hq)
  have HF : Hid (qaddR parts ps x = ([], 1)) := by unfold Hid qaddR; rw [if_pos (qokF hq)]
  clear hs hm hq
  go_enter Try.func82, Try.ntmps82
  go_wp2_with fail
  refine (right_any parts A ps c _ HS.out HM.out).mono ?_
  rintro e w1 ⟨rfl, hb⟩
  rw [HQ.out]
  have HB := Lib.hid hb
  clear hb
  go_wp2_with fail
  go_ret2
  exact ⟨_, by rw [HF.out]; rfl, by rw [HF.out]; exact Own3.none_, HB.out⟩
set_option maxRecDepth 20000 in
set_option maxHeartbeats 4000000 in
theorem add_full (parts : Int) (A : Option Addr) (ps : List Rk) (c : Nat) (x : Int) (w : World) (hs : Seg w w.heap.size A (flat3 ps)) (hm : ps.length ≤ 9223372036854775807) (hq : QOk parts ps) (hf : ps.length = 400 ∨ qsum ps = 1099511627776) :
    Calls Try.prog 82 #[.int .i64 parts, .slice A ps.length c, .int .i64 x] w (KOut w.heap.size (qaddR parts ps x) w) := by
  have HS := Lib.hid hs
  have HM := Lib.hid hm
  have HQ := Lib.hid (qokT hq)
  have HOK := Lib.hid hq
  have HF : Hid (qaddR parts ps x = ([], 4)) := by unfold Hid qaddR; rw [if_neg (by rw [qokT hq]; simp), if_pos hf]
  by_cases h4 : ps.length = 400
  · have b1 : ((ps.length : Int) == 400) = true := by simp; omega
    have b2 : (ps.length == 400) = true := by simp; omega
    clear hs hm hq hf h4
    go_enter Try.func82, Try.ntmps82
    go_wp2_with fail
    refine (right_any parts A ps c _ HS.out HM.out).mono ?_
    rintro e w1 ⟨rfl, hb⟩
    rw [HQ.out]
    have HB := Lib.hid hb
    clear hb
    go_wp2_with fail
    go_ret2
    exact ⟨_, by rw [HF.out]; rfl, by rw [HF.out]; exact Own3.none_, HB.out⟩
  · have b1 : ((ps.length : Int) == 400) = false := by simp; omega
    have b2 : (ps.length == 400) = false := by simp; omega
    have h5 : qsum ps = 1099511627776 := by rcases hf with h | h; exact absurd h h4; exact h
    have HS5 := Lib.hid h5
    clear hs hm hq hf h4 h5
    go_enter Try.func82, Try.ntmps82
    go_wp2_with fail
    refine (right_any parts A ps c _ HS.out HM.out).mono ?_
    rintro e w1 ⟨rfl, hb⟩
    rw [HQ.out]
    have HB := Lib.hid hb
    clear hb
    go_wp2_with fail
    refine (count_any A ps c _ ((HS.out.below HB.out).more HB.out.size) HOK.out.len HOK.out.one).mono ?_
    rintro e w2 ⟨rfl, hb⟩
    rw [HS5.out]
    have HB2 := Lib.hid hb
    clear hb
    go_wp2_with fail
    go_ret2
    exact ⟨_, by rw [HF.out]; rfl, by rw [HF.out]; exact Own3.none_, HB.out.trans (HB2.out.mono HB.out.size)⟩
end Go.Proofs.Ytaehehoeidnidaa
