/- Numbers of words: Right, word, fits, Of, compare, walked. No condition but that the words are words. -/
import Derived.Test.YtmibifmabkaakaaDoorNatT
namespace Go.Proofs.YtmibifmabkaakaaDoor
open Go.ChangeShapes Go.WideShapes Go.ChangeAt Go.RowKit
set_option linter.unusedVariables false

set_option maxRecDepth 20000 in
set_option maxHeartbeats 1000000 in
theorem nright_any (A : Option Addr) (l : List Nat) (c B : Nat) (w : World) (hs : Seg w B A (u64s l)) :
    Calls Tryd.prog 54 #[.slice A l.length c] w fun e w' => e = .returned (.bool (decide (nright l))) ∧ w' = w := by
  have HS := Lib.hid hs
  clear hs
  by_cases h64 : 64 < l.length
  · have hf : decide (nright l) = false := decide_eq_false (fun h => by have := h.1; omega)
    have i0 : ¬ (l.length : Int) ≤ 64 := by omega
    rw [hf]
    clear hf
    go_enter Tryd.func54, Tryd.ntmps54
    go_wp2_with fail
    go_ret
    exact ⟨rfl, rfl⟩
  · have i0 : (l.length : Int) ≤ 64 := by omega
    cases hl : l.length with
    | zero =>
      have hf : decide (nright l) = true := decide_eq_true ⟨by omega, .inl hl⟩
      rw [hf]
      clear hf
      go_enter Tryd.func54, Tryd.ntmps54
      go_wp2_with fail
      go_ret
      exact ⟨rfl, rfl⟩
    | succ k =>
      obtain ⟨ad, rfl, hb, hc⟩ := HS.out.wo (k := k) (by omega)
      obtain ⟨K, hK⟩ : ∃ K, K = k + 1 := ⟨_, rfl⟩
      rw [← hK]
      have i1 : (K : Int) ≤ 64 := by omega
      have i2 : (K : Int) - 1 = (k : Int) := by omega
      have i3 : (k : Int) < (K : Int) := by omega
      have i4 : ¬ (K : Int) = 0 := by omega
      have i5 : ¬ K = 0 := by omega
      have u1 : wrap64 (k : Int) = (k : Int) := by unfold wrap64; omega
      have b0 : ((K : Int) == 0) = false := by simp; omega
      have hf : Hid (decide (nright l) = (((wo l k : Nat) : Int) != 0)) := by
        have hi : nright l ↔ wo l k ≠ 0 := by
          unfold nright
          rw [show l.length - 1 = k by omega]
          omega
        unfold Hid
        by_cases h0 : wo l k = 0
        · rw [decide_eq_false (fun h => hi.1 h h0), h0]; rfl
        · rw [decide_eq_true (hi.2 h0)]
          have : ((wo l k : Nat) : Int) ≠ 0 := by omega
          exact (by simp [h0])
      clear hl i0 h64 hK
      generalize wo l k = v at *
      go_enter Tryd.func54, Tryd.ntmps54
      go_wp2_with fail
      go_ret
      exact ⟨by rw [hf.out]; rfl, rfl⟩
set_option maxRecDepth 20000 in
set_option maxHeartbeats 1000000 in
theorem fits_ok (A : Option Addr) (n c : Nat) (w : World) (h : ¬ 64 < n) :
    Calls Tryd.prog 57 #[.slice A n c] w fun e w' => e = .returned (.tuple #[.slice A n c, .int .i64 0]) ∧ w' = w := by
  have i0 : ¬ (64 : Int) < (n : Int) := by omega
  clear h
  go_enter Tryd.func57, Tryd.ntmps57
  go_wp2_with fail
  go_ret2
  exact ⟨rfl, rfl⟩
set_option maxRecDepth 20000 in
set_option maxHeartbeats 1000000 in
theorem fits_no (A : Option Addr) (n c : Nat) (w : World) (h : 64 < n) :
    Calls Tryd.prog 57 #[.slice A n c] w fun e w' => e = .returned (.tuple #[.slice none 0 0, .int .i64 4]) ∧ w' = w := by
  have i0 : (64 : Int) < (n : Int) := by omega
  clear h
  go_enter Tryd.func57, Tryd.ntmps57
  go_wp2_with fail
  go_ret2
  exact ⟨rfl, rfl⟩
/-- A call's answer: words, and a number. -/
def NOut (w w' : World) (e : Ending) (l : List Nat) (err : Int) : Prop :=
  ∃ A c, e = .returned (.tuple #[.slice A l.length c, .int .i64 err]) ∧ l.length ≤ c ∧ Seg w' w'.heap.size A (u64s l) ∧ Below w.heap.size w w'
theorem NOut.nil_ {w w' : World} {err : Int} (h : Below w.heap.size w w') : NOut w w' (.returned (.tuple #[.slice none 0 0, .int .i64 err])) [] err := ⟨none, 0, rfl, Nat.le_refl _, Seg.nil, h⟩
set_option maxRecDepth 20000 in
set_option maxHeartbeats 1000000 in
theorem of_any (n : Nat) (w : World) (hn : n < wB) :
    Calls Tryd.prog 17 #[u64v n] w fun e w' => ∃ A, e = .returned (.slice A (wd n).length (wd n).length) ∧ Seg w' w'.heap.size A (u64s (wd n)) ∧ Below w.heap.size w w' := by
  have hk : wok [n] := fun i hi => by
    have : i = 0 := by simp at hi; omega
    subst this; exact hn
  have e1 : nv [n] = n := by simp [nv_cons, nv_nil]
  have hw := take_wlen hk
  rw [e1] at hw
  have hl : (wd n).length = wlen [n] 1 := by rw [← hw]; have := wlen_le [n] 1; simp; omega
  have HW := Lib.hid (And.intro hw hl)
  clear hw hl hk e1 hn
  go_enter Tryd.func17, Tryd.ntmps17
  go_wp2_with fail
  have hs : Seg (w.alloc (.cells #[u64v n] 34)) (w.alloc (.cells #[u64v n] 34)).heap.size (some ⟨w.heap.size, 0, none⟩) (u64s [n]) := fun _ => ⟨_, rfl, by simp, fun k u hk => by
    have : k = 0 := by have := (List.getElem?_eq_some_iff.1 hk).1; simp at this; exact this
    subst this
    simp at hk
    subst hk
    exact cell_new1 _ _ _⟩
  have HS := Lib.hid hs
  refine (trim_words _ [n] 1 _ _ hs (Nat.le_refl _) (by simp)).mono ?_
  clear hs
  rintro e w1 ⟨rfl, m, rfl⟩
  go_wp2_with fail
  go_ret
  refine ⟨some ⟨w.heap.size, 0, none⟩, by rw [HW.out.2]; rfl, ?_, below_drewN ((Below.refl _ _).alloc (Nat.le_refl _) _) _⟩
  have h1 := HS.out.pre (wlen [n] 1)
  rw [← List.map_take] at h1
  rw [← HW.out.1]
  exact h1
end Go.Proofs.YtmibifmabkaakaaDoor
