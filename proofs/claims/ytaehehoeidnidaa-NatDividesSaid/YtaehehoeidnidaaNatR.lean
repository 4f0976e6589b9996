/- Numbers of words: Right, word, fits, Of, compare, walked. No condition but that the words are words. -/
import Derived.Test.YtaehehoeidnidaaNatT
namespace Go.Proofs.Ytaehehoeidnidaa
open Go.ChangeShapes Go.WideShapes Go.ChangeAt Go.RowKit
set_option linter.unusedVariables false

set_option maxRecDepth 20000 in
set_option maxHeartbeats 1000000 in
theorem nright_any (A : Option Addr) (l : List Nat) (c B : Nat) (w : World) (hs : Seg w B A (u64s l)) :
    Calls Try.prog 47 #[.slice A l.length c] w fun e w' => e = .returned (.bool (decide (nright l))) ∧ w' = w := by
  have HS := Lib.hid hs
  clear hs
  by_cases h64 : 64 < l.length
  · have hf : decide (nright l) = false := decide_eq_false (fun h => by have := h.1; omega)
    have i0 : ¬ (l.length : Int) ≤ 64 := by omega
    rw [hf]
    clear hf
    go_enter Try.func47, Try.ntmps47
    go_wp2_with fail
    go_ret
    exact ⟨rfl, rfl⟩
  · have i0 : (l.length : Int) ≤ 64 := by omega
    cases hl : l.length with
    | zero =>
      have hf : decide (nright l) = true := decide_eq_true ⟨by omega, .inl hl⟩
      rw [hf]
      clear hf
      go_enter Try.func47, Try.ntmps47
      go_wp2_with fail
      go_ret
      exact ⟨rfl, rfl⟩
    | succ k =>
      obtain ⟨ad, rfl, hb, hc⟩ := HS.out.wo (k := k) (by omega)
      obtain ⟨K, hK⟩ : ∃ K, K = k + 1 := ⟨_, rfl⟩
      rw [← hK]
      have i1 : (K : Int) ≤ 64 := by omega
      have i2 : (K : Int) - 1 = (k : Int) := by omega
      have i3 : (k : Int) < (K : Int) := by omega
      have i4 : ¬ (K : Int) = 0 := by omega
      have i5 : ¬ K = 0 := by omega
      have u1 : wrap64 (k : Int) = (k : Int) := by unfold wrap64; omega
      have b0 : ((K : Int) == 0) = false := by simp; omega
      have hf : Hid (decide (nright l) = (((wo l k : Nat) : Int) != 0)) := by
        have hi : nright l ↔ wo l k ≠ 0 := by
          unfold nright
          rw [show l.length - 1 = k by omega]
          omega
        unfold Hid
        by_cases h0 : wo l k = 0
        · rw [decide_eq_false (fun h => hi.1 h h0), h0]; rfl
        · rw [decide_eq_true (hi.2 h0)]
          have : ((wo l k : Nat) : Int) ≠ 0 := by omega
          exact (by simp [h0])
      clear hl i0 h64 hK
      generalize wo l k = v at *
      go_enter Try.func47, Try.ntmps47
      go_wp2_with fail
      go_ret
      exact ⟨by rw [hf.out]; rfl, rfl⟩
set_option maxRecDepth 20000 in
set_option maxHeartbeats 1000000 in
theorem word_any (A : Option Addr) (l : List Nat) (k c B : Nat) (w : World) (hs : Seg w B A (u64s l)) :
    Calls Try.prog 119 #[.slice A l.length c, .int .i64 k] w fun e w' => e = .returned (u64v (wo l k)) ∧ w' = w := by
  by_cases h : k < l.length
  · obtain ⟨ad, rfl, hb, hc⟩ := hs.wo h
    have i0 : (k : Int) < (l.length : Int) := by omega
    generalize wo l k = v at *
    clear hs
    go_enter Try.func119, Try.ntmps119
    go_wp2_with fail
    go_ret
    exact ⟨rfl, rfl⟩
  · have i0 : ¬ (k : Int) < (l.length : Int) := by omega
    rw [wo_ge (by omega)]
    clear hs
    go_enter Try.func119, Try.ntmps119
    go_wp2_with fail
    go_ret
    exact ⟨rfl, rfl⟩
set_option maxRecDepth 20000 in
set_option maxHeartbeats 1000000 in
theorem fits_ok (A : Option Addr) (n c : Nat) (w : World) (h : ¬ 64 < n) :
    Calls Try.prog 120 #[.slice A n c] w fun e w' => e = .returned (.tuple #[.slice A n c, .int .i64 0]) ∧ w' = w := by
  have i0 : ¬ (64 : Int) < (n : Int) := by omega
  clear h
  go_enter Try.func120, Try.ntmps120
  go_wp2_with fail
  go_ret2
  exact ⟨rfl, rfl⟩
set_option maxRecDepth 20000 in
set_option maxHeartbeats 1000000 in
theorem fits_no (A : Option Addr) (n c : Nat) (w : World) (h : 64 < n) :
    Calls Try.prog 120 #[.slice A n c] w fun e w' => e = .returned (.tuple #[.slice none 0 0, .int .i64 4]) ∧ w' = w := by
  have i0 : (64 : Int) < (n : Int) := by omega
  clear h
  go_enter Try.func120, Try.ntmps120
  go_wp2_with fail
  go_ret2
  exact ⟨rfl, rfl⟩
/-- A call's answer: words, and a number. -/
def NOut (w w' : World) (e : Ending) (l : List Nat) (err : Int) : Prop :=
  ∃ A c, e = .returned (.tuple #[.slice A l.length c, .int .i64 err]) ∧ l.length ≤ c ∧ Seg w' w'.heap.size A (u64s l) ∧ Below w.heap.size w w'
theorem NOut.nil_ {w w' : World} {err : Int} (h : Below w.heap.size w w') : NOut w w' (.returned (.tuple #[.slice none 0 0, .int .i64 err])) [] err := ⟨none, 0, rfl, Nat.le_refl _, Seg.nil, h⟩
set_option maxRecDepth 20000 in
set_option maxHeartbeats 1000000 in
theorem of_any (n : Nat) (w : World) (hn : n < wB) :
    Calls Try.prog 50 #[u64v n] w fun e w' => ∃ A, e = .returned (.slice A (wd n).length (wd n).length) ∧ Seg w' w'.heap.size A (u64s (wd n)) ∧ Below w.heap.size w w' := by
  have hk : wok [n] := fun i hi => by
    have : i = 0 := by simp at hi; omega
    subst this; exact hn
  have e1 : nv [n] = n := by simp [nv_cons, nv_nil]
  have hw := take_wlen hk
  rw [e1] at hw
  have hl : (wd n).length = wlen [n] 1 := by rw [← hw]; have := wlen_le [n] 1; simp; omega
  have HW := Lib.hid (And.intro hw hl)
  clear hw hl hk e1 hn
  go_enter Try.func50, Try.ntmps50
  go_wp2_with fail
  have hs : Seg (w.alloc (.cells #[u64v n] 52)) (w.alloc (.cells #[u64v n] 52)).heap.size (some ⟨w.heap.size, 0, none⟩) (u64s [n]) := fun _ => ⟨_, rfl, by simp, fun k u hk => by
    have : k = 0 := by have := (List.getElem?_eq_some_iff.1 hk).1; simp at this; exact this
    subst this
    simp at hk
    subst hk
    exact cell_new1 _ _ _⟩
  have HS := Lib.hid hs
  refine (trim_words _ [n] 1 _ _ hs (Nat.le_refl _) (by simp)).mono ?_
  clear hs
  rintro e w1 ⟨rfl, m, rfl⟩
  go_wp2_with fail
  go_ret
  refine ⟨some ⟨w.heap.size, 0, none⟩, by rw [HW.out.2]; rfl, ?_, below_drewN ((Below.refl _ _).alloc (Nat.le_refl _) _) _⟩
  have h1 := HS.out.pre (wlen [n] 1)
  rw [← List.map_take] at h1
  rw [← HW.out.1]
  exact h1
set_option maxRecDepth 20000 in
set_option maxHeartbeats 2000000 in
theorem compare_any (A C : Option Addr) (a b : List Nat) (c d B : Nat) (w : World) (hs : Seg w B A (u64s a)) (ht : Seg w B C (u64s b)) (ka : wok a) (kb : wok b) (na : wnorm a) (nb : wnorm b) (la : a.length ≤ 64) (lb : b.length ≤ 64) :
    Calls Try.prog 117 #[.slice A a.length c, .slice C b.length d] w fun e w' => e = .returned (.int .i64 (ncmp (nv a) (nv b))) ∧ ∃ m, w' = w.drewN m := by
  by_cases hl : a.length = b.length
  · have b0 : ((a.length : Int) != (b.length : Int)) = false := by rw [hl]; simp
    have HS := Lib.hid hs
    have HT := Lib.hid ht
    have HK := Lib.hid (And.intro ka (And.intro kb (And.intro hl la)))
    have e0 : a.length = 0 → Hid (ncmp (nv a) (nv b) = 0) := fun h => by
      have h1 : a = [] := List.eq_nil_of_length_eq_zero h
      have h2 : b = [] := List.eq_nil_of_length_eq_zero (by omega)
      rw [h1, h2]; rfl
    have HE0 := Lib.hid e0
    have uL : Hid (wrap64 ((a.length : Int) - 1) = (a.length : Int) - 1) := by unfold Hid wrap64; omega
    have uL2 := uL.out
    clear hs ht ka kb na nb lb hl la e0
    go_enter Try.func117, Try.ntmps117
    go_wp2_with fail
    clear uL2 b0
    go_loopw [5] (fun s5 wx => ∃ (n m : Nat), n ≤ a.length ∧ s5 = .int .i64 ((n : Int) - 1) ∧ Hid (∀ i, n ≤ i → i < a.length → wo a i = wo b i) ∧ wx = w.drewN m) (fun s5 _ => (intOf s5 + 1).toNat)
    case atStart => exact ⟨a.length, 0, Nat.le_refl _, by first | rfl | rw [uL.out], fun i h1 h2 => by omega, rfl⟩
    case round =>
      obtain ⟨n, m, hn, rfl, he, rfl⟩ := hrel
      cases n with
      | zero =>
        have hr : Hid (ncmp (nv a) (nv b) = 0) := by
          have h1 : nv a = nv b := by
            unfold nv
            rw [← HK.out.2.2.1]
            exact gv_congr fun i hi => he.out i (Nat.zero_le _) hi
          unfold Hid ncmp
          rw [h1, if_neg (Nat.lt_irrefl _), if_neg (Nat.lt_irrefl _)]
        clear he
        go_wp2_with fail
        go_ret
        exact ⟨by rw [hr.out]; rfl, m, rfl⟩
      | succ k =>
        obtain ⟨ad, rfl, hb, hc⟩ := HS.out.wo (k := k) (by omega)
        obtain ⟨bd, rfl, hb2, hd⟩ := HT.out.wo (k := k) (by have := HK.out; omega)
        have e1 : ((k + 1 : Nat) : Int) - 1 = (k : Int) := by omega
        rw [e1]
        have i0 : (k : Int) < (a.length : Int) := by omega
        have i1 : (k : Int) < (b.length : Int) := by have := HK.out; omega
        have hlt : wo a k < wo b k → Hid (ncmp (nv a) (nv b) = -1) := fun h => by
          have h1 : nv a < nv b := by
            unfold nv
            rw [← HK.out.2.2.1]
            exact gv_less (k := k) (by omega) HK.out.1 (fun i h1 h2 => he.out i (by omega) h2) h
          unfold Hid ncmp
          rw [if_pos h1]
        have hgt : wo b k < wo a k → Hid (ncmp (nv a) (nv b) = 1) := fun h => by
          have h1 : nv b < nv a := by
            unfold nv
            rw [HK.out.2.2.1]
            exact gv_less (k := k) (by have := HK.out; omega) HK.out.2.1 (fun i h1 h2 => (he.out i (by omega) (by have := HK.out; omega)).symm) h
          unfold Hid ncmp
          rw [if_neg (by omega), if_pos h1]
        have heq : wo a k = wo b k → Hid (∀ i, k ≤ i → i < a.length → wo a i = wo b i) := fun h i h1 h2 => by
          by_cases e : i = k
          · rw [e]; exact h
          · exact he.out i (by omega) h2
        have HLT := Lib.hid hlt
        have HGT := Lib.hid hgt
        have HEQ := Lib.hid heq
        have HN := Lib.hid hn
        have uk : Hid (wrap64 ((k : Int) - 1) = (k : Int) - 1) := by have := HK.out; unfold Hid wrap64; omega
        have uk2 := uk.out
        clear hlt hgt heq hn he e1
        generalize wo a k = x at *
        generalize wo b k = y at *
        rcases Nat.lt_trichotomy x y with h | h | h
        · have i2 : (x : Int) < (y : Int) := by omega
          have HR := HLT.out h
          clear h
          go_wp2_with fail
          go_quiet (fail)
          go_wp2_with fail
          go_ret
          exact ⟨by rw [HR.out]; rfl, _, by rw [World.drewN_drewN]⟩
        · subst h
          have HR := HEQ.out rfl
          have i2 : ¬ (x : Int) < (x : Int) := by omega
          go_wp2_with fail
          go_quiet (fail)
          go_wp2_with fail
          go_quiet (fail)
          go_wp2_with fail
          --LOOK2
          go_roundw
          case rel => exact ⟨k, _, by have := HN.out; omega, by rw [uk.out], HR, by first | rfl | rw [World.drewN_drewN, World.drewN_drewN] | rw [World.drewN_drewN]⟩
          case measure => rw [uk.out]; simp [intOf]
        · have i2 : ¬ (x : Int) < (y : Int) := by omega
          have i3 : (y : Int) < (x : Int) := by omega
          have HR := HGT.out h
          clear h
          go_wp2_with fail
          go_quiet (fail)
          go_wp2_with fail
          go_quiet (fail)
          go_wp2_with fail
          go_ret
          exact ⟨by rw [HR.out]; rfl, _, by first | rfl | rw [World.drewN_drewN, World.drewN_drewN] | rw [World.drewN_drewN]⟩
  · have b0 : ((a.length : Int) != (b.length : Int)) = true := by simp; omega
    obtain ⟨D, hD⟩ : ∃ D : Int, D = (a.length : Int) - (b.length : Int) := ⟨_, rfl⟩
    have e1 := hD.symm
    have u1 : wrap64 D = D := by unfold wrap64; omega
    have hr : Hid (ncmp (nv a) (nv b) = if D < 0 then -1 else 1) := by
      unfold Hid ncmp
      by_cases h : a.length < b.length
      · rw [if_pos (show D < 0 by omega), if_pos (nv_len_lt ka nb h)]
      · have := nv_len_lt kb na (by omega : b.length < a.length)
        rw [if_neg (show ¬ D < 0 by omega), if_neg (by omega), if_pos this]
    rcases (by omega : (D < 0 ∧ D ≤ -1 ∧ ¬ -1 < D) ∨ (¬ D < 0 ∧ -1 < D ∧ 1 ≤ D ∧ ¬ D ≤ -1 ∧ ¬ D < -1 ∧ ¬ D < 1)) with ⟨h1, h2, h3⟩ | ⟨h1, h2, h3, h4, h5, h6⟩
    · rw [if_pos h1] at hr
      clear hl hD h1
      go_enter Try.func117, Try.ntmps117
      go_wp2_with fail
      all_goals go_ret
      all_goals exact ⟨by rw [hr.out]; first | rfl | exact congrArg (fun z => Ending.returned (Value.int .i64 z)) (by omega), 0, rfl⟩
    · rw [if_neg h1] at hr
      clear hl hD h1
      go_enter Try.func117, Try.ntmps117
      go_wp2_with fail
      --LOOK1
      all_goals go_ret
      all_goals exact ⟨by rw [hr.out]; first | rfl | exact congrArg (fun z => Ending.returned (Value.int .i64 z)) (by omega), 0, rfl⟩
end Go.Proofs.Ytaehehoeidnidaa
