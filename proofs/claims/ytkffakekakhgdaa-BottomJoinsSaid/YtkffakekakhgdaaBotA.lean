/- The reference of package bottom: LJoin, walked. No condition. -/
import Derived.Test.YtkffakekakhgdaaBotZ
import Derived.Test.YtkffakekakhgdaaApp2
namespace Go.Proofs.Ytkffakekakhgdaa
open Go.ChangeShapes Go.WideShapes Go.ChangeAt Go.RowKit
set_option linter.unusedVariables false

set_option maxRecDepth 20000 in
set_option maxHeartbeats 4000000 in
theorem ljoin_any (seed : BitVec 64) (room : Int) (A C : Option Addr) (a b : List (BitVec 64)) (c d : Nat) (w : World) (ha : Seg w w.heap.size A (a.map W64)) (hb : Seg w w.heap.size C (b.map W64)) (hma : a.length ≤ 9223372036854775807) (hmb : b.length ≤ 9223372036854775807) :
    Calls Try.prog 7 #[W64 seed, .int .i64 room, .slice A a.length c, .slice C b.length d] w fun e w' => JOut w (bjres seed room a b) e w' := by
  have HA := Lib.hid ha
  have HC := Lib.hid hb
  clear ha hb
  obtain ⟨n, hn⟩ : ∃ n, n = a.length := ⟨_, rfl⟩
  obtain ⟨m, hm⟩ : ∃ m, m = b.length := ⟨_, rfl⟩
  have HRA : Hid (∀ u, Seg u u.heap.size A (a.map W64) → Calls Try.prog 11 #[W64 seed, .int .i64 room, .slice A n c] u fun e w' => e = .returned (.bool (bright seed room a)) ∧ Below u.heap.size u w') := fun u h => by rw [hn]; exact lright_any seed room A a c u h hma
  have HRB : Hid (∀ u, Seg u u.heap.size C (b.map W64) → Calls Try.prog 11 #[W64 seed, .int .i64 room, .slice C m d] u fun e w' => e = .returned (.bool (bright seed room b)) ∧ Below u.heap.size u w') := fun u h => by rw [hm]; exact lright_any seed room C b d u h hmb
  rw [← hn, ← hm]
  have HL := Lib.hid (And.intro hn hm)
  clear hn hm hma hmb
  by_cases h1 : bright seed room a = true
  · by_cases h2 : bright seed room b = true
    · have HF1 := Lib.hid (bright_facts h1)
      have HF2 := Lib.hid (bright_facts h2)
      have HRES : Hid (bjres seed room a b = ((sortK (brank seed) (a ++ b)).take room.toNat, 0)) := if_pos (by rw [h1, h2]; rfl)
      rw [h1] at HRA
      rw [h2] at HRB
      clear h1 h2
      go_enter Try.func7, Try.ntmps7
      go_wp2_with fail
      refine (HRA.out _ HA.out).mono ?_
      rintro e w2 ⟨rfl, hb2⟩
      have HB2 := Lib.hid hb2
      clear hb2
      have HC2 := Lib.hid (Seg.more (HC.out.below HB2.out) HB2.out.size)
      go_wp2_with fail
      refine (HRB.out _ HC2.out).mono ?_
      rintro e w3 ⟨rfl, hb3⟩
      have HB3 : Hid (Below w.heap.size w w3) := HB2.out.trans (hb3.mono HB2.out.size)
      clear hb3 HRA HRB HC2 HB2
      have HSA := Lib.hid (Seg.more (HA.out.below HB3.out) HB3.out.size)
      have HSC := Lib.hid (Seg.more (HC.out.below HB3.out) HB3.out.size)
      have HMX : Hid (n + m ≤ 1000 ∧ n = (a.map W64).length ∧ m = (b.map W64).length) := by
        have h1 := HF1.out.2.2.1
        have h2 := HF2.out.2.2.1
        have h3 := HL.out
        exact ⟨by omega, by rw [List.length_map]; exact h3.1, by rw [List.length_map]; exact h3.2⟩
      have X1 : Hid (([] : List Value).length + n ≤ maxLen ∧ (([] : List Value).length + n) * 8 ≤ 140737488355328) := by
        have := HMX.out.1; unfold Hid maxLen; rw [List.length_nil]; omega
      have X2 : Hid ((a.map W64).length + m ≤ maxLen ∧ ((a.map W64).length + m) * 8 ≤ 140737488355328) := by
        have := HMX.out.1; unfold Hid maxLen; rw [← HMX.out.2.1]; omega
      go_wp2_with (first
        | (have X0 := HO5; at_builtin; go_must (refine wpList_append_seg _ rfl _ _ elem_u64s rfl w3.heap.size _ (a.map W64) rfl HO5.out d rfl HMX.out.2.2.symm (HSC.out.below HB5.out) (bword_one b) X2.out.1 X2.out.2 HB5.out.size ?_); intro v6 w6 hown6 hg6 hv6; have HO6 := Lib.hid hown6; have HB6 := Lib.hid (Below.grown HB5.out hg6 HB5.out.size HO5.out.block); clear hown6 hg6 hv6)
        | (at_builtin; go_must (refine wpList_append_seg _ rfl _ _ elem_u64s rfl w3.heap.size _ [] rfl (own_empty w3 _ _ (Nat.le_refl _)) c rfl HMX.out.2.1.symm (HSA.out.alloc (Nat.le_refl _) _) (bword_one a) X1.out.1 X1.out.2 (by simp) ?_); intro v5 w5 hown5 hg5 hv5; rw [List.nil_append] at hown5; have HO5 := Lib.hid hown5; have HB5 := Lib.hid (Below.grown ((Below.refl w3.heap.size w3).alloc (Nat.le_refl _) _) hg5 (by simp) (fun q hq => by injection hq with hq; exact Nat.le_of_eq hq)); clear hown5 hg5 hv5)
        | fail)
      rw [← List.map_append] at HO6
      obtain ⟨A6, c6, rfl, hc6, h6⟩ := HO6.out.res2
      have HO6b := Lib.hid h6.seg
      clear h6
      rw [List.length_map] at hc6 ⊢
      obtain ⟨R, rfl⟩ : ∃ R : Nat, room = (R : Int) := ⟨room.toNat, by have := HF1.out.1; omega⟩
      refine (lleast_any seed R A6 (a ++ b) c6 _ (by have := HF1.out.2.1; omega) HO6b.out (by have h1 := HMX.out.1; have h2 := HL.out; rw [List.length_append]; omega)).mono ?_
      rintro e w7 ⟨A7, c7, rfl, hc7, hs7, hb7⟩
      have HB7 : Hid (Below w.heap.size w w7) := HB3.out.trans ((HB6.out.trans (hb7.mono HB6.out.size)).mono HB3.out.size)
      have HS7 := Lib.hid hs7
      have HC7 := Lib.hid hc7
      obtain ⟨t, ht⟩ : ∃ t, t = (sortK (brank seed) (a ++ b)).take R := ⟨_, rfl⟩
      rw [← ht] at HS7 HC7 ⊢
      have HT := Lib.hid ht
      clear ht hs7 hc7 hb7
      go_wp2_with fail
      go_ret2
      rw [HRES.out]
      have e7 : (sortK (brank seed) (a ++ b)).take (Int.toNat (R : Int)) = t := by rw [Int.toNat_natCast]; exact HT.out.symm
      rw [e7]
      exact ⟨A7, c7, rfl, HC7.out, HS7.out, HB7.out⟩
    · have hf : bright seed room b = false := by simpa using h2
      have HRES : Hid (bjres seed room a b = ([], 1)) := if_neg (by rw [h1, hf]; simp)
      rw [h1] at HRA
      rw [hf] at HRB
      clear h1 h2 hf
      go_enter Try.func7, Try.ntmps7
      go_wp2_with fail
      refine (HRA.out _ HA.out).mono ?_
      rintro e w2 ⟨rfl, hb2⟩
      have HB2 := Lib.hid hb2
      clear hb2
      have HC2 := Lib.hid (Seg.more (HC.out.below HB2.out) HB2.out.size)
      go_wp2_with fail
      refine (HRB.out _ HC2.out).mono ?_
      rintro e w3 ⟨rfl, hb3⟩
      have HB3 : Hid (Below w.heap.size w w3) := HB2.out.trans (hb3.mono HB2.out.size)
      go_wp2_with fail
      go_ret2
      rw [HRES.out]
      exact ⟨none, 0, rfl, Nat.le_refl _, Seg.nil, HB3.out⟩
  · have hf : bright seed room a = false := by simpa using h1
    have HRES : Hid (bjres seed room a b = ([], 1)) := if_neg (by rw [hf]; simp)
    rw [hf] at HRA
    clear h1 hf
    go_enter Try.func7, Try.ntmps7
    go_wp2_with fail
    refine (HRA.out _ HA.out).mono ?_
    rintro e w2 ⟨rfl, hb2⟩
    have HB2 := Lib.hid hb2
    clear hb2
    go_wp2_with fail
    go_ret2
    rw [HRES.out]
    exact ⟨none, 0, rfl, Nat.le_refl _, Seg.nil, HB2.out⟩
end Go.Proofs.Ytkffakekakhgdaa
