/- BottomJoins: the law's function, walked. No condition but the arguments' own. -/
import Derived.Test.YtkffakekakhgdaaBotC
import Derived.Test.YtkffakekakhgdaaEqu64s
namespace Go.Proofs.Ytkffakekakhgdaa
open Go.ChangeShapes Go.WideShapes Go.ChangeAt Go.RowKit
set_option linter.unusedVariables false

theorem bseg_on {w w' : World} {A : Option Addr} {xs : List Value} (h : Seg w w.heap.size A xs) (hb : Below w.heap.size w w') : Seg w' w'.heap.size A xs := (h.below hb).more hb.size
theorem eq_w64s (a b : List (BitVec 64)) (A C : Option Addr) (c d : Nat) (w : World) (hs : Seg w w.heap.size A (a.map W64)) (ht : Seg w w.heap.size C (b.map W64)) (hm : a.length ≤ 9223372036854775807) (hab : a = b) :
    Calls Try.prog 12 #[.slice A a.length c, .slice C b.length d] w fun e w' => e = .returned (.bool true) ∧ ∃ n, w' = w.drewN n := by
  have h := eq_u64s (a.map wv) (b.map wv) A C c d w.heap.size w (by rw [List.map_map]; exact hs) (by rw [List.map_map]; exact ht) (by rw [List.length_map]; exact hm)
  rw [List.length_map, List.length_map, decide_eq_true (by rw [hab])] at h
  exact h
set_option maxRecDepth 20000 in
set_option maxHeartbeats 4000000 in
theorem botj_core (seed : BitVec 64) (room : Int) (A C E : Option Addr) (n m k c d f : Nat) (w : World) (t s : List (BitVec 64)) (jc q : Nat) (rb : Bool) (fa fb : BitVec 64 → Bool)
    (ht4 : t.length ≤ 400) (hs4 : 1 ≤ room ∧ room ≤ 400 → s.length ≤ 9223372036854775807)
    (hj : ∀ u, Below w.heap.size w u → Calls Try.prog 6 #[W64 seed, .int .i64 room, .slice A n c, .slice C m d] u fun e w' => JOut u (t, jc) e w')
    (hl : ∀ u, Below w.heap.size w u → Calls Try.prog 7 #[W64 seed, .int .i64 room, .slice A n c, .slice C m d] u fun e w' => JOut u (t, jc) e w')
    (hcm : ∀ u, Below w.heap.size w u → Calls Try.prog 8 #[W64 seed, .int .i64 room, .slice A n c, .slice C m d] u fun e w' => e = .returned (.tuple #[.int .i64 q, .int .i64 t.length, .int .i64 jc]) ∧ Below u.heap.size u w')
    (hr : ∀ u, Below w.heap.size w u → Calls Try.prog 10 #[W64 seed, .int .i64 room, .slice A n c] u fun e w' => e = .returned (.bool rb) ∧ ∃ m, w' = u.drewN m)
    (hlr : ∀ u, Below w.heap.size w u → Calls Try.prog 11 #[W64 seed, .int .i64 room, .slice A n c] u fun e w' => e = .returned (.bool rb) ∧ Below u.heap.size u w')
    (ha : ∀ x u, Below w.heap.size w u → Calls Try.prog 13 #[.slice A n c, W64 x] u fun e w' => e = .returned (.bool (fa x)) ∧ u = w')
    (hb : ∀ x u, Below w.heap.size w u → Calls Try.prog 13 #[.slice C m d, W64 x] u fun e w' => e = .returned (.bool (fb x)) ∧ u = w')
    (hall : ∀ u, Below w.heap.size w u → Calls Try.prog 9 #[W64 seed, .int .i64 room, .slice E k f] u fun e w' => JOut u (if 1 ≤ room ∧ room ≤ 400 then (s, 0) else ([], 2)) e w')
    (hls : 1 ≤ room ∧ room ≤ 400 → ∀ u, Below w.heap.size w u → Calls Try.prog 14 #[W64 seed, .int .i64 room, .slice E k f] u fun e w' => ∃ A' c', e = .returned (.slice A' s.length c') ∧ s.length ≤ c' ∧ Seg w' w'.heap.size A' (s.map W64) ∧ Below u.heap.size u w')
    (hq : q = (t.filter fun x => fa x && fb x).length) :
    Calls Try.prog 3 #[W64 seed, .int .i64 room, .slice A n c, .slice C m d, .slice E k f] w fun e w' => e = .returned (.bool true) ∧ Below w.heap.size w w' := by
  have HJ := Lib.hid hj
  have HL := Lib.hid hl
  have HCM := Lib.hid hcm
  have HR := Lib.hid hr
  have HLR := Lib.hid hlr
  have HIA := Lib.hid ha
  have HIB := Lib.hid hb
  have HQ := Lib.hid hq
  obtain ⟨⟨sl, ac⟩, hres⟩ : ∃ r : List (BitVec 64) × Nat, r = (if 1 ≤ room ∧ room ≤ 400 then (s, 0) else ([], 2)) := ⟨_, rfl⟩
  rw [← hres] at hall
  have HRES := Lib.hid hres
  obtain ⟨SL, hSL⟩ : ∃ SL, SL = sl.length := ⟨_, rfl⟩
  have HSL := Lib.hid hSL
  have HALL : Hid (∀ u, Below w.heap.size w u → Calls Try.prog 9 #[W64 seed, .int .i64 room, .slice E k f] u fun e w' => ∃ A c, e = .returned (.tuple #[.slice A SL c, .int .i64 (ac : Nat)]) ∧ SL ≤ c ∧ Seg w' w'.heap.size A (sl.map W64) ∧ Below u.heap.size u w') := by rw [hSL]; exact hall
  clear hres hSL
  have HLS := Lib.hid hls
  have HT4 := Lib.hid ht4
  have HS4 := Lib.hid hs4
  clear hj hl hcm hr hlr ha hb hq hall hls ht4 hs4
  have b0 : ((jc : Int) != (jc : Int)) = false := by simp
  have b1 : (rb != rb) = false := by simp
  go_enter Try.func3, Try.ntmps3
  go_wp2_with fail
  refine (HJ.out _ (Below.refl _ _)).mono ?_
  rintro e w1 ⟨A1, c1, rfl, hc1, hs1, hb1⟩
  have HB1 := Lib.hid hb1
  have HS1 := Lib.hid hs1
  clear hc1 hs1 hb1 HJ
  obtain ⟨N, hN⟩ : ∃ N, N = t.length := ⟨_, rfl⟩
  have HN : Hid (N = t.length ∧ N ≤ 400) := ⟨hN, by rw [hN]; exact HT4.out⟩
  rw [show (t, jc).1.length = t.length from rfl, ← hN]
  go_wp2_with fail
  refine (HL.out _ HB1.out).mono ?_
  rintro e w2 ⟨A2, c2, rfl, hc2, hs2, hb2⟩
  have HB2 : Hid (Below w.heap.size w w2) := HB1.out.trans (hb2.mono HB1.out.size)
  have HS1b := Lib.hid (bseg_on HS1.out hb2)
  have HS2 := Lib.hid hs2
  clear hc2 hs2 hb2 HL HS1
  rw [show (t, jc).1.length = t.length from rfl, ← hN]
  go_wp2_with fail
  refine (HCM.out _ HB2.out).mono ?_
  rintro e w3 ⟨rfl, hb3⟩
  have HB3 : Hid (Below w.heap.size w w3) := HB2.out.trans (hb3.mono HB2.out.size)
  have HSX3 := Lib.hid (bseg_on HS1b.out hb3)
  have HSY3 := Lib.hid (bseg_on HS2.out hb3)
  clear hb3 HCM HS1b HS2
  rw [← hN]
  clear hN
  go_wp2_with fail
  refine (HALL.out _ HB3.out).mono ?_
  rintro e w4 ⟨A4, c4, rfl, hc4, hs4, hb4⟩
  have HB4 : Hid (Below w.heap.size w w4) := HB3.out.trans (hb4.mono HB3.out.size)
  have HSX4 := Lib.hid (bseg_on HSX3.out hb4)
  have HSY4 := Lib.hid (bseg_on HSY3.out hb4)
  have HS4a := Lib.hid hs4
  clear hc4 hs4 hb4 HALL HSX3 HSY3
  go_wp2_with fail
  refine (HR.out _ HB4.out).mono ?_
  rintro e w5 ⟨rfl, m5, rfl⟩
  go_wp2_with fail
  refine (HLR.out _ (below_drewN HB4.out _)).mono ?_
  rintro e w6 ⟨rfl, hb60⟩
  have hb6 : Below w4.heap.size w4 w6 := (below_drewN (Below.refl w4.heap.size w4) m5).trans hb60
  clear hb60
  have HB6 : Hid (Below w.heap.size w w6) := HB4.out.trans (hb6.mono HB4.out.size)
  have HSX6 := Lib.hid (bseg_on (w := w4) HSX4.out hb6)
  have HSY6 := Lib.hid (bseg_on (w := w4) HSY4.out hb6)
  have HSA6 := Lib.hid (bseg_on (w := w4) HS4a.out hb6)
  clear hb6 HR HLR HSX4 HSY4 HS4a
  have HEQ : Hid (Calls Try.prog 12 #[.slice A1 N c1, .slice A2 N c2] w6 fun e w' => e = .returned (.bool true) ∧ ∃ n, w' = w6.drewN n) := by
    have h := eq_w64s t t A1 A2 c1 c2 w6 HSX6.out HSY6.out (by have := HT4.out; omega) rfl
    rw [← HN.out.1] at h
    exact h
  go_wp2_with fail
  --LOOK1
  refine HEQ.out.mono ?_
  rintro e w7 ⟨rfl, m7, rfl⟩
  go_wp2_with fail
  clear HEQ
  have HB7 : Hid (Below w.heap.size w (w6.drewN m7)) := below_drewN HB6.out _
  have HSY7 : Hid (Seg (w6.drewN m7) (w6.drewN m7).heap.size A2 (t.map W64)) := HSY6.out
  have HSA7 : Hid (Seg (w6.drewN m7) (w6.drewN m7).heap.size A4 (sl.map W64)) := HSA6.out
  generalize w6.drewN m7 = w7 at *
  clear HSY6 HSA6 HSX6
  go_loopw [20, 82] (fun s20 s82 wx => ∃ j : Nat, j ≤ N ∧ s82 = .int .i64 j ∧ s20 = .int .i64 (((t.take j).filter fun x => fa x && fb x).length : Nat) ∧ wx = w7) (fun _ s82 _ => N - (intOf s82).toNat)
  case atStart => exact ⟨0, Nat.zero_le _, rfl, rfl, rfl⟩
  case round =>
    obtain ⟨j, hjN, rfl, rfl, hwr⟩ := hrel
    have hw1 := hwr.symm
    subst hw1
    clear hwr
    by_cases hjl : j < N
    · have i1 : (j : Int) < (N : Int) := by omega
      have hk2 : j < t.length := by rw [← HN.out.1]; exact hjl
      have HST : Hid (((t.take (j + 1)).filter fun x => fa x && fb x).length = ((t.take j).filter fun x => fa x && fb x).length + (if (fa t[j] && fb t[j]) = true then 1 else 0)) := by
        unfold Hid
        rw [List.take_succ_eq_append_getElem hk2, List.filter_append, List.length_append]
        congr 1
        rw [List.filter_cons]
        split <;> simp [*]
      have ui : Hid (wrap64 ((j : Int) + 1) = ((j + 1 : Nat) : Int)) := by have := HN.out.2; unfold Hid wrap64; omega
      obtain ⟨ad, rfl, hab, hc1⟩ := HSY7.out.word hk2
      obtain ⟨x, hx⟩ : ∃ x, x = t[j] := ⟨_, rfl⟩
      rw [← hx] at hc1 HST
      have hle : ((t.take j).filter fun x => fa x && fb x).length ≤ 400 := Nat.le_trans (List.length_filter_le _ _) (by rw [List.length_take]; have := HN.out; omega)
      obtain ⟨r, hr⟩ : ∃ r, r = ((t.take j).filter fun x => fa x && fb x).length := ⟨_, rfl⟩
      rw [← hr] at hle HST ⊢
      have uq : Hid (wrap64 ((r : Int) + 1) = ((r + 1 : Nat) : Int)) := by unfold Hid wrap64; omega
      have HIAx := Lib.hid (HIA.out x _ HB7.out)
      have HIBx := Lib.hid (HIB.out x _ HB7.out)
      have HK := Lib.hid hjl
      obtain ⟨ga, hfa⟩ : ∃ ga, ga = fa x := ⟨_, rfl⟩
      obtain ⟨gb, hfb⟩ : ∃ gb, gb = fb x := ⟨_, rfl⟩
      rw [← hfa] at HIAx HST
      rw [← hfb] at HIBx HST
      clear hx hk2 hab hjN hjl hr hle hfa hfb
      cases ga with
      | false =>
        go_wp2_with fail
        refine HIAx.out.mono ?_
        rintro e w3 ⟨rfl, rfl⟩
        go_wp2_with fail
        go_roundw
        case rel => exact ⟨j + 1, HK.out, by first | rfl | rw [ui.out], by rw [HST.out]; rfl, by first | rfl | trivial⟩
        case measure => (try rw [ui.out]); have := HK.out; simp [intOf]; omega
      | true =>
        cases gb with
        | false =>
          go_wp2_with fail
          refine HIAx.out.mono ?_
          rintro e w3 ⟨rfl, rfl⟩
          go_wp2_with fail
          refine HIBx.out.mono ?_
          rintro e w3 ⟨rfl, rfl⟩
          go_wp2_with fail
          go_roundw
          case rel => exact ⟨j + 1, HK.out, by first | rfl | rw [ui.out], by rw [HST.out]; rfl, by first | rfl | trivial⟩
          case measure => (try rw [ui.out]); have := HK.out; simp [intOf]; omega
        | true =>
          go_wp2_with fail
          refine HIAx.out.mono ?_
          rintro e w3 ⟨rfl, rfl⟩
          go_wp2_with fail
          refine HIBx.out.mono ?_
          rintro e w3 ⟨rfl, rfl⟩
          go_wp2_with fail
          go_roundw
          case rel => exact ⟨j + 1, HK.out, by first | rfl | rw [ui.out], by rw [HST.out]; first | rfl | (rw [uq.out]; rfl), by first | rfl | trivial⟩
          case measure => (try rw [ui.out]); have := HK.out; simp [intOf]; omega
    · obtain rfl : j = N := by omega
      have HF : Hid (t.take j = t) := List.take_of_length_le (by rw [HN.out.1]; exact Nat.le_refl _)
      rw [HF.out, ← HQ.out]
      have i1 : ¬ (j : Int) < (j : Int) := Int.lt_irrefl _
      have b2 : ((q : Int) != (q : Int)) = false := by simp
      have b3 : ((j : Int) != (j : Int)) = false := by simp
      clear hjl hjN
      rcases (by omega : room < 1 ∨ (¬ room < 1 ∧ 400 < room) ∨ (¬ room < 1 ∧ ¬ 400 < room)) with h1 | ⟨h1, h2⟩ | ⟨h1, h2⟩
      · have hf : ¬ (1 ≤ room ∧ room ≤ 400) := by omega
        have hr := HRES.out
        rw [if_neg hf] at hr
        injection hr with hr1 hr2
        obtain rfl : SL = 0 := by rw [HSL.out, hr1]; rfl
        subst hr2
        clear hf hr1
        go_wp2_with fail
        go_ret
        exact ⟨rfl, HB7.out⟩
      · have hf : ¬ (1 ≤ room ∧ room ≤ 400) := by omega
        have hr := HRES.out
        rw [if_neg hf] at hr
        injection hr with hr1 hr2
        obtain rfl : SL = 0 := by rw [HSL.out, hr1]; rfl
        subst hr2
        clear hf hr1
        go_wp2_with fail
        go_ret
        exact ⟨rfl, HB7.out⟩
      · have hf : 1 ≤ room ∧ room ≤ 400 := by omega
        have hr := HRES.out
        rw [if_pos hf] at hr
        injection hr with hr1 hr2
        subst hr2
        subst hr1
        have HLX := Lib.hid (HLS.out hf)
        have HFX := Lib.hid hf
        clear hf
        go_wp2_with fail
        --LOOK2
        refine (HLX.out _ HB7.out).mono ?_
        rintro e w8 ⟨A8, c8, rfl, hc8, hs8, hb8⟩
        have HB8 : Hid (Below w.heap.size w w8) := HB7.out.trans (hb8.mono HB7.out.size)
        have HEQ2 := Lib.hid (eq_w64s sl sl A4 A8 c4 c8 w8 (bseg_on HSA7.out hb8) hs8 (by have := HS4.out HFX.out; omega) rfl)
        rw [← HSL.out] at HEQ2 ⊢
        clear hc8 hs8 hb8 HLX HSA7
        go_wp2_with fail
        refine HEQ2.out.mono ?_
        rintro e w9 ⟨rfl, m9, rfl⟩
        go_wp2_with fail
        go_ret
        exact ⟨rfl, below_drewN HB8.out _⟩
theorem w64s_of {z : List Int} (h : ∀ n, n ∈ z → (Lit.int .u64 n).wf = true) : ∃ l : List (BitVec 64), z = l.map wv := by
  refine ⟨z.map fun n => BitVec.ofNat 64 n.toNat, ?_⟩
  rw [List.map_map]
  refine (List.map_id' z).symm.trans (List.map_congr_left fun n hn => ?_)
  have := h n hn
  simp [Lit.wf] at this
  obtain ⟨x, rfl⟩ := wv_of n this.1 (by have := this.2; simp [IntKind.max, IntKind.bits, IntKind.signed] at this; omega)
  unfold wv
  simp
theorem BottomJoins_walk (a0 a1 : Int) (A2 : Option Addr) (z2 : List Int) (c2 : Nat) (A3 : Option Addr) (z3 : List Int) (c3 : Nat) (A4 : Option Addr) (z4 : List Int) (c4 : Nat) (w : World)
    (w0 : (Lit.int .u64 a0).wf = true) (w1 : (Lit.int .i64 a1).wf = true)
    (hc2 : z2.length ≤ c2) (hm2 : c2 ≤ maxLen) (hw2 : ∀ n, n ∈ z2 → (Lit.int .u64 n).wf = true) (s2 : Seg w w.heap.size A2 (z2.map (.int .u64)))
    (hc3 : z3.length ≤ c3) (hm3 : c3 ≤ maxLen) (hw3 : ∀ n, n ∈ z3 → (Lit.int .u64 n).wf = true) (s3 : Seg w w.heap.size A3 (z3.map (.int .u64)))
    (hc4 : z4.length ≤ c4) (hm4 : c4 ≤ maxLen) (hw4 : ∀ n, n ∈ z4 → (Lit.int .u64 n).wf = true) (s4 : Seg w w.heap.size A4 (z4.map (.int .u64))) :
    Calls Try.prog 3 #[.int .u64 a0, .int .i64 a1, .slice A2 z2.length c2, .slice A3 z3.length c3, .slice A4 z4.length c4] w fun e w' => e = .returned (.bool true) ∧ Below w.heap.size w w' := by
  have w1 : 0 ≤ a0 ∧ a0 ≤ 18446744073709551615 := by
    simp [Lit.wf] at w0
    exact w0
  obtain ⟨seed, rfl⟩ := wv_of a0 w1.1 (by omega)
  obtain ⟨a, rfl⟩ := w64s_of hw2
  obtain ⟨b, rfl⟩ := w64s_of hw3
  obtain ⟨l, rfl⟩ := w64s_of hw4
  rw [List.map_map] at s2 s3 s4
  rw [List.length_map] at hc2 hc3 hc4
  rw [List.length_map, List.length_map, List.length_map]
  have mx : maxLen ≤ 9223372036854775807 := by decide
  have ha : a.length ≤ 9223372036854775807 := by omega
  have hb : b.length ≤ 9223372036854775807 := by omega
  have hl : l.length ≤ 9223372036854775807 := by omega
  have hj := fun (u : World) (hu : Below w.heap.size w u) => bjoin_any seed a1 A2 A3 a b c2 c3 u ((s2.below hu).more hu.size) ((s3.below hu).more hu.size)
  have hlj := fun (u : World) (hu : Below w.heap.size w u) => ljoin_any seed a1 A2 A3 a b c2 c3 u ((s2.below hu).more hu.size) ((s3.below hu).more hu.size) ha hb
  have hcm := fun (u : World) (hu : Below w.heap.size w u) => bcommon_any seed a1 A2 A3 a b c2 c3 u ((s2.below hu).more hu.size) ((s3.below hu).more hu.size) ha hb
  have hsl : 1 ≤ a1 ∧ a1 ≤ 400 → (bkeep seed a1 l).length ≤ 9223372036854775807 := fun h => by
    have h1 : (bkeep seed a1 l).length ≤ a1.toNat := List.length_take_le _ _
    omega
  have key : ∃ t jc, t.length ≤ 400 ∧ bjres seed a1 a b = (t, jc) ∧ bcres seed a1 a b = (bboth a b t, t.length, jc) := by
    rcases bjres_cases seed a1 a b with ⟨t, e1, e2, e3⟩ | ⟨e1, e2⟩
    · exact ⟨t, 0, e3, e1, e2⟩
    · exact ⟨[], 1, by simp, e1, e2⟩
  obtain ⟨t, jc, ht, e1, e2⟩ := key
  rw [e1] at hj hlj
  rw [e2] at hcm
  refine botj_core seed a1 A2 A3 A4 a.length b.length l.length c2 c3 c4 w t (bkeep seed a1 l) jc (bboth a b t) (bright seed a1 a) (fun x => decide (x ∈ a)) (fun x => decide (x ∈ b)) ht hsl hj hlj hcm ?_ ?_ ?_ ?_ ?_ ?_ rfl
  · exact fun u hu => bright_any seed a1 A2 a c2 _ u ((s2.below hu).more hu.size)
  · exact fun u hu => lright_any seed a1 A2 a c2 u ((s2.below hu).more hu.size) ha
  · exact fun x u hu => has_u64 a x A2 c2 _ u ((s2.below hu).more hu.size) (by omega)
  · exact fun x u hu => has_u64 b x A3 c3 _ u ((s3.below hu).more hu.size) (by omega)
  · exact fun u hu => ball_any seed a1 A4 l c4 u ((s4.below hu).more hu.size) hl
  · intro hr u hu
    obtain ⟨R, rfl⟩ : ∃ R : Nat, a1 = (R : Int) := ⟨a1.toNat, by omega⟩
    exact lleast_any seed R A4 l c4 u (by omega) ((s4.below hu).more hu.size) hl
end Go.Proofs.Ytkffakekakhgdaa
