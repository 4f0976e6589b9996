/- slices.Equal at []string, walked; bench.Tell on the text that alive asks; alive; the law BenchTells: walked. No condition but the text's own size and the library's tables. -/
import Derived.Test.YtmibifmabkaakaaDoorBenT
namespace Go.Proofs.YtmibifmabkaakaaDoor
open Go.ChangeShapes Go.WideShapes Go.ChangeAt Go.RowKit
set_option linter.unusedVariables false

theorem take_step_strs (zs ys : List Bs) (j : Nat) (h1 : j < zs.length) (h2 : j < ys.length) (h : zs.take j = ys.take j) (e : zs[j] = ys[j]) : zs.take (j + 1) = ys.take (j + 1) := by
  rw [List.take_succ_eq_append_getElem h1, List.take_succ_eq_append_getElem h2, h, e]
set_option maxHeartbeats 400000 in
theorem eq_strs (zs ys : List Bs) (A C : Option Addr) (c d B : Nat) (w : World) (hs : Seg w B A (zs.map SV)) (ht : Seg w B C (ys.map SV)) (hm : zs.length ≤ 9223372036854775807) :
    Calls Tryd.prog 36 #[.slice A zs.length c, .slice C ys.length d] w fun e w' => e = .returned (.bool (decide (zs = ys))) ∧ ∃ n, w' = w.drewN n := by
  by_cases hl : zs.length = ys.length
  · have b0 : ((zs.length : Int) != (ys.length : Int)) = false := by rw [hl]; simp
    have HL := Lib.hid hl
    have hle : zs.length ≤ ys.length := by omega
    clear hl
    go_enter Tryd.func36, Tryd.ntmps36
    go_wp2
    go_loopw [13] (fun i wr => ∃ j : Nat, j ≤ zs.length ∧ i = .int .i64 j ∧ Hid (zs.take j = ys.take j) ∧ ∃ n, wr = w.drewN n) (fun i _ => zs.length - (intOf i).toNat)
    case atStart => exact ⟨0, Nat.zero_le _, rfl, rfl, 0, rfl⟩
    case round =>
      obtain ⟨j, hj, rfl, hp, n, rfl⟩ := hrel
      by_cases hlt : j < zs.length
      · have hlt2 : j < ys.length := by omega
        have hi1 : (j : Int) < (zs.length : Int) := by omega
        have hi2 : (j : Int) < (ys.length : Int) := by omega
        obtain ⟨ad, rfl, _, hc⟩ := hs.get (k := j) (u := SV zs[j]) (by rw [List.getElem?_map, List.getElem?_eq_getElem hlt]; rfl)
        obtain ⟨ae, rfl, _, hd⟩ := ht.get (k := j) (u := SV ys[j]) (by rw [List.getElem?_map, List.getElem?_eq_getElem hlt2]; rfl)
        have hstep := Lib.hid (take_step_strs zs ys j hlt hlt2 hp.out)
        have hnot : Hid (zs[j] ≠ ys[j] → decide (zs = ys) = false) := fun h => decide_eq_false (fun h1 => h (by simp [h1]))
        obtain ⟨x, hx⟩ : ∃ x, x = zs[j] := ⟨_, rfl⟩
        obtain ⟨y, hy⟩ : ∃ y, y = ys[j] := ⟨_, rfl⟩
        rw [← hx] at hc hstep hnot
        rw [← hy] at hd hstep hnot
        clear hx hy
        obtain ⟨XB, hXB⟩ : ∃ XB : ByteArray, XB = ⟨x.toArray⟩ := ⟨_, rfl⟩
        obtain ⟨YB, hYB⟩ : ∃ YB : ByteArray, YB = ⟨y.toArray⟩ := ⟨_, rfl⟩
        have hcmp : (XB.toList == YB.toList) = decide (x = y) := by
          rw [hXB, hYB, Lib.toList_data, Lib.toList_data]
          by_cases h : x = y
          · rw [h]; simp
          · rw [decide_eq_false h, beq_eq_false_iff_ne]; exact h
        rw [show SV x = Value.string XB by rw [hXB]] at hc
        rw [show SV y = Value.string YB by rw [hYB]] at hd
        clear hXB hYB
        by_cases he : x = y
        · rw [decide_eq_true he] at hcmp
          have HE := Lib.hid he
          clear he
          go_wp2
          go_quiet (fail)
          go_wp2
          go_roundw
          case rel => exact ⟨j + 1, by omega, by go_num, hstep.out HE.out, _, rfl⟩
          case measure => simp [intOf]; omega
        · rw [decide_eq_false he] at hcmp
          have HN := Lib.hid (hnot.out he)
          clear he
          go_wp2
          go_quiet (fail)
          go_wp2
          go_ret
          exact ⟨by rw [HN.out]; rfl, n + nq, by rw [World.drewN_drewN]⟩
      · have HF : Hid (decide (zs = ys) = true) := by
          have h := hp.out
          rw [List.take_of_length_le (by omega), List.take_of_length_le (by have := HL.out; omega)] at h
          exact decide_eq_true h
        have hi1 : ¬ (j : Int) < (zs.length : Int) := by omega
        go_wp2
        go_ret
        exact ⟨by rw [HF.out]; rfl, _, rfl⟩
  · have b0 : ((zs.length : Int) != (ys.length : Int)) = true := by rw [bne_iff_ne]; omega
    have HN : Hid (decide (zs = ys) = false) := decide_eq_false (fun h => hl (by rw [h]))
    clear hl
    go_enter Tryd.func36, Tryd.ntmps36
    go_wp2
    go_ret
    exact ⟨by rw [HN.out]; rfl, 0, rfl⟩
set_option maxRecDepth 20000 in
set_option maxHeartbeats 4000000 in
theorem benchTells_core (T : ByteArray) (w : World) (r : List Bs × Nat) (hr : r.1.length ≤ 9223372036854775807)
    (h1 : ∀ u, Below w.heap.size w u → Calls Tryd.prog 34 #[.string T] u fun e w' => TeOut u r e w')
    (h2 : ∀ u, Below w.heap.size w u → Calls Tryd.prog 35 #[.string T] u fun e w' => TeOut u r e w') :
    Calls Tryd.prog 8 #[.string T] w fun e w' => e = .returned (.bool true) ∧ Below w.heap.size w w' := by
  obtain ⟨l, c⟩ := r
  obtain ⟨n, hn⟩ : ∃ n, n = l.length := ⟨_, rfl⟩
  have hr : l.length ≤ 9223372036854775807 := hr
  have H1 : Hid (∀ u, Below w.heap.size w u → Calls Tryd.prog 34 #[.string T] u fun e w' => ∃ A cc, e = .returned (.tuple #[.slice A n cc, .int .i64 (c : Nat)]) ∧ n ≤ cc ∧ Seg w' w'.heap.size A (l.map SV) ∧ Below u.heap.size u w') := by rw [hn]; exact h1
  have H2 : Hid (∀ u, Below w.heap.size w u → Calls Tryd.prog 35 #[.string T] u fun e w' => ∃ A cc, e = .returned (.tuple #[.slice A n cc, .int .i64 (c : Nat)]) ∧ n ≤ cc ∧ Seg w' w'.heap.size A (l.map SV) ∧ Below u.heap.size u w') := by rw [hn]; exact h2
  have HEQ : Hid (∀ (u : World) (A C : Option Addr) (cc d : Nat), Seg u u.heap.size A (l.map SV) → Seg u u.heap.size C (l.map SV) → Calls Tryd.prog 36 #[.slice A n cc, .slice C n d] u fun e w' => e = .returned (.bool true) ∧ ∃ n, w' = u.drewN n) := fun u A C cc d hs ht => by
    have h := eq_strs l l A C cc d u.heap.size u hs ht hr
    rw [decide_eq_true rfl, ← hn] at h
    exact h
  have b0 : ((c : Int) == (c : Int)) = true := by simp
  clear h1 h2 hr hn
  go_enter Tryd.func8, Tryd.ntmps8
  go_wp2_with fail
  refine (H1.out _ (Below.refl _ _)).mono ?_
  rintro e w1 ⟨A1, c1, rfl, _, hs1, hb1⟩
  have HS1 := Lib.hid hs1
  have HB1 := Lib.hid hb1
  clear hs1 hb1
  go_wp2_with fail
  refine (H2.out _ HB1.out).mono ?_
  rintro e w2 ⟨A2, c2, rfl, _, hs2, hb2⟩
  have HS1b := Lib.hid ((HS1.out.below hb2).more hb2.size)
  have HS2 := Lib.hid hs2
  have HB2 : Hid (Below w.heap.size w w2) := HB1.out.trans (hb2.mono HB1.out.size)
  clear hs2 hb2
  go_wp2_with fail
  refine (HEQ.out _ _ _ _ _ HS1b.out HS2.out).mono ?_
  rintro e w3 ⟨rfl, m3, rfl⟩
  go_wp2_with fail
  go_ret
  exact ⟨rfl, below_drewN HB2.out _⟩
theorem tellR_len (t : Bs) : (tellR t).1.length ≤ t.length + 1 := by
  unfold tellR
  split
  · simp
  · split
    · rw [List.length_append, tgo_len]
      obtain ⟨room, l, k, c, h⟩ : ∃ a b c d, parseR t = (a, b, c, d) := ⟨_, _, _, _, rfl⟩
      have := (parse_ok h).2.1
      rw [h]
      simp
      omega
    · simp
theorem BenchTells_walk (s : ByteArray) (w : World) (hs : s.size ≤ 4000000000) (hL : LibW w) :
    Calls Tryd.prog 8 #[.string s] w fun e w' => e = .returned (.bool true) ∧ Below w.heap.size w w' := by
  have e : Value.string s = SV s.data.toList := sv_of s
  have e2 : s = ⟨s.data.toList.toArray⟩ := by rw [Array.toArray_toList]
  have hl : s.data.toList.length ≤ 4000000000 := by have : s.data.toList.length = s.size := by rw [Array.length_toList]; rfl
                                                    omega
  have hr := tellR_len s.data.toList
  refine benchTells_core s w (tellR s.data.toList) (by omega) (fun u hu => ?_) (fun u hu => ?_)
  · rw [e]; exact tell_any _ hl u (hL.below hu)
  · rw [e]; exact ztell_any _ hl u (hL.below hu)
/-! ### the closed fact that the statements on the whole ask first -/
def aliveT : Bs := [114, 111, 111, 109, 32, 49, 10, 97, 100, 100, 32, 52, 32, 48, 10, 97, 100, 100, 32, 54, 32, 48, 10, 97, 100, 100, 32, 56, 32, 50, 10]
theorem itoa_dec (n : Nat) : Lib.itoa (n : Int) = Lib.decDigits n := by
  unfold Lib.itoa
  rw [if_neg (by omega), Int.toNat_natCast]
theorem alive_parse : parseR aliveT = (1, [(4, 0), (6, 0), (8, 2)], 0, 0) := by decide +kernel
theorem alive_tgo : tgo (((1 : Int), 0, []), []) [(4, 0), (6, 0), (8, 2)] = ((1, 3, [6]), [okS, okS, okS]) := by decide +kernel
theorem alive_tell : tellR aliveT = ([okS, okS, okS, [107, 101, 112, 116, 32, 51, 32, 54]], 0) := by
  have h3 : Lib.itoa 3 = [51] := by rw [show (3 : Int) = ((3 : Nat) : Int) from rfl, itoa_dec, Lib.decDigits_one (by decide)]; rfl
  have h6 : Lib.itoa 6 = [54] := by rw [show (6 : Int) = ((6 : Nat) : Int) from rfl, itoa_dec, Lib.decDigits_one (by decide)]; rfl
  unfold tellR
  rw [alive_parse]
  simp only
  rw [if_neg (by decide), if_pos (by decide)]
  have e : ((((1 : Nat) : Int), 0, []) : Pl) = ((1 : Int), 0, []) := rfl
  rw [e, alive_tgo]
  simp only
  unfold keptS
  simp only [h3, List.length_singleton, List.take_succ_cons, List.take_zero, List.flatMap_cons, List.flatMap_nil, h6]
  rfl
set_option maxRecDepth 20000 in
set_option maxHeartbeats 4000000 in
theorem alive_any (w : World) (hL : LibW w) : Calls Tryd.prog 11 #[] w fun e w' => e = .returned (.bool true) ∧ Below w.heap.size w w' := by
  have HT : Hid (∀ u, LibW u → Calls Tryd.prog 34 #[.string ⟨aliveT.toArray⟩] u fun e w' => ∃ A cc, e = .returned (.tuple #[.slice A 4 cc, .int .i64 0]) ∧ Seg w' w'.heap.size A ([okS, okS, okS, [107, 101, 112, 116, 32, 51, 32, 54]].map SV) ∧ Below u.heap.size u w') := fun u hu => by
    have h := tell_any aliveT (by decide) u hu
    rw [alive_tell] at h
    exact h.mono fun e w' ⟨A, c, h1, _, h3, h4⟩ => ⟨A, c, h1, h3, h4⟩
  have HEQ : Hid (∀ (u : World) (A C : Option Addr) (cc d : Nat), Seg u u.heap.size A ([okS, okS, okS, [107, 101, 112, 116, 32, 51, 32, 54]].map SV) → Seg u u.heap.size C ([okS, okS, okS, [107, 101, 112, 116, 32, 51, 32, 54]].map SV) → Calls Tryd.prog 36 #[.slice A 4 cc, .slice C 4 d] u fun e w' => e = .returned (.bool true) ∧ ∃ n, w' = u.drewN n) := fun u A C cc d hs ht => by
    have h := eq_strs [okS, okS, okS, [107, 101, 112, 116, 32, 51, 32, 54]] [okS, okS, okS, [107, 101, 112, 116, 32, 51, 32, 54]] A C cc d u.heap.size u hs ht (by decide)
    rw [decide_eq_true rfl] at h
    exact h
  go_enter Tryd.func11, Tryd.ntmps11
  go_wp2_with fail
  refine (HT.out _ hL).mono ?_
  rintro e w1 ⟨A1, c1, rfl, hs1, hb1⟩
  have HS1 := Lib.hid hs1
  have HB1 := Lib.hid hb1
  clear hs1 hb1
  go_wp2_with fail
  have HS1b : Hid (Seg (w1.alloc (.cells #[SV okS, SV okS, SV okS, SV [107, 101, 112, 116, 32, 51, 32, 54]] 9)) (w1.alloc (.cells #[SV okS, SV okS, SV okS, SV [107, 101, 112, 116, 32, 51, 32, 54]] 9)).heap.size A1 ([okS, okS, okS, [107, 101, 112, 116, 32, 51, 32, 54]].map SV)) := (HS1.out.alloc (Nat.le_refl _) _).more (by simp)
  have HS2 : Hid (Seg (w1.alloc (.cells #[SV okS, SV okS, SV okS, SV [107, 101, 112, 116, 32, 51, 32, 54]] 9)) (w1.alloc (.cells #[SV okS, SV okS, SV okS, SV [107, 101, 112, 116, 32, 51, 32, 54]] 9)).heap.size (some ⟨w1.heap.size, 0, none⟩) ([okS, okS, okS, [107, 101, 112, 116, 32, 51, 32, 54]].map SV)) := seg_block w1 ([okS, okS, okS, [107, 101, 112, 116, 32, 51, 32, 54]].map SV) 9
  refine (HEQ.out _ _ _ _ _ HS1b.out HS2.out).mono ?_
  rintro e w3 ⟨rfl, m3, rfl⟩
  go_wp2_with fail
  go_ret
  exact ⟨rfl, below_drewN (HB1.out.alloc HB1.out.size _) _⟩
end Go.Proofs.YtmibifmabkaakaaDoor
