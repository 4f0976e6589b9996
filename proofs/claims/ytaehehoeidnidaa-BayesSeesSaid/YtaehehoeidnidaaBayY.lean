/- The law BayesSees, walked: for all lists that come in it says true. No condition but the rows' own size. -/
import Derived.Test.YtaehehoeidnidaaBayX
import Derived.Test.YtaehehoeidnidaaBayB
import Derived.Test.YtaehehoeidnidaaSeqE
namespace Go.Proofs.Ytaehehoeidnidaa
open Go.ChangeShapes Go.WideShapes Go.ChangeAt Go.RowKit
set_option linter.unusedVariables false

theorem seg_on {w w' : World} {A : Option Addr} {xs : List Value} (h : Seg w w.heap.size A xs) (hb : Below w.heap.size w w') : Seg w' w'.heap.size A xs := (h.below hb).more hb.size
theorem next_any (A C D : Option Addr) (prior : List Int) (l : List Rw) (seen : List Int) (c d f : Nat) (w : World) (hp : Seg w w.heap.size A (prior.map (.int .i64))) (hl : RowsOk w w.heap.size C l) (hs : Seg w w.heap.size D (seen.map (.int .i64)))
    (hm : prior.length ≤ 9223372036854775807) (hm2 : l.length ≤ 9223372036854775807) (hm3 : seen.length ≤ 9223372036854775807) (hz8 : RowsSz l) :
    Calls Try.prog 35 #[.slice A prior.length c, .slice C l.length d, .slice D seen.length f] w fun e w' => SOut w w' e (bnext prior (nums l) seen).1 (bnext prior (nums l) seen).2 := by
  by_cases he : (bsee prior (nums l) seen).2 = 0
  · have e : bnext prior (nums l) seen = (lowL (bsums (bsee prior (nums l) seen).1 (nums l) ((nums l).headD []).length), 0) := if_neg (by simp [he])
    rw [e]
    exact next_ok A C D prior l seen c d f w hp hl hs hm hm2 hm3 hz8 he
  · have e : bnext prior (nums l) seen = ([], (bsee prior (nums l) seen).2) := if_pos he
    rw [e]
    refine (next_bad A C D prior l seen c d f w hp hl hs hm hm2 hm3 he).mono ?_
    rintro e w' ⟨rfl, hb⟩
    exact SOut.nil_ hb
theorem unext_any (A C D : Option Addr) (prior : List Int) (l : List Rw) (seen : List Int) (c d f : Nat) (w : World) (hp : Seg w w.heap.size A (prior.map (.int .i64))) (hl : RowsOk w w.heap.size C l) (hs : Seg w w.heap.size D (seen.map (.int .i64)))
    (hm : prior.length ≤ 9223372036854775807) (hm2 : l.length ≤ 9223372036854775807) (hm3 : seen.length ≤ 9223372036854775807) (hz8 : RowsSz l) :
    Calls Try.prog 36 #[.slice A prior.length c, .slice C l.length d, .slice D seen.length f] w fun e w' => SOut w w' e (bnext prior (nums l) seen).1 (bnext prior (nums l) seen).2 := by
  by_cases he : (bsee prior (nums l) seen).2 = 0
  · have e : bnext prior (nums l) seen = (lowL (bsums (bsee prior (nums l) seen).1 (nums l) ((nums l).headD []).length), 0) := if_neg (by simp [he])
    rw [e]
    exact unext_ok A C D prior l seen c d f w hp hl hs hm hm2 hm3 hz8 he
  · have e : bnext prior (nums l) seen = ([], (bsee prior (nums l) seen).2) := if_pos he
    rw [e]
    refine (unext_bad A C D prior l seen c d f w hp hl hs hm hm2 hm3 he).mono ?_
    rintro e w' ⟨rfl, hb⟩
    exact SOut.nil_ hb
theorem bsee_len (prior : List Int) (M : List (List Int)) (seen : List Int) : (bsee prior M seen).1.length ≤ 9223372036854775807 := by
  by_cases h : (bsee prior M seen).2 = 0
  · have h1 := sok_of h
    have := h1.len; have := h1.ok.le; omega
  · have h0 : bsee prior M seen = ([], (bsee prior M seen).2) := by
      by_cases h1 : bwrong prior M = 0
      · by_cases h2 : 12 < seen.length
        · unfold bsee; rw [if_neg (by omega), if_pos h2]
        · by_cases h3 : seen.any (bbad (M.headD []).length) = true
          · unfold bsee; rw [if_neg (by omega), if_neg h2, if_pos h3]
          · exfalso; apply h; unfold bsee; rw [if_neg (by omega), if_neg h2, if_neg h3]
      · unfold bsee; rw [if_pos h1]
    rw [h0]; exact Nat.zero_le _
theorem headD_len {W : World} {B : Nat} {C : Option Addr} {l : List Rw} (hl : RowsOk W B C l) (hz : RowsSz l) : ((nums l).headD []).length ≤ 9223372036854775807 := by
  cases l with
  | nil => exact Nat.zero_le _
  | cons x l =>
    have h1 := (hl.2 x (List.mem_cons_self ..)).2.1
    have h2 : x.2.2 * 8 ≤ 140737488351232 := hz x (List.mem_cons_self ..)
    show x.2.1.length ≤ _
    omega
theorem bnext_len {W : World} {B : Nat} {C : Option Addr} {prior : List Int} {l : List Rw} {seen : List Int} (hl : RowsOk W B C l) (hz : RowsSz l) : (bnext prior (nums l) seen).1.length ≤ 9223372036854775807 := by
  have h := headD_len hl hz
  unfold bnext
  split
  · exact Nat.zero_le _
  · show (lowL _).length ≤ _
    rw [lowL_len]; unfold bsums; rw [tab_len]; exact h
/-- What is said of the greatest. -/
theorem bbest_says (prior : List Int) (M : List (List Int)) (seen : List Int) :
    ((bsee prior M seen).2 ≠ 0 → (bbest prior M seen).1 = 0 ∧ (bbest prior M seen).2 = (bsee prior M seen).2) ∧
    ((bsee prior M seen).2 = 0 → 0 < (bsee prior M seen).1.length ∧ (bmost (bsee prior M seen).1 = 0 → (bbest prior M seen).1 = 0 ∧ (bbest prior M seen).2 = 3) ∧
      (bmost (bsee prior M seen).1 ≠ 0 → (bbest prior M seen).1 = ((bbi (bsee prior M seen).1 (bsee prior M seen).1.length : Nat) : Int) ∧ (bbest prior M seen).2 = 0)) := by
  refine ⟨fun h => ?_, fun h => ⟨?_, fun h2 => ?_, fun h2 => ?_⟩⟩
  · unfold bbest; rw [if_pos h]; exact ⟨rfl, rfl⟩
  · have h1 := sok_of h
    have := h1.len; have := h1.ok.pos; omega
  · unfold bbest; rw [if_neg (by simp [h]), if_pos h2]; exact ⟨rfl, rfl⟩
  · unfold bbest; rw [if_neg (by simp [h]), if_neg h2]; exact ⟨rfl, rfl⟩
set_option maxRecDepth 20000 in
set_option maxHeartbeats 8000000 in
theorem BayesSees_walk (A0 : Option Addr) (z0 : List Int) (c0 : Nat) (x1 : RowsX) (A2 : Option Addr) (z2 : List Int) (c2 : Nat) (w : World)
    (hc0 : z0.length ≤ c0) (hm0 : c0 ≤ maxLen) (hw0 : ∀ n, n ∈ z0 → (Lit.int .i64 n).wf = true) (s0 : Seg w w.heap.size A0 (z0.map (.int .i64)))
    (s1 : RowsOk w w.heap.size x1.1 x1.2.1 ∧ x1.2.1.length ≤ x1.2.2 ∧ x1.2.2 ≤ maxLen ∧ RowsSz x1.2.1)
    (hc2 : z2.length ≤ c2) (hm2 : c2 ≤ maxLen) (hw2 : ∀ n, n ∈ z2 → (Lit.int .i64 n).wf = true) (s2 : Seg w w.heap.size A2 (z2.map (.int .i64))) :
    Calls Try.prog 5 #[.slice A0 z0.length c0, RowsV x1, .slice A2 z2.length c2] w fun e w' => e = .returned (.bool true) ∧ Below w.heap.size w w' := by
  obtain ⟨C, l, d⟩ := x1
  obtain ⟨r1, r2, r3, r4⟩ := s1
  have hmx : maxLen = 9223372036854775807 := rfl
  rw [hmx] at hm0 hm2 r3
  have l0 : z0.length ≤ 9223372036854775807 := Nat.le_trans hc0 hm0
  have l1 : l.length ≤ 9223372036854775807 := Nat.le_trans r2 r3
  have l2 : z2.length ≤ 9223372036854775807 := Nat.le_trans hc2 hm2
  have HSE := Lib.hid (see_any A0 C A2 z0 l z2 c0 d c2 w s0 r1 s2 l0 l1 l2)
  have HUS := Lib.hid (fun (u : World) (h : Below w.heap.size w u) => usee_any A0 C A2 z0 l z2 c0 d c2 u (seg_on s0 h) (r1.on h) (seg_on s2 h) l0 l1 l2)
  have HNX := Lib.hid (fun (u : World) (h : Below w.heap.size w u) => next_any A0 C A2 z0 l z2 c0 d c2 u (seg_on s0 h) (r1.on h) (seg_on s2 h) l0 l1 l2 r4)
  have HUN := Lib.hid (fun (u : World) (h : Below w.heap.size w u) => unext_any A0 C A2 z0 l z2 c0 d c2 u (seg_on s0 h) (r1.on h) (seg_on s2 h) l0 l1 l2 r4)
  have HBE := Lib.hid (fun (u : World) (h : Below w.heap.size w u) => best_any A0 C A2 z0 l z2 c0 d c2 u (seg_on s0 h) (r1.on h) (seg_on s2 h) l0 l1 l2)
  have HWR := Lib.hid (fun (u : World) (h : Below w.heap.size w u) => bwrong_any A0 C z0 l c0 d u.heap.size u (seg_on s0 h) (r1.on h) l0 l1)
  have HUW := Lib.hid (fun (u : World) (h : Below w.heap.size w u) => uwrong_any A0 C z0 l c0 d u.heap.size u (seg_on s0 h) (r1.on h) l0 l1)
  have HPL := Lib.hid (bsee_len z0 (nums l) z2)
  have HNL := Lib.hid (bnext_len (prior := z0) (seen := z2) r1 r4)
  have HSY := Lib.hid (bbest_says z0 (nums l) z2)
  obtain ⟨P, hP⟩ : ∃ P, P = (bsee z0 (nums l) z2).1 := ⟨_, rfl⟩
  obtain ⟨z, hz⟩ : ∃ z, z = (bsee z0 (nums l) z2).2 := ⟨_, rfl⟩
  obtain ⟨N, hN⟩ : ∃ N, N = (bnext z0 (nums l) z2).1 := ⟨_, rfl⟩
  obtain ⟨y, hy⟩ : ∃ y, y = (bnext z0 (nums l) z2).2 := ⟨_, rfl⟩
  obtain ⟨bb, hbb⟩ : ∃ bb, bb = (bbest z0 (nums l) z2).1 := ⟨_, rfl⟩
  obtain ⟨bi, hbi⟩ : ∃ bi, bi = (bbest z0 (nums l) z2).2 := ⟨_, rfl⟩
  obtain ⟨q, hq⟩ : ∃ q, q = bwrong z0 (nums l) := ⟨_, rfl⟩
  rw [← hP, ← hz] at HSE HUS HSY
  rw [← hN, ← hy] at HNX HUN
  rw [← hbb, ← hbi] at HBE HSY
  rw [← hq] at HWR HUW
  rw [← hP] at HPL
  rw [← hN] at HNL
  clear hP hz hN hy hbb hbi hq s0 r1 r2 r3 r4 s2 l0 l1 l2 hc0 hm0 hw0 hc2 hm2 hw2 hmx
  go_enter Try.func5, Try.ntmps5
  go_wp2_with fail
  refine HSE.out.mono ?_
  rintro e w1 ⟨A1, k1, rfl, hk1, hs1, hb1⟩
  have HB1 := Lib.hid hb1
  have HS1 := Lib.hid hs1
  clear hk1 hs1 hb1
  go_wp2_with fail
  refine (HUS.out w1 HB1.out).mono ?_
  rintro e w2 ⟨A3, k2, rfl, hk2, hs2, hb2⟩
  have HB2 : Hid (Below w.heap.size w w2) := HB1.out.trans (hb2.mono HB1.out.size)
  have HS12 := Lib.hid (seg_on HS1.out hb2)
  have HS2 := Lib.hid hs2
  clear hk2 hs2 hb2 HS1 HB1
  go_wp2_with fail
  refine (HNX.out w2 HB2.out).mono ?_
  rintro e w3 ⟨A4, k3, rfl, hk3, hs3, hb3⟩
  have HB3 : Hid (Below w.heap.size w w3) := HB2.out.trans (hb3.mono HB2.out.size)
  have HS13 := Lib.hid (seg_on HS12.out hb3)
  have HS23 := Lib.hid (seg_on HS2.out hb3)
  have HS3 := Lib.hid hs3
  clear hk3 hs3 hb3 HS12 HS2 HB2
  go_wp2_with fail
  refine (HUN.out w3 HB3.out).mono ?_
  rintro e w4 ⟨A5, k4, rfl, hk4, hs4, hb4⟩
  have HB4 : Hid (Below w.heap.size w w4) := HB3.out.trans (hb4.mono HB3.out.size)
  have HS14 := Lib.hid (seg_on HS13.out hb4)
  have HS24 := Lib.hid (seg_on HS23.out hb4)
  have HS34 := Lib.hid (seg_on HS3.out hb4)
  have HS4 := Lib.hid hs4
  clear hk4 hs4 hb4 HS13 HS23 HS3 HB3
  go_wp2_with fail
  refine (HBE.out w4 HB4.out).mono ?_
  rintro e w5 ⟨rfl, hb5⟩
  have HB5 : Hid (Below w.heap.size w w5) := HB4.out.trans (hb5.mono HB4.out.size)
  have HS15 := Lib.hid (seg_on HS14.out hb5)
  have HS25 := Lib.hid (seg_on HS24.out hb5)
  have HS35 := Lib.hid (seg_on HS34.out hb5)
  have HS45 := Lib.hid (seg_on HS4.out hb5)
  have HD := Lib.hid (fun n => below_drewN (Below.refl w5.heap.size w5) n)
  clear hb5 HS14 HS24 HS34 HS4 HB4
  go_wp2_with fail
  refine (HWR.out w5 HB5.out).mono ?_
  rintro e w6 ⟨rfl, m6, rfl⟩
  have HB6 : Hid (Below w.heap.size w (w5.drewN m6)) := below_drewN HB5.out m6
  go_wp2_with fail
  refine (HUW.out _ HB6.out).mono ?_
  rintro e w7 ⟨rfl, m7, rfl⟩
  obtain ⟨u7, hu7⟩ : ∃ u, u = (w5.drewN m6).drewN m7 := ⟨_, rfl⟩
  have HB7 : Hid (Below w.heap.size w u7) := by rw [hu7]; exact below_drewN HB6.out m7
  have hD7 : Below w5.heap.size w5 u7 := by rw [hu7]; exact below_drewN (HD.out m6) m7
  have HS17 := Lib.hid (seg_on HS15.out hD7)
  have HS27 := Lib.hid (seg_on HS25.out hD7)
  have HS37 := Lib.hid (seg_on HS35.out hD7)
  have HS47 := Lib.hid (seg_on HS45.out hD7)
  rw [← hu7]
  clear HS15 HS25 HS35 HS45 hu7 hD7 HB5 HB6 HD
  have b1 : (q != q) = false := by simp
  have b2 : (z != z) = false := by simp
  have b3 : (y != y) = false := by simp
  go_wp2_with fail
  refine (eq_same P A1 A3 k1 k2 _ HS17.out HS27.out HPL.out).mono ?_
  rintro e w8 ⟨rfl, m8, rfl⟩
  obtain ⟨u8, hu8⟩ : ∃ u, u = u7.drewN m8 := ⟨_, rfl⟩
  have hD8 : Below u7.heap.size u7 u8 := by rw [hu8]; exact below_drewN (Below.refl _ _) m8
  have HB8 : Hid (Below w.heap.size w u8) := by rw [hu8]; exact below_drewN HB7.out m8
  have HS28 := Lib.hid (seg_on HS27.out hD8)
  have HS38 := Lib.hid (seg_on HS37.out hD8)
  have HS48 := Lib.hid (seg_on HS47.out hD8)
  rw [← hu8]
  clear HS17 HS27 HS37 HS47 hu8 hD8 HB7
  go_wp2_with fail
  refine (eq_same N A4 A5 k3 k4 _ HS38.out HS48.out HNL.out).mono ?_
  rintro e w9 ⟨rfl, m9, rfl⟩
  obtain ⟨u9, hu9⟩ : ∃ u, u = u8.drewN m9 := ⟨_, rfl⟩
  have hD9 : Below u8.heap.size u8 u9 := by rw [hu9]; exact below_drewN (Below.refl _ _) m9
  have HB9 : Hid (Below w.heap.size w u9) := by rw [hu9]; exact below_drewN HB8.out m9
  have HS29 := Lib.hid (seg_on HS28.out hD9)
  rw [← hu9]
  clear HS28 HS38 HS48 hu9 hD9 HB8
  by_cases hz : z = 0
  · obtain ⟨p0, pm0, pm1⟩ := HSY.out.2 hz
    subst hz
    by_cases hm : bmost P = 0
    · obtain ⟨rfl, rfl⟩ := pm0 hm
      have b4 : (bmost P == 0) = true := by simp [hm]
      have HP0 := Lib.hid p0
      clear p0 pm0 pm1 hm HSY
      go_wp2_with fail
      refine (max_any A3 P k2 _ _ HS29.out HP0.out HPL.out).mono ?_
      rintro e w10 ⟨rfl, m10, rfl⟩
      go_wp2_with fail
      go_ret
      exact ⟨rfl, below_drewN HB9.out m10⟩
    · obtain ⟨rfl, rfl⟩ := pm1 hm
      have b4 : (bmost P == 0) = false := by simp [hm]
      have HP0 := Lib.hid p0
      clear p0 pm0 pm1 hm HSY
      go_wp2_with fail
      refine (max_any A3 P k2 _ _ HS29.out HP0.out HPL.out).mono ?_
      rintro e w10 ⟨rfl, m10, rfl⟩
      have HB10 : Hid (Below w.heap.size w (u9.drewN m10)) := below_drewN HB9.out m10
      have HS210 : Hid (Seg (u9.drewN m10) u9.heap.size A3 (P.map (.int .i64))) := HS29.out.below (below_drewN (Below.refl _ _) m10)
      go_wp2_with fail
      refine (index_any A3 P k2 _ _ HS210.out HP0.out HPL.out).mono ?_
      rintro e w11 ⟨rfl, m11, rfl⟩
      go_wp2_with fail
      go_ret
      exact ⟨rfl, by first | exact below_drewN HB9.out _ | exact below_drewN HB10.out m11⟩
  · obtain ⟨rfl, rfl⟩ := HSY.out.1 hz
    have b4 : (bi != 0) = true := by simp [hz]
    clear hz HSY
    go_wp2_with fail
    go_ret
    exact ⟨rfl, HB9.out⟩
end Go.Proofs.Ytaehehoeidnidaa
