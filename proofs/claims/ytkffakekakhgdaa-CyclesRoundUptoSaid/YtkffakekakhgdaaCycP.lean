/- The law CyclesRound, walked: it returns true. -/
import Derived.Test.YtkffakekakhgdaaCycQ
import Derived.Test.YtkffakekakhgdaaCycS
import Derived.Test.YtkffakekakhgdaaCycT
import Derived.Test.YtkffakekakhgdaaCycD
import Derived.Test.YtkffakekakhgdaaCycG
import Derived.Test.YtkffakekakhgdaaCycI
import Derived.Test.YtkffakekakhgdaaCycJ
import Derived.Test.YtkffakekakhgdaaPerD
namespace Go.Proofs.Ytkffakekakhgdaa
open Go.ChangeShapes Go.WideShapes Go.ChangeAt Go.RowKit
set_option linter.unusedVariables false

theorem round_perm {p : List Int} (hp : permB p = true) : permB (roundR p) = true ∧ flatR (roundR p) = p := by
  have hi := recI_is (f := p) (fun x hx => ((permB_mem hp).1 hx).1) p.length (Nat.le_refl _)
  rw [List.take_length] at hi
  refine ⟨outR_perm (by rw [hi.flat]; exact hp), ?_⟩
  have h := round_flat hi hp
  have e : (roundR p).length = p.length := by unfold roundR; rw [outR_len, hi.flat]
  unfold flatR
  rw [e]
  exact h
theorem odd_sign {p : List Int} (hp : permB p = true) : decide (invs (qf p) p.length % 2 = 1) = oddR p := by
  unfold oddR
  rw [← sign_is p.length (qf p) (permF_of hp)]
  congr 3
  unfold ofR
  rw [List.length_map]
theorem cr_uy {y : Nat} (h : y ≤ 1000) : wrap64 ((y : Int) + 1) = ((y + 1 : Nat) : Int) := by unfold wrap64; omega
theorem cr_ys {y z g : Nat} (h : y = z + g) : y + 1 = z + (g + 1) := by omega
theorem cr_yb {q : Nat → Nat} {n k j y z : Nat} (hn : n ≤ 20) (hk : k < n) (hj : j < k) (hz : z = invs q k) (hy : y = z + gts q (q k) j) : y ≤ 1000 := by
  have h1 := invs_le q n k (by omega)
  have h2 := gts_le q (q k) j
  have h6 : n * k ≤ 20 * 20 := Nat.mul_le_mul hn (by omega)
  omega
theorem cr_mod {z : Nat} {bo : Bool} (h : decide (z % 2 = 1) = bo) : ((z : Int) % 2 == 1) = bo := by
  rw [← h]
  by_cases e : z % 2 = 1
  · rw [decide_eq_true e]
    have : (z : Int) % 2 = 1 := by omega
    rw [this]; rfl
  · rw [decide_eq_false e]
    have : (z : Int) % 2 = 0 := by omega
    rw [this]; rfl
def TrueOut (w : World) (e : Ending) (w' : World) : Prop := e = .returned (.bool true) ∧ Below w.heap.size w w'
set_option maxRecDepth 20000 in
set_option maxHeartbeats 4000000 in
theorem cr_bad (p : List Int) (R : List (List Int)) (A D : Option Addr) (c d : Nat) (w : World) (hs : Seg w w.heap.size A (p.map (.int .i64))) (hr : RowsR w w.heap.size D R) (hm : p.length ≤ 9223372036854775807)
    (h1 : R.length ≤ 1000000000) (h2 : R.flatten.length ≤ 1000000000) (hw : ∀ r ∈ R, ∀ n ∈ r, (Lit.int .i64 n).wf = true) (hbl : (backR R).1.length ≤ 9223372036854775807) (hp : permB p = false) :
    Calls Try.prog 5 #[.slice A p.length c, .slice D R.length d] w (TrueOut w) := by
  have HS := Lib.hid hs
  have HR := Lib.hid hr
  have HOF : Hid (∀ u, Seg u u.heap.size A (p.map (.int .i64)) → Calls Try.prog 24 #[.slice A p.length c] u fun e w' => e = .returned (.tuple #[.slice none 0 0, .int .i64 1]) ∧ Below u.heap.size u w') := fun u h => of_bad p A c u h hm hp
  have HBK : Hid (∀ u, RowsR u u.heap.size D R → Calls Try.prog 25 #[.slice D R.length d] u fun e w' => SOut u w' e (backR R).1 (backR R).2) := fun u h => back_any R D d u h h1 h2
  have HWB : Hid (∀ u, RowsR u u.heap.size D R → Calls Try.prog 26 #[.slice D R.length d] u fun e w' => SOut u w' e (backR R).1 (backR R).2) := fun u h => wback_any R D d u h h1 h2 hw
  have HFL : Hid (∀ u, Seg u u.heap.size A (p.map (.int .i64)) → Calls Try.prog 27 #[.slice A p.length c] u fun e w' => ∃ A' c', e = .returned (.tuple #[.slice A' 0 c', .int .i64 1]) ∧ Below u.heap.size u w') := fun u h => (flat_bad p A c u h hm hp).mono fun e w' ⟨A', c', h1, _, _, h4⟩ => ⟨A', c', h1, h4⟩
  have HRO : Hid (∀ u, Seg u u.heap.size A (p.map (.int .i64)) → Calls Try.prog 28 #[.slice A p.length c] u fun e w' => ∃ A' c', e = .returned (.tuple #[.slice A' 0 c', .int .i64 1]) ∧ Below u.heap.size u w') := fun u h => (round_bad p A c u h hm hp).mono fun e w' ⟨A', c', h1, _, _, h4⟩ => ⟨A', c', h1, h4⟩
  have HTI : Hid (∀ u, Seg u u.heap.size A (p.map (.int .i64)) → Calls Try.prog 29 #[.slice A p.length c] u fun e w' => e = .returned (.tuple #[.int .i64 0, .int .i64 1]) ∧ Below u.heap.size u w') := fun u h => times_bad p A c u h hm hp
  have HOD : Hid (∀ u, Seg u u.heap.size A (p.map (.int .i64)) → Calls Try.prog 30 #[.slice A p.length c] u fun e w' => e = .returned (.tuple #[.bool false, .int .i64 1]) ∧ Below u.heap.size u w') := fun u h => odd_bad p A c u h hm hp
  have HDR : Hid (∀ u, Seg u u.heap.size A (p.map (.int .i64)) → Calls Try.prog 31 #[.slice A p.length c] u fun e w' => e = .returned (.bool false) ∧ u = w') := fun u h => by have := dright_any p A c u h hm; rwa [hp] at this
  obtain ⟨bl, hbl0⟩ : ∃ bl, bl = (backR R).1 := ⟨_, rfl⟩
  obtain ⟨be, hbe0⟩ : ∃ be, be = (backR R).2 := ⟨_, rfl⟩
  rw [← hbl0, ← hbe0] at HBK HWB
  rw [← hbl0] at hbl
  have HBL := Lib.hid hbl
  have b0 : (be != be) = false := by simp
  clear hs hr hm h1 h2 hw hbl hp hbl0 hbe0
  generalize R.length = M at *
  generalize p.length = n at *
  go_enter Try.func5, Try.ntmps5
  go_wp2_with fail
  refine (HOF.out _ HS.out).mono ?_
  rintro e w1 ⟨rfl, hb1⟩
  have HS1 := Lib.hid (HS.out.on hb1)
  have HR1 := Lib.hid (HR.out.on hb1)
  have HB1 := Lib.hid hb1
  clear hb1
  go_wp2_with fail
  refine (HBK.out _ HR1.out).mono ?_
  rintro e w2 ⟨A2, c2, rfl, _, sg2, hb2⟩
  have HS2 := Lib.hid (HS1.out.on hb2)
  have HR2 := Lib.hid (HR1.out.on hb2)
  have HB2 := Lib.hid (HB1.out.trans (hb2.mono HB1.out.size))
  have HG2 := Lib.hid sg2
  clear hb2 sg2 HS1 HR1 HB1
  go_wp2_with fail
  refine (HWB.out _ HR2.out).mono ?_
  rintro e w3 ⟨A3, c3, rfl, _, sg3, hb3⟩
  have HS3 := Lib.hid (HS2.out.on hb3)
  have HB3 := Lib.hid (HB2.out.trans (hb3.mono HB2.out.size))
  have HG23 := Lib.hid (HG2.out.on hb3)
  have HG3 := Lib.hid sg3
  clear hb3 sg3 HS2 HR2 HB2 HG2
  go_wp2_with fail
  refine (HFL.out _ HS3.out).mono ?_
  rintro e w4 ⟨A4, c4, rfl, hb4⟩
  have HS4 := Lib.hid (HS3.out.on hb4)
  have HB4 := Lib.hid (HB3.out.trans (hb4.mono HB3.out.size))
  have HG24 := Lib.hid (HG23.out.on hb4)
  have HG34 := Lib.hid (HG3.out.on hb4)
  clear hb4 HS3 HB3 HG23 HG3
  go_wp2_with fail
  refine (HRO.out _ HS4.out).mono ?_
  rintro e w5 ⟨A5, c5, rfl, hb5⟩
  have HS5 := Lib.hid (HS4.out.on hb5)
  have HB5 := Lib.hid (HB4.out.trans (hb5.mono HB4.out.size))
  have HG25 := Lib.hid (HG24.out.on hb5)
  have HG35 := Lib.hid (HG34.out.on hb5)
  clear hb5 HS4 HB4 HG24 HG34
  go_wp2_with fail
  refine (HTI.out _ HS5.out).mono ?_
  rintro e w6 ⟨rfl, hb6⟩
  have HS6 := Lib.hid (HS5.out.on hb6)
  have HB6 := Lib.hid (HB5.out.trans (hb6.mono HB5.out.size))
  have HG26 := Lib.hid (HG25.out.on hb6)
  have HG36 := Lib.hid (HG35.out.on hb6)
  clear hb6 HS5 HB5 HG25 HG35
  go_wp2_with fail
  refine (HOD.out _ HS6.out).mono ?_
  rintro e w7 ⟨rfl, hb7⟩
  have HS7 := Lib.hid (HS6.out.on hb7)
  have HB7 := Lib.hid (HB6.out.trans (hb7.mono HB6.out.size))
  have HEQ := Lib.hid (eq_same bl A2 A3 c2 c3 w7 (HG26.out.on hb7) (HG36.out.on hb7) HBL.out)
  clear hb7 HS6 HB6 HG26 HG36
  go_wp2_with fail
  refine HEQ.out.mono ?_
  rintro e w8 ⟨rfl, m8, rfl⟩
  have HS8 := Lib.hid (HS7.out.on (below_drewN (Below.refl _ _) m8))
  have HB8 := Lib.hid (below_drewN HB7.out m8)
  clear HS7 HB7 HEQ
  generalize w7.drewN m8 = w8 at *
  go_wp2_with fail
  refine (HDR.out _ HS8.out).mono ?_
  rintro e w9 ⟨rfl, rfl⟩
  go_wp2_with fail
  go_ret
  exact ⟨rfl, HB8.out⟩
set_option maxRecDepth 20000 in
set_option maxHeartbeats 8000000 in
theorem cr_good (p : List Int) (R : List (List Int)) (A D : Option Addr) (c d : Nat) (w : World) (hs : Seg w w.heap.size A (p.map (.int .i64))) (hr : RowsR w w.heap.size D R)
    (h1 : R.length ≤ 1000000000) (h2 : R.flatten.length ≤ 1000000000) (hw : ∀ r ∈ R, ∀ n ∈ r, (Lit.int .i64 n).wf = true) (hbl : (backR R).1.length ≤ 9223372036854775807) (hp : permB p = true) :
    Calls Try.prog 5 #[.slice A p.length c, .slice D R.length d] w (TrueOut w) := by
  have h20 := permB_len hp
  have HS := Lib.hid hs
  have HR := Lib.hid hr
  obtain ⟨rp1, rp2⟩ := round_perm hp
  have rl20 := permB_len rp1
  have hfl20 := flatT_len (permF_of hp) h20 p.length (Nat.le_refl _)
  have HOF : Hid (∀ u, Seg u u.heap.size A (p.map (.int .i64)) → Calls Try.prog 24 #[.slice A p.length c] u fun e w' => ∃ A' c', e = .returned (.tuple #[.slice A' (ofR p).length c', .int .i64 0]) ∧ RowsO w' u.heap.size (.slice A' (ofR p).length c') (ofR p) ∧ Below u.heap.size u w') := fun u h => of_any p A c u h hp
  have HBK : Hid (∀ u, RowsR u u.heap.size D R → Calls Try.prog 25 #[.slice D R.length d] u fun e w' => SOut u w' e (backR R).1 (backR R).2) := fun u h => back_any R D d u h h1 h2
  have HWB : Hid (∀ u, RowsR u u.heap.size D R → Calls Try.prog 26 #[.slice D R.length d] u fun e w' => SOut u w' e (backR R).1 (backR R).2) := fun u h => wback_any R D d u h h1 h2 hw
  have HFL : Hid (∀ u, Seg u u.heap.size A (p.map (.int .i64)) → Calls Try.prog 27 #[.slice A p.length c] u fun e w' => SOut u w' e (flatR p) 0) := fun u h => flat_good p A c u h hp
  have HRO : Hid (∀ u, Seg u u.heap.size A (p.map (.int .i64)) → Calls Try.prog 28 #[.slice A p.length c] u fun e w' => SOut u w' e (roundR p) 0) := fun u h => round_good p A c u h hp
  have HTI : Hid (∀ u, Seg u u.heap.size A (p.map (.int .i64)) → Calls Try.prog 29 #[.slice A p.length c] u fun e w' => e = .returned (.tuple #[.int .i64 (timesR p : Nat), .int .i64 0]) ∧ Below u.heap.size u w') := fun u h => times_good p A c u h hp
  have HOD : Hid (∀ u, Seg u u.heap.size A (p.map (.int .i64)) → Calls Try.prog 30 #[.slice A p.length c] u fun e w' => e = .returned (.tuple #[.bool (oddR p), .int .i64 0]) ∧ Below u.heap.size u w') := fun u h => odd_good p A c u h hp
  have HDR : Hid (∀ u, Seg u u.heap.size A (p.map (.int .i64)) → Calls Try.prog 31 #[.slice A p.length c] u fun e w' => e = .returned (.bool true) ∧ u = w') := fun u h => by have := dright_any p A c u h (by omega); rwa [hp] at this
  have HWO : Hid (∀ u, Seg u u.heap.size A (p.map (.int .i64)) → Calls Try.prog 33 #[.slice A p.length c] u fun e w' => ∃ A' c', e = .returned (.slice A' (ofR p).length c') ∧ RowsO w' u.heap.size (.slice A' (ofR p).length c') (ofR p) ∧ Below u.heap.size u w') := fun u h => (wof_any p A c u h hp).mono fun e w' ⟨v, h1, h2, h3⟩ => by
    obtain ⟨vals, h4, h5, h6⟩ := h2
    obtain ⟨A', c', rfl⟩ := own_slice h4
    rw [h5] at h1 h4
    exact ⟨A', c', h1, ⟨vals, h4, h5, h6⟩, h3⟩
  have HWF : Hid (∀ u, Seg u u.heap.size A (p.map (.int .i64)) → Calls Try.prog 34 #[.slice A p.length c] u fun e w' => ∃ A' c', e = .returned (.slice A' (flatR p).length c') ∧ Seg w' w'.heap.size A' ((flatR p).map (.int .i64)) ∧ Below u.heap.size u w') := fun u h => (wflat_any p A c u h hp).mono fun e w' ⟨v, h1, h2, h3⟩ => by
    obtain ⟨A', c', e1, _, h4⟩ := h2.res
    rw [List.length_map] at e1
    exact ⟨A', c', by rw [h1, e1], h4, h3⟩
  have HWT : Hid (∀ u, Seg u u.heap.size A (p.map (.int .i64)) → Calls Try.prog 35 #[.slice A p.length c] u fun e w' => e = .returned (.int .i64 (timesR p : Nat)) ∧ Below u.heap.size u w') := fun u h => wtimes_any p A c u h hp
  have HSM : Hid (∀ u B E cb ce, RowsR u u.heap.size B (ofR p) → RowsR u u.heap.size E (ofR p) → Calls Try.prog 32 #[.slice B (ofR p).length cb, .slice E (ofR p).length ce] u fun e w' => e = .returned (.bool true) ∧ Below u.heap.size u w') := fun u B E cb ce hB hE => same_any (ofR p) B E cb ce u hB hE (by have := ofR_len p; omega) fun r hr => by
    unfold ofR at hr
    obtain ⟨r0, hr0, rfl⟩ := List.mem_map.1 hr
    have := (ofs_row (permF_of hp) h20 hr0).2.1
    rw [List.length_map]; omega
  have HDQ : Hid (∀ u B cb, Seg u u.heap.size B ((roundR p).map (.int .i64)) → Calls Try.prog 31 #[.slice B (roundR p).length cb] u fun e w' => e = .returned (.bool true) ∧ u = w') := fun u B cb h => by have := dright_any (roundR p) B cb u h (by omega); rwa [rp1] at this
  have HWR : Hid (∀ u B cb, Seg u u.heap.size B ((roundR p).map (.int .i64)) → Calls Try.prog 34 #[.slice B (roundR p).length cb] u fun e w' => ∃ A' c', e = .returned (.slice A' p.length c') ∧ Seg w' w'.heap.size A' (p.map (.int .i64)) ∧ Below u.heap.size u w') := fun u B cb h => (wflat_any (roundR p) B cb u h rp1).mono fun e w' ⟨v, h1, h2, h3⟩ => by
    rw [rp2] at h2
    obtain ⟨A', c', e1, _, h4⟩ := h2.res
    rw [List.length_map] at e1
    exact ⟨A', c', by rw [h1, e1], h4, h3⟩
  have HQF : Hid (∀ k, k < p.length → pat p k = ((qf p k : Nat) : Int)) := fun k hk => (qf_cast hp hk).symm
  have HOS := Lib.hid (odd_sign hp)
  have HN20 := Lib.hid h20
  have HFN : Hid ((flatR p).length ≤ 9223372036854775807) := by unfold Hid flatR; rw [List.length_map]; omega
  obtain ⟨bl, hbl0⟩ : ∃ bl, bl = (backR R).1 := ⟨_, rfl⟩
  obtain ⟨be, hbe0⟩ : ∃ be, be = (backR R).2 := ⟨_, rfl⟩
  rw [← hbl0, ← hbe0] at HBK HWB
  rw [← hbl0] at hbl
  have HBL := Lib.hid hbl
  have b0 : (be != be) = false := by simp
  clear hs hr h1 h2 hw hbl hp hbl0 hbe0 rp1 rp2 rl20 h20 hfl20
  generalize R.length = RM at *
  obtain ⟨bo, hbo⟩ : ∃ bo, bo = oddR p := ⟨_, rfl⟩
  rw [← hbo] at HOD HOS
  obtain ⟨T, hT⟩ : ∃ T, T = timesR p := ⟨_, rfl⟩
  rw [← hT] at HTI HWT
  obtain ⟨O, hO⟩ : ∃ O, O = ofR p := ⟨_, rfl⟩
  rw [← hO] at HOF HWO HSM
  obtain ⟨F, hF⟩ : ∃ F, F = flatR p := ⟨_, rfl⟩
  rw [← hF] at HFL HWF HFN
  obtain ⟨G, hG⟩ : ∃ G, G = roundR p := ⟨_, rfl⟩
  rw [← hG] at HRO HDQ HWR
  obtain ⟨q, hq⟩ : ∃ q, q = qf p := ⟨_, rfl⟩
  rw [← hq] at HQF HOS
  obtain ⟨n, hn⟩ : ∃ n, n = p.length := ⟨_, rfl⟩
  have HNP := Lib.hid hn
  rw [← hn] at HOF HFL HRO HTI HOD HDR HWO HWF HWT HWR HQF HOS HN20 ⊢
  clear hbo hT hO hF hG hq hn
  go_enter Try.func5, Try.ntmps5
  go_wp2_with fail
  refine (HOF.out _ HS.out).mono ?_
  rintro e w1 ⟨A1, c1, rfl, ho1, hb1⟩
  have HS1 := Lib.hid (HS.out.on hb1)
  have HR1 := Lib.hid (HR.out.on hb1)
  have HB1 := Lib.hid hb1
  have HO1 := Lib.hid ho1.read
  clear hb1 ho1
  go_wp2_with fail
  refine (HBK.out _ HR1.out).mono ?_
  rintro e w2 ⟨A2, c2, rfl, _, sg2, hb2⟩
  have HS2 := Lib.hid (HS1.out.on hb2)
  have HR2 := Lib.hid (HR1.out.on hb2)
  have HB2 := Lib.hid (HB1.out.trans (hb2.mono HB1.out.size))
  have HO2 := Lib.hid (HO1.out.on hb2)
  have HG2 := Lib.hid sg2
  clear hb2 sg2 HS1 HR1 HB1 HO1
  go_wp2_with fail
  refine (HWB.out _ HR2.out).mono ?_
  rintro e w3 ⟨A3, c3, rfl, _, sg3, hb3⟩
  have HS3 := Lib.hid (HS2.out.on hb3)
  have HB3 := Lib.hid (HB2.out.trans (hb3.mono HB2.out.size))
  have HO3 := Lib.hid (HO2.out.on hb3)
  have HG23 := Lib.hid (HG2.out.on hb3)
  have HG3 := Lib.hid sg3
  clear hb3 sg3 HS2 HR2 HB2 HG2 HO2
  go_wp2_with fail
  refine (HFL.out _ HS3.out).mono ?_
  rintro e w4 ⟨A4, c4, rfl, _, sg4, hb4⟩
  have HS4 := Lib.hid (HS3.out.on hb4)
  have HB4 := Lib.hid (HB3.out.trans (hb4.mono HB3.out.size))
  have HO4 := Lib.hid (HO3.out.on hb4)
  have HG24 := Lib.hid (HG23.out.on hb4)
  have HG34 := Lib.hid (HG3.out.on hb4)
  have HF4 := Lib.hid sg4
  clear hb4 sg4 HS3 HB3 HG23 HG3 HO3
  go_wp2_with fail
  refine (HRO.out _ HS4.out).mono ?_
  rintro e w5 ⟨A5, c5, rfl, _, sg5, hb5⟩
  have HS5 := Lib.hid (HS4.out.on hb5)
  have HB5 := Lib.hid (HB4.out.trans (hb5.mono HB4.out.size))
  have HO5 := Lib.hid (HO4.out.on hb5)
  have HG25 := Lib.hid (HG24.out.on hb5)
  have HG35 := Lib.hid (HG34.out.on hb5)
  have HF5 := Lib.hid (HF4.out.on hb5)
  have HD5 := Lib.hid sg5
  clear hb5 sg5 HS4 HB4 HG24 HG34 HO4 HF4
  go_wp2_with fail
  refine (HTI.out _ HS5.out).mono ?_
  rintro e w6 ⟨rfl, hb6⟩
  have HS6 := Lib.hid (HS5.out.on hb6)
  have HB6 := Lib.hid (HB5.out.trans (hb6.mono HB5.out.size))
  have HO6 := Lib.hid (HO5.out.on hb6)
  have HG26 := Lib.hid (HG25.out.on hb6)
  have HG36 := Lib.hid (HG35.out.on hb6)
  have HF6 := Lib.hid (HF5.out.on hb6)
  have HD6 := Lib.hid (HD5.out.on hb6)
  clear hb6 HS5 HB5 HG25 HG35 HO5 HF5 HD5
  go_wp2_with fail
  refine (HOD.out _ HS6.out).mono ?_
  rintro e w7 ⟨rfl, hb7⟩
  have HS7 := Lib.hid (HS6.out.on hb7)
  have HB7 := Lib.hid (HB6.out.trans (hb7.mono HB6.out.size))
  have HO7 := Lib.hid (HO6.out.on hb7)
  have HF7 := Lib.hid (HF6.out.on hb7)
  have HD7 := Lib.hid (HD6.out.on hb7)
  have HEQ := Lib.hid (eq_same bl A2 A3 c2 c3 w7 (HG26.out.on hb7) (HG36.out.on hb7) HBL.out)
  clear hb7 HS6 HB6 HG26 HG36 HO6 HF6 HD6
  go_wp2_with fail
  refine HEQ.out.mono ?_
  rintro e w8 ⟨rfl, m8, rfl⟩
  have hb8 : Below w7.heap.size w7 (w7.drewN m8) := below_drewN (Below.refl _ _) m8
  have HS8 := Lib.hid (HS7.out.on hb8)
  have HB8 := Lib.hid (below_drewN HB7.out m8)
  have HO8 := Lib.hid (HO7.out.on hb8)
  have HF8 := Lib.hid (HF7.out.on hb8)
  have HD8 := Lib.hid (HD7.out.on hb8)
  clear HS7 HB7 HEQ HO7 HF7 HD7 hb8
  generalize w7.drewN m8 = w8 at *
  go_wp2_with fail
  refine (HDR.out _ HS8.out).mono ?_
  rintro e w9 ⟨rfl, rfl⟩
  go_wp2_with fail
  clear b0 HOF HBK HWB HFL HRO HTI HOD HDR HR
  --LOOK1
  go_loopw [19, 112] (fun s19 s112 wx => ∃ k z : Nat, k ≤ n ∧ s112 = .int .i64 k ∧ s19 = .int .i64 z ∧ Hid (z = invs q k) ∧ Hid (Below w8.heap.size w8 wx)) (fun _ s112 _ => n - (intOf s112).toNat)
  case atStart => exact ⟨0, 0, Nat.zero_le _, rfl, rfl, rfl, Below.refl _ _⟩
  case round =>
    obtain ⟨k, z, hk, rfl, rfl, HZ, HBX⟩ := hrel
    by_cases hlt : k < n
    · have i1 : (k : Int) < (n : Int) := by omega
      have uk : Hid (wrap64 ((k : Int) + 1) = ((k + 1 : Nat) : Int)) := rw20 (by have := HN20.out; omega)
      have HK := Lib.hid hlt
      clear hlt hk
      go_wp2_with fail
      go_loopw [19, 116] (fun s19 s116 wx => ∃ j y : Nat, j ≤ k ∧ s116 = .int .i64 j ∧ s19 = .int .i64 y ∧ Hid (y = z + gts q (q k) j) ∧ Hid (Below w8.heap.size w8 wx)) (fun _ s116 _ => k - (intOf s116).toNat)
      case atStart => exact ⟨0, z, Nat.zero_le _, rfl, rfl, rfl, HBX.out⟩
      case round =>
        obtain ⟨j, y, hj, rfl, rfl, HY, HBY⟩ := hrel
        by_cases hlj : j < k
        · have j1 : (j : Int) < (k : Int) := by omega
          have hkn : k < n := HK.out
          have i1 : (k : Int) < (n : Int) := by omega
          have i2 : (j : Int) < (n : Int) := by omega
          obtain ⟨ad, rfl, _, hcj⟩ := (HS8.out.on HBY.out).pat (k := j) (by rw [← HNP.out]; omega)
          obtain ⟨ad2, ea, _, hck⟩ := (HS8.out.on HBY.out).pat (k := k) (by rw [← HNP.out]; omega)
          injection ea with ea
          subst ea
          rw [HQF.out j (by omega)] at hcj
          rw [HQF.out k (by omega)] at hck
          have uj : Hid (wrap64 ((j : Int) + 1) = ((j + 1 : Nat) : Int)) := rw20 (by have := HN20.out; omega)
          have HJ := Lib.hid hlj
          have hst : gts q (q k) (j + 1) = gts q (q k) j + if q k < q j then 1 else 0 := rfl
          have hyb : y ≤ 1000 := cr_yb HN20.out hkn hlj HZ.out HY.out
          have uy : wrap64 ((y : Int) + 1) = ((y + 1 : Nat) : Int) := cr_uy hyb
          have HYI : Hid (¬ q k < q j → y = z + gts q (q k) (j + 1)) := fun h => by rw [hst, if_neg h]; exact HY.out
          have HYS : Hid (q k < q j → y + 1 = z + gts q (q k) (j + 1)) := fun h => by rw [hst, if_pos h]; exact cr_ys HY.out
          generalize q k = a at *
          generalize q j = b at *
          clear hst hyb hkn hlj hj
          by_cases hab : a < b
          · have t1 : decide ((a : Int) < (b : Int)) = true := decide_eq_true (by omega)
            have t2 : (a : Int) < (b : Int) := by omega
            have HYE := Lib.hid (HYS.out hab)
            clear hab HYS HYI
            go_wp2_with fail
            go_quiet (fail)
            go_wp2_with fail
            go_roundw
            case rel => exact ⟨j + 1, y + 1, HJ.out, by first | rfl | rw [uj.out], by first | rfl | rw [uy], HYE.out, by first | exact HBY.out | exact below_drewN HBY.out _⟩
            case measure => (try rw [uj.out]); have := HJ.out; simp [intOf]; omega
          · have t1 : decide ((a : Int) < (b : Int)) = false := decide_eq_false (by omega)
            have t2 : ¬ (a : Int) < (b : Int) := by omega
            have HYE := Lib.hid (HYI.out hab)
            clear hab HYS HYI uy
            go_wp2_with fail
            go_quiet (fail)
            go_wp2_with fail
            go_roundw
            case rel => exact ⟨j + 1, y, HJ.out, by first | rfl | rw [uj.out], rfl, HYE.out, by first | exact HBY.out | exact below_drewN HBY.out _⟩
            case measure => (try rw [uj.out]); have := HJ.out; simp [intOf]; omega
        · have hje : j = k := by omega
          have j1 : ¬ (j : Int) < (k : Int) := by omega
          have HE : Hid (y = invs q (k + 1)) := by unfold Hid; rw [invs, HY.out, HZ.out, hje]
          clear hj hlj hje
          go_wp2_with fail
          go_roundw
          case rel => exact ⟨k + 1, y, HK.out, by first | rfl | rw [uk.out], rfl, HE.out, HBY.out⟩
          case measure => (try rw [uk.out]); have := HK.out; simp [intOf]; omega
    · have hke : k = n := by omega
      have i1 : ¬ (k : Int) < (n : Int) := by omega
      have HSE := Lib.hid (HS8.out.on HBX.out)
      have HOE := Lib.hid (HO8.out.on HBX.out)
      have HFE := Lib.hid (HF8.out.on HBX.out)
      have HDE := Lib.hid (HD8.out.on HBX.out)
      have HBE := Lib.hid (HB8.out.trans (HBX.out.mono HB8.out.size))
      have hod := HOS.out
      rw [← hke, ← HZ.out] at hod
      have b1 : ((z : Int) % 2 == 1) = bo := cr_mod hod
      clear hod hke hlt hk HS8 HO8 HF8 HD8 HB8 HBX HZ HOS HQF HBL
      --LOOK2
      go_wp2_with fail
      refine (HWO.out _ HSE.out).mono ?_
      rintro e v1 ⟨B1, e1, rfl, ho1, hb1⟩
      have HS1 := Lib.hid (HSE.out.on hb1)
      have HF1 := Lib.hid (HFE.out.on hb1)
      have HD1 := Lib.hid (HDE.out.on hb1)
      have HB1 := Lib.hid (HBE.out.trans (hb1.mono HBE.out.size))
      have HSMC := Lib.hid (HSM.out v1 A1 B1 c1 e1 (HOE.out.on hb1) ho1.read)
      clear hb1 ho1 HSE HFE HDE HBE HOE HWO HSM
      go_wp2_with fail
      refine HSMC.out.mono ?_
      rintro e v2 ⟨rfl, hb2⟩
      have HS2 := Lib.hid (HS1.out.on hb2)
      have HF2 := Lib.hid (HF1.out.on hb2)
      have HD2 := Lib.hid (HD1.out.on hb2)
      have HB2 := Lib.hid (HB1.out.trans (hb2.mono HB1.out.size))
      clear hb2 HS1 HF1 HD1 HB1 HSMC
      go_wp2_with fail
      refine (HWF.out _ HS2.out).mono ?_
      rintro e v3 ⟨B3, e3, rfl, sg3, hb3⟩
      have HS3 := Lib.hid (HS2.out.on hb3)
      have HD3 := Lib.hid (HD2.out.on hb3)
      have HB3 := Lib.hid (HB2.out.trans (hb3.mono HB2.out.size))
      have HEQ := Lib.hid (eq_same F A4 B3 c4 e3 v3 (HF2.out.on hb3) sg3 HFN.out)
      clear hb3 sg3 HS2 HF2 HD2 HB2 HWF
      go_wp2_with fail
      refine HEQ.out.mono ?_
      rintro e v4 ⟨rfl, m4, rfl⟩
      have hb4 : Below v3.heap.size v3 (v3.drewN m4) := below_drewN (Below.refl _ _) m4
      have HS4 := Lib.hid (HS3.out.on hb4)
      have HD4 := Lib.hid (HD3.out.on hb4)
      have HB4 := Lib.hid (below_drewN HB3.out m4)
      clear hb4 HS3 HD3 HB3 HEQ
      generalize v3.drewN m4 = v4 at *
      go_wp2_with fail
      refine (HDQ.out _ _ _ HD4.out).mono ?_
      rintro e v5 ⟨rfl, rfl⟩
      go_wp2_with fail
      refine (HWR.out _ _ _ HD4.out).mono ?_
      rintro e v6 ⟨B6, e6, rfl, sg6, hb6⟩
      have HS6 := Lib.hid (HS4.out.on hb6)
      have HB6 := Lib.hid (HB4.out.trans (hb6.mono HB4.out.size))
      have hq := eq_same p B6 A e6 c v6 sg6 HS6.out (by have := HN20.out; have := HNP.out; omega)
      rw [← HNP.out] at hq
      have HEQ := Lib.hid hq
      clear hb6 sg6 HS4 HD4 HB4 HWR HDQ hq
      go_wp2_with fail
      refine HEQ.out.mono ?_
      rintro e v7 ⟨rfl, m7, rfl⟩
      have hb7 : Below v6.heap.size v6 (v6.drewN m7) := below_drewN (Below.refl _ _) m7
      have HS7 := Lib.hid (HS6.out.on hb7)
      have HB7 := Lib.hid (below_drewN HB6.out m7)
      clear hb7 HS6 HB6 HEQ
      generalize v6.drewN m7 = v7 at *
      go_wp2_with fail
      refine (HWT.out _ HS7.out).mono ?_
      rintro e v8 ⟨rfl, hb8⟩
      have HB8 := Lib.hid (HB7.out.trans (hb8.mono HB7.out.size))
      clear hb8 HS7 HB7 HWT
      go_wp2_with fail
      go_ret
      exact ⟨rfl, HB8.out⟩
end Go.Proofs.Ytkffakekakhgdaa
