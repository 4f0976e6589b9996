/- Package bayes: See, walked. No condition but the lists' own size. -/
import Derived.Test.YtaehehoeidnidaaBayL
import Derived.Test.YtaehehoeidnidaaBayW
import Derived.Test.YtaehehoeidnidaaApp2
import Derived.Test.YtaehehoeidnidaaHeld
import Derived.Test.YtaehehoeidnidaaSeq2
namespace Go.Proofs.Ytaehehoeidnidaa
open Go.ChangeShapes Go.WideShapes Go.ChangeAt Go.RowKit
set_option linter.unusedVariables false

def bbad (n0 : Nat) (s : Int) : Bool := decide (s < 0) || decide ((n0 : Int) ≤ s)
/-- How likely each thing is. -/
def bsee (prior : List Int) (M : List (List Int)) (seen : List Int) : List Int × Int :=
  if bwrong prior M ≠ 0 then ([], bwrong prior M) else if 12 < seen.length then ([], 2) else if seen.any (bbad (M.headD []).length) then ([], 3) else (lowL (bprod prior M seen), 0)
theorem ints_one2 (l : List Int) : ∀ u ∈ l.map (Value.int .i64), u.oneCell' = true := fun u hu => by
  obtain ⟨x, _, rfl⟩ := List.mem_map.1 hu; rfl
theorem bad_at {n0 : Nat} {l : List Int} {j : Nat} (hj : j < l.length) (h : pat l j < 0 ∨ (n0 : Int) ≤ pat l j) : l.any (bbad n0) = true :=
  List.any_eq_true.2 ⟨l[j], List.getElem_mem hj, by rw [pat_get hj] at h; unfold bbad; simpa using h⟩
theorem bad_none {n0 : Nat} {l : List Int} (h : ∀ j, j < l.length → 0 ≤ pat l j ∧ pat l j < (n0 : Int)) : l.any (bbad n0) = false := by
  rw [Bool.eq_false_iff]
  intro h1
  obtain ⟨y, hy, h2⟩ := List.any_eq_true.1 h1
  obtain ⟨j, hj, rfl⟩ := List.mem_iff_getElem.1 hy
  have h3 := h j hj
  rw [pat_get hj] at h3
  unfold bbad at h2
  simp at h2
  omega
/-- All that is reckoned stays small. -/
theorem zip_le {l m : List Int} {B : Int} (h : ∀ x ∈ l, 0 ≤ x ∧ x ≤ B) (hm : ∀ y ∈ m, 0 ≤ y ∧ y ≤ 9) : ∀ x ∈ List.zipWith (· * ·) l m, 0 ≤ x ∧ x ≤ B * 9 := by
  induction l generalizing m with
  | nil => intro x hx; simp at hx
  | cons a l ih =>
    cases m with
    | nil => intro x hx; simp at hx
    | cons b m =>
      intro x hx
      rw [List.zipWith_cons_cons] at hx
      rcases List.mem_cons.1 hx with rfl | hx
      · obtain ⟨h1, h2⟩ := h a (List.mem_cons_self ..)
        obtain ⟨h3, h4⟩ := hm b (List.mem_cons_self ..)
        exact ⟨Int.mul_nonneg h1 h3, Int.mul_le_mul h2 h4 h3 (by omega)⟩
      · exact ih (fun x hx => h x (List.mem_cons_of_mem _ hx)) (fun y hy => hm y (List.mem_cons_of_mem _ hy)) x hx
theorem bok_col {prior : List Int} {M : List (List Int)} (h : BOk prior M) (s : Int) : ∀ y ∈ colM M s, 0 ≤ y ∧ y ≤ 9 := fun y hy => by
  obtain ⟨r, hr, rfl⟩ := List.mem_map.1 hy
  obtain ⟨k, hk, rfl⟩ := List.mem_iff_getElem.1 hr
  by_cases hj : s.toNat < M[k].length
  · rw [pat_get hj]; exact h.num k hk _ (List.getElem_mem hj)
  · have : pat M[k] s.toNat = 0 := by unfold pat; simp [List.getD, show M[k].length ≤ s.toNat by omega]
    rw [this]; decide
theorem bok_prior {prior : List Int} {M : List (List Int)} (h : BOk prior M) : ∀ x ∈ prior, 0 ≤ x ∧ x ≤ 1000 := fun x hx => by
  obtain ⟨k, hk, rfl⟩ := List.mem_iff_getElem.1 hx
  have := h.p k hk
  rwa [pat_get hk] at this
theorem bout_le {prior : List Int} {M : List (List Int)} (h : BOk prior M) (seen : List Int) : ∀ x ∈ bout prior M seen, 0 ≤ x ∧ x ≤ 1000 * 9 ^ seen.length := by
  refine snoc_ind (P := fun seen => ∀ x ∈ bout prior M seen, 0 ≤ x ∧ x ≤ 1000 * 9 ^ seen.length) (fun x hx => by simpa using bok_prior h x hx) (fun l s ih => ?_) seen
  rw [bout_snoc, List.length_append, List.length_singleton, Int.pow_succ, ← Int.mul_assoc]
  exact lowL_le (zip_le ih (bok_col h s))
theorem pow9 {j : Nat} (h : j ≤ 12) : (1000 : Int) * 9 ^ j ≤ 282429536481000 := by
  have h0 : (9 : Nat) ^ j ≤ 9 ^ 12 := Nat.pow_le_pow_right (by decide) h
  have h2 : (9 : Nat) ^ 12 = 282429536481 := by decide
  have h1 : ((9 ^ j : Nat) : Int) = (9 : Int) ^ j := by rw [Int.natCast_pow]; rfl
  rw [← h1]
  omega
theorem bout_small {prior : List Int} {M : List (List Int)} (h : BOk prior M) (seen : List Int) (hs : seen.length ≤ 12) {k : Nat} (hk : k < prior.length) : 0 ≤ pat (bout prior M seen) k ∧ pat (bout prior M seen) k ≤ 282429536481000 := by
  have h1 : k < (bout prior M seen).length := by rw [bout_len h.len]; exact hk
  rw [pat_get h1]
  have h2 := bout_le h seen _ (List.getElem_mem h1)
  have h3 := pow9 hs
  omega
theorem zip_at {prior : List Int} {M : List (List Int)} (h : BOk prior M) (L : List Int) (hL : L.length = prior.length) (s : Int) {k : Nat} (hk : k < M.length) : pat (List.zipWith (· * ·) L (colM M s)) k = pat L k * pat M[k] s.toNat := by
  have h1 : k < L.length := by rw [hL, h.len]; exact hk
  have h2 : k < (colM M s).length := by simp [colM]; exact hk
  rw [pat_get (by rw [List.length_zipWith]; omega), List.getElem_zipWith, pat_get h1]
  simp [colM]
theorem mul_small {x y : Int} (h1 : 0 ≤ x) (h2 : x ≤ 282429536481000) (h3 : 0 ≤ y) (h4 : y ≤ 9) : 0 ≤ x * y ∧ x * y ≤ 2541865828329000 := by
  have a := Int.mul_nonneg h1 h3
  have b : x * y ≤ 282429536481000 * 9 := Int.mul_le_mul h2 h4 h3 (by decide)
  omega
set_option maxRecDepth 20000 in
set_option maxHeartbeats 8000000 in
theorem see_any (A C D : Option Addr) (prior : List Int) (l : List Rw) (seen : List Int) (c d f : Nat) (w : World) (hp : Seg w w.heap.size A (prior.map (.int .i64))) (hl : RowsOk w w.heap.size C l) (hs : Seg w w.heap.size D (seen.map (.int .i64)))
    (hm : prior.length ≤ 9223372036854775807) (hm2 : l.length ≤ 9223372036854775807) (hm3 : seen.length ≤ 9223372036854775807) :
    Calls Try.prog 33 #[.slice A prior.length c, .slice C l.length d, .slice D seen.length f] w fun e w' => SOut w w' e (bsee prior (nums l) seen).1 (bsee prior (nums l) seen).2 := by
  have HW := Lib.hid (bwrong_any A C prior l c d w.heap.size w hp hl hm hm2)
  by_cases hbw : bwrong prior (nums l) = 0
  · have hok := bok_of hbw
    rw [hbw] at HW
    by_cases h12 : 12 < seen.length
    · have hf : bsee prior (nums l) seen = ([], 2) := by unfold bsee; rw [if_neg (by omega), if_pos h12]
      have i1 : (12 : Int) < (seen.length : Int) := by omega
      rw [hf]
      clear hf hp hl hs hbw hok h12
      go_enter Try.func33, Try.ntmps33
      go_wp2_with fail
      refine HW.out.mono ?_
      rintro e w1 ⟨rfl, m, rfl⟩
      go_wp2_with fail
      go_ret2
      exact SOut.nil_ (below_drewN (Below.refl _ _) m)
    have i1 : ¬ (12 : Int) < (seen.length : Int) := by omega
    obtain ⟨n0, hn0⟩ : ∃ n, n = ((nums l).headD []).length := ⟨_, rfl⟩
    have HF : Hid (bsee prior (nums l) seen = if seen.any (bbad n0) then ([], 3) else (lowL (bprod prior (nums l) seen), 0)) := by unfold Hid bsee; rw [if_neg (by omega), if_neg h12, hn0]
    have hll : prior.length = l.length := by have := hok.len; simpa [nums] using this
    have hp1 := hok.pos
    have hp8 := hok.le
    obtain ⟨ad, rfl, had, hc0, hr0⟩ := hl.row (k := 0) (by omega)
    have e0 : l[0].2.1.length = n0 := by
      rw [hn0]
      have := hok.row 0 (by simp [nums]; omega)
      simpa [nums] using this
    obtain ⟨⟨A0, z0, c0⟩, hx0⟩ : ∃ x : Rw, x = l[0] := ⟨_, rfl⟩
    rw [← hx0] at hc0 e0
    have hz0 : z0.length = n0 := e0
    have hcc : w.cell? ad = some (.slice A0 z0.length c0) := hc0
    rw [hz0] at hcc
    have HC0 := Lib.hid hcc
    have HADB := Lib.hid had
    have HP := Lib.hid hp
    have HS := Lib.hid hs
    have HL := Lib.hid hl
    have HOK := Lib.hid hok
    have HN0 := Lib.hid hn0
    have HSZ := Lib.hid (And.intro hll (And.intro hp1 (And.intro hp8 (Nat.le_of_not_lt h12))))
    have hbn : (([] : List Value).length + prior.length) ≤ maxLen := by unfold maxLen; simp; omega
    have hbb : (([] : List Value).length + prior.length) * 8 ≤ 140737488355328 := by simp; omega
    clear hp hl hs hbw hok h12 hn0 hll hp1 hp8 hc0 hr0 e0 hx0 hz0 hcc had
    go_enter Try.func33, Try.ntmps33
    go_wp2_with fail
    refine HW.out.mono ?_
    rintro e w1 ⟨rfl, m, rfl⟩
    go_wp2_with (first
      | (at_builtin; go_must (refine wpList_append_seg _ rfl _ _ elem_ints rfl w.heap.size _ [] rfl (own_empty (w.drewN m) _ _ (Nat.le_refl _)) c rfl (by rw [List.length_map]) ((HP.out.drewN m).alloc (Nat.le_refl _) _) (ints_one2 prior) hbn hbb (by simp) ?_); intro v3 w3 hown3 hgr3 hnew3; clear hnew3; rw [List.nil_append] at hown3; obtain ⟨A3, c3, rfl, hc3, hown4⟩ := hown3.res2; rw [List.length_map] at hown4 hc3; have HO3 := Lib.hid hown4; have HB3 : Hid (Below w.heap.size w w3) := ((below_drewN (Below.refl _ w) m).alloc (Nat.le_refl _) _).grown hgr3 (by simp) (fun q hq => by injection hq with hq; exact Nat.le_of_eq hq); clear hown3 hgr3 hown4 hc3; rw [List.length_map])
      | fail)
    --LOOK1
    clear hbn hbb i1
    go_loopw [9, 27] (fun s9 s27 wx => ∃ (j : Nat) (A9 : Option Addr) (c9 : Nat), j ≤ seen.length ∧ s27 = .int .i64 j ∧ s9 = .slice A9 prior.length c9 ∧ Hid (∀ i, i < j → 0 ≤ pat seen i ∧ pat seen i < (n0 : Int)) ∧ Hid (Own wx w.heap.size tN (.slice A9 prior.length c9) ((bout prior (nums l) (seen.take j)).map (.int .i64))) ∧ Hid (Below w.heap.size w wx)) (fun _ s27 _ => seen.length - (intOf s27).toNat)
    case atStart => exact ⟨0, A3, c3, Nat.zero_le _, rfl, rfl, fun i hi => absurd hi (Nat.not_lt_zero _), HO3, HB3⟩
    case round =>
      obtain ⟨j, A9, c9, hj, rfl, rfl, hnb, ho, hb⟩ := hrel
      clear HO3 HB3
      by_cases hjl : j < seen.length
      · have j1 : (j : Int) < (seen.length : Int) := by omega
        obtain ⟨sd, rfl, _, hcs0⟩ := HS.out.pat hjl
        have hcs := (hb.out.cell (block_lt hcs0)).trans hcs0
        have hc0 := (hb.out.cell (p := ad) HADB.out).trans HC0.out
        have hp1 : (0 : Int) < (l.length : Int) := by have := HSZ.out; omega
        by_cases hbd : pat seen j < 0 ∨ (n0 : Int) ≤ pat seen j
        · have hf : Hid (bsee prior (nums l) seen = ([], 3)) := by unfold Hid; rw [HF.out, if_pos (bad_at hjl hbd)]
          obtain ⟨x, hx⟩ : ∃ x, x = pat seen j := ⟨_, rfl⟩
          rw [← hx] at hcs hbd
          clear hx hnb ho hcs0
          rcases (by omega : x < 0 ∨ (¬ x < 0 ∧ (n0 : Int) ≤ x)) with h3 | ⟨h4, h3⟩
          all_goals
            clear hbd
            go_wp2_with fail
            go_ret2
            rw [hf.out]
            exact SOut.nil_ hb.out
        · have HNB : Hid (∀ i, i < j + 1 → 0 ≤ pat seen i ∧ pat seen i < (n0 : Int)) := fun i hi => by
            by_cases e : i = j
            · subst e; omega
            · exact hnb.out i (by omega)
          obtain ⟨L, hL⟩ : ∃ L, L = bout prior (nums l) (seen.take j) := ⟨_, rfl⟩
          obtain ⟨L2, hL2⟩ : ∃ L2, L2 = List.zipWith (· * ·) L (colM (nums l) (pat seen j)) := ⟨_, rfl⟩
          have hLl : L.length = prior.length := by rw [hL, bout_len HOK.out.len]
          have hcl : (colM (nums l) (pat seen j)).length = prior.length := by simp [colM, nums]; have := HSZ.out.1; omega
          have HL2L : Hid (L2.length = L.length) := by unfold Hid; rw [hL2, List.length_zipWith, hcl]; omega
          have HNX : Hid (lowL L2 = bout prior (nums l) (seen.take (j + 1))) := by unfold Hid; rw [pat_take hjl, bout_snoc, ← hL, ← hL2]
          have HLS : Hid (∀ k, k < prior.length → 0 ≤ pat L k ∧ pat L k ≤ 282429536481000) := fun k hk => by rw [hL]; exact bout_small HOK.out _ (by have := HSZ.out; rw [List.length_take]; omega) hk
          have HLP : Hid (∀ k (h : k < l.length), pat L2 k = pat L k * pat l[k].2.1 (pat seen j).toNat ∧ 0 ≤ pat l[k].2.1 (pat seen j).toNat ∧ pat l[k].2.1 (pat seen j).toNat ≤ 9 ∧ (pat seen j).toNat < l[k].2.1.length) := fun k hk => by
            have hk2 : k < (nums l).length := by simp [nums]; exact hk
            have e1 : (nums l)[k] = l[k].2.1 := by simp [nums]
            have h1 := zip_at HOK.out L hLl (pat seen j) hk2
            rw [e1, ← hL2] at h1
            have h2 := HOK.out.row k hk2
            have hn1 := HNB.out j (Nat.lt_succ_self j)
            have h5 : l[k].2.1.length = n0 := by rw [HN0.out, ← h2, e1]
            have h6 : (pat seen j).toNat < l[k].2.1.length := by omega
            have h7 := HOK.out.num k hk2 (pat l[k].2.1 (pat seen j).toNat) (by rw [pat_get h6, e1]; exact List.getElem_mem h6)
            exact ⟨h1, h7.1, h7.2, h6⟩
          have HO : Hid (Own wr w.heap.size tN (.slice A9 L.length c9) (L.map (.int .i64))) := by rw [hL, bout_len HOK.out.len]; exact ho.out
          obtain ⟨t, ht⟩ : ∃ t : Nat, pat seen j = t := ⟨(pat seen j).toNat, by omega⟩
          rw [ht] at hcs HLP
          rw [Int.toNat_natCast] at HLP
          have ht0 : ¬ (t : Int) < 0 := by omega
          have ht1 : ¬ (n0 : Int) ≤ (t : Int) := by omega
          have HLL := Lib.hid hLl
          have HJ := Lib.hid (And.intro hj hjl)
          have uj : Hid (wrap64 ((j : Int) + 1) = ((j + 1 : Nat) : Int)) := bl64 (by omega)
          have HL64 : Hid (L.length ≤ 8) := by rw [hLl]; exact HSZ.out.2.2.1
          rw [← hLl]
          clear hL hL2 hLl hcl hbd ht hnb ho hcs0 hj hjl
          go_wp2_with fail
          clear hcs hc0 ht0 ht1
          go_loopw [43] (fun s43 wx => ∃ (k : Nat), k ≤ L.length ∧ s43 = .int .i64 k ∧ Hid (Own wx w.heap.size tN (.slice A9 L.length c9) ((tab (mixf L L2 k) L.length).map (.int .i64))) ∧ Hid (Below w.heap.size w wx)) (fun s43 _ => L.length - (intOf s43).toNat)
          case atStart => exact ⟨0, Nat.zero_le _, rfl, by unfold Hid; rw [mix_zero]; exact HO.out, hb⟩
          case round =>
            obtain ⟨k, hk, rfl, hok, hbk⟩ := hrel
            by_cases hkl : k < L.length
            · have hkl2 : k < l.length := by have := HSZ.out.1; have := HLL.out; omega
              have i2 : (k : Int) < (L.length : Int) := by omega
              have i3 : (k : Int) < (l.length : Int) := by omega
              obtain ⟨gb, rfl, hgb2⟩ := hok.out.at_ (by omega)
              have hc := hok.out.cell (j := k) (u := .int .i64 (pat L k)) (by rw [List.getElem?_map, tab_get hkl]; simp [mixf])
              have hf := hok.out.frozen k
              obtain ⟨ad2, e2, _, hcr0, hrr⟩ := (HL.out.below hbk.out).row hkl2
              injection e2 with e2
              subst e2
              obtain ⟨e1, e3, e4, e5⟩ := HLP.out k hkl2
              obtain ⟨e6, e7⟩ := HLS.out k (by have := HLL.out; omega)
              obtain ⟨⟨A1, z, c1⟩, hx1⟩ : ∃ x : Rw, x = l[k] := ⟨_, rfl⟩
              rw [← hx1] at hcr0 hrr e1 e3 e4 e5
              have hcr : wr.cell? (ad.add k) = some (.slice A1 z.length c1) := hcr0
              have hzs : Seg wr w.heap.size A1 (z.map (.int .i64)) := hrr.1
              have e5' : t < z.length := e5
              obtain ⟨zd, rfl, _, hcz⟩ := hzs.pat e5'
              have hst := hok.out.set k (.int .i64 (pat L2 k))
              rw [← List.map_set, mix_set] at hst
              have e1' : pat L2 k = pat L k * pat z t := e1
              have e3' : 0 ≤ pat z t ∧ pat z t ≤ 9 := ⟨e3, e4⟩
              rw [e1'] at hst
              have HST := Lib.hid hst
              obtain ⟨x, hx⟩ : ∃ x, x = pat L k := ⟨_, rfl⟩
              obtain ⟨y, hy⟩ : ∃ y, y = pat z t := ⟨_, rfl⟩
              rw [← hx, ← hy] at HST
              rw [← hx] at hc e6 e7
              rw [← hy] at hcz e3'
              have hm := mul_small e6 e7 e3'.1 e3'.2
              have i4 : (t : Int) < (z.length : Int) := by omega
              have uk : Hid (wrap64 ((k : Int) + 1) = ((k + 1 : Nat) : Int)) := bl64 (by have := HL64.out; omega)
              have HKK := Lib.hid (And.intro hk hkl)
              have HGB := Lib.hid hgb2
              clear hk hkl hkl2 hcr0 hrr e1 e3 e4 e5 hx1 hzs e1' e3' hst hx hy e6 e7 hgb2
              go_wp2_with fail
              refine wp_region_plan [(0, 0), (1, 0), (2, 0), (3, 1), (4, 0), (5, 0), (6, 0), (7, 1), (8, 0), (9, 0), (10, 1), (11, 0), (12, 0), (13, 3)] (fun w' => w'.cell? ⟨gb, k, none⟩ = some (.int .i64 x) ∧ w'.cell? (ad.add k) = some (.slice (some zd) z.length c1) ∧ w'.cell? (zd.add t) = some (.int .i64 y)) (by kernel_rfl) (by kernel_rfl) (fun _ d _ _ _ h => by cases d <;> exact h) ⟨hc, hcr, hcz⟩ ?_
              --LOOK2
              iterate 13 ((first | (refine plan0 (v := ?_) rfl rfl (by rfl) ?_ ?_) | (refine plan1 (v := ?_) rfl rfl (by rfl) ?_ ?_)); rotate_left; (first | (intro w'; go_simp; with_reducible rfl) | (intro w' hS; obtain ⟨h1, h2, h3⟩ := hS; go_simp; with_reducible rfl)); simp only [List.setIfInBounds_toArray, List.set_cons_zero, List.set_cons_succ])
              refine plan3 rfl rfl fun K' hK' => ?_
              go_simp
              refine hK' _ _ ?_
              clear hK' K' hc hcr hcz
              refine planEnd ?_
              go_wp2_with fail
              go_roundw
              case rel => exact ⟨k + 1, by have := HKK.out; omega, by first | rfl | rw [uk.out], HST, below_drewN (hbk.out.setCell HGB.out _) 1⟩
              case measure => (try rw [uk.out]); have := HKK.out; simp [intOf]; omega
            · obtain rfl : k = L.length := by omega
              have hfin : Hid (Own wr w.heap.size tN (.slice A9 L2.length c9) (L2.map (.int .i64))) := by
                have h := hok.out
                rw [mix_all L L2 HL2L.out] at h
                rw [HL2L.out]
                exact h
              have h2l : Hid (∀ x ∈ L2, 0 ≤ x ∧ x ≤ 9223372036854775807) := fun x hx => by
                obtain ⟨q, hq, rfl⟩ := List.mem_iff_getElem.1 hx
                have hq2 : q < l.length := by have := HL2L.out; have := HLL.out; have := HSZ.out.1; omega
                obtain ⟨e1, e3, e4, _⟩ := HLP.out q hq2
                obtain ⟨e6, e7⟩ := HLS.out q (by have := HSZ.out.1; omega)
                rw [← pat_get hq, e1]
                have := mul_small e6 e7 e3 e4
                omega
              have HLOW := Lib.hid (low_any2 A9 L2 c9 w.heap.size wr hfin.out hbk.out.size h2l.out (by have := HL2L.out; have := HL64.out; omega))
              rw [HL2L.out, HNX.out] at HLOW
              clear hk hkl
              have huj := uj.out
              go_wp2_with fail
              refine HLOW.out.mono ?_
              rintro e w5 ⟨rfl, ho5, hb5⟩
              have HO5 := Lib.hid ho5
              have HB5 : Hid (Below w.heap.size w w5) := hbk.out.trans hb5
              clear ho5 hb5
              go_wp2_with fail
              go_roundw
              case rel => exact ⟨j + 1, A9, c9, by have := HJ.out; omega, by first | rfl | rw [uj.out], by rw [HLL.out], HNB, by first | exact HO5 | (rw [← HLL.out]; exact HO5), HB5⟩
              case measure => (try rw [uj.out]); have := HJ.out; simp [intOf]; omega
      · obtain rfl : j = seen.length := by omega
        have hL0 : seen.take seen.length = seen := List.take_length
        rw [hL0] at ho
        have hf : Hid (bsee prior (nums l) seen = (lowL (bout prior (nums l) seen), 0)) := by
          unfold Hid
          rw [HF.out, if_neg (by rw [bad_none hnb.out]; exact Bool.false_ne_true), bout_low]
        have hlen : (bout prior (nums l) seen).length = prior.length := bout_len HOK.out.len seen
        have h2l : ∀ x ∈ bout prior (nums l) seen, 0 ≤ x ∧ x ≤ 9223372036854775807 := fun x hx => by
          obtain ⟨q, hq, rfl⟩ := List.mem_iff_getElem.1 hx
          have := bout_small HOK.out seen HSZ.out.2.2.2 (k := q) (by omega)
          rw [pat_get hq] at this
          omega
        have HLOW := low_any2 A9 (bout prior (nums l) seen) c9 w.heap.size wr (by rw [hlen]; exact ho.out) hb.out.size h2l (by rw [hlen]; exact hm)
        rw [hlen] at HLOW
        have HLW := Lib.hid HLOW
        have HLE := Lib.hid hlen
        clear HLOW hlen h2l hj hjl hL0 ho
        go_wp2_with fail
        refine HLW.out.mono ?_
        rintro e w5 ⟨rfl, ho5, hb5⟩
        have HO5 := Lib.hid ho5
        have HB5 : Hid (Below w.heap.size w w5) := hb.out.trans hb5
        clear ho5 hb5
        go_wp2_with fail
        go_ret2
        rw [hf.out]
        have e9 : (lowL (bout prior (nums l) seen)).length = prior.length := by rw [lowL_len, HLE.out]
        obtain ⟨A8, c8, e7, hc8, hs8⟩ := HO5.out.res
        rw [List.length_map, e9] at e7
        rw [List.length_map] at hc8
        exact ⟨A8, c8, by rw [e7]; show _ = Ending.returned (.tuple #[.slice A8 (lowL (bout prior (nums l) seen)).length c8, _]); rw [e9]; rfl, hc8, hs8, HB5.out⟩
  · have b0 : (bwrong prior (nums l) != 0) = true := by simp [hbw]
    have hf : bsee prior (nums l) seen = ([], bwrong prior (nums l)) := if_pos hbw
    rw [hf]
    obtain ⟨z, hz⟩ : ∃ z, z = bwrong prior (nums l) := ⟨_, rfl⟩
    rw [← hz] at HW b0 hbw ⊢
    clear hf hp hl hs hz
    go_enter Try.func33, Try.ntmps33
    go_wp2_with fail
    refine HW.out.mono ?_
    rintro e w1 ⟨rfl, m, rfl⟩
    go_wp2_with fail
    go_ret2
    exact SOut.nil_ (below_drewN (Below.refl _ _) m)
end Go.Proofs.Ytaehehoeidnidaa
