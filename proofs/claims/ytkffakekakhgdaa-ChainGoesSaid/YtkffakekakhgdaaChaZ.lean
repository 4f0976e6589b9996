/- Package chain and its reference: Go, walked. Printed by chajgen.py. No condition but the lists' own size. The reference's SWhole, walked. No condition but the list's own size. The reference's SWhole, walked. No condition but the list's own size. Fractions: one whose second number is missing; comparing; their values. Printed by chaqgen.py. No condition but that they are not too long. The reference's SStays at numbers that stay, walked. No condition but the lists' own size. The reference's SStays at numbers that stay, walked. No condition but the lists' own size. Package chain: the law ChainGoes, walked. No condition but the lists' own size. -/
import Derived.Test.YtkffakekakhgdaaChaI
import Derived.Test.YtkffakekakhgdaaChaH
import Derived.Test.YtkffakekakhgdaaHeld
import Derived.Deep.DeepCutAuto
import Derived.Test.YtkffakekakhgdaaRatH
import Derived.Test.YtkffakekakhgdaaGcdB
import Derived.Test.YtkffakekakhgdaaBigQ
import Derived.Test.YtkffakekakhgdaaSeqE
namespace Go.Proofs.Ytkffakekakhgdaa
open Go.ChangeShapes Go.WideShapes Go.ChangeAt Go.RowKit
set_option linter.unusedVariables false

/-- The state that a number leads to. -/
def cnx (z : List Int) (x : Int) : Nat → Nat
  | 0 => 0
  | m + 1 => if ksum z (m + 1) ≤ x then m + 1 else cnx z x m
def cok (z : List Int) (x : Int) : Bool := decide (0 ≤ x) && decide (x < csum z)
def cat (M : List (List Int)) (f : Nat) (ns : List Int) : Nat → Nat
  | 0 => f
  | j + 1 => cnx (M.getD (cat M f ns j) []) (pat ns j) (M.getD (cat M f ns j) []).length
def callok (M : List (List Int)) (f : Nat) (ns : List Int) : Nat → Bool
  | 0 => true
  | j + 1 => callok M f ns j && cok (M.getD (cat M f ns j) []) (pat ns j)
def cvis (M : List (List Int)) (f : Nat) (ns : List Int) (k : Nat) : List Int := (List.range k).map fun j => ((cat M f ns (j + 1) : Nat) : Int)
def cgo (M : List (List Int)) (f : Int) (ns : List Int) : List Int × Int :=
  if cwrong M ≠ 0 then ([], cwrong M) else if f < 0 ∨ (M.length : Int) ≤ f then ([], 3) else if callok M f.toNat ns ns.length = false then ([], 2) else (cvis M f.toNat ns ns.length, 0)
theorem cvis_len (M : List (List Int)) (f : Nat) (ns : List Int) (k : Nat) : (cvis M f ns k).length = k := by simp [cvis]
theorem cvis_next (M : List (List Int)) (f : Nat) (ns : List Int) (k : Nat) : cvis M f ns (k + 1) = cvis M f ns k ++ [((cat M f ns (k + 1) : Nat) : Int)] := by unfold cvis; rw [List.range_succ, List.map_append]; rfl
theorem callok_no {M : List (List Int)} {f : Nat} {ns : List Int} {j : Nat} (h : callok M f ns j = false) : ∀ m, j ≤ m → callok M f ns m = false
  | 0, hm => by have : j = 0 := by omega
                subst this; exact h
  | m + 1, hm => by
    by_cases e : j = m + 1
    · subst e; exact h
    · rw [callok, callok_no h m (by omega)]; rfl
theorem ksum_mono {z : List Int} (h : ∀ y ∈ z, 0 ≤ y ∧ y ≤ 9) {i : Nat} : ∀ {j : Nat}, i ≤ j → ksum z i ≤ ksum z j
  | 0, hj => by have : i = 0 := by omega
                subst this; exact Int.le_refl _
  | j + 1, hj => by
    by_cases e : i = j + 1
    · subst e; exact Int.le_refl _
    · have h1 := ksum_mono h (i := i) (j := j) (by omega)
      have h2 := pat_nine h j
      rw [ksum]; omega
theorem cnx_at {z : List Int} (h : ∀ y ∈ z, 0 ≤ y ∧ y ≤ 9) {x : Int} {k : Nat} (h1 : ksum z k ≤ x) (h2 : x < ksum z (k + 1)) : ∀ m, k ≤ m → cnx z x m = k
  | 0, hm => by have : k = 0 := by omega
                subst this; rfl
  | m + 1, hm => by
    rw [cnx]
    by_cases e : k = m + 1
    · subst e; rw [if_pos h1]
    · have h3 := ksum_mono h (i := k + 1) (j := m + 1) (by omega)
      rw [if_neg (by omega)]
      exact cnx_at h h1 h2 m (by omega)
theorem cnx_ex {z : List Int} {x : Int} (h0 : 0 ≤ x) : ∀ m, x < ksum z m → ∃ k, k < m ∧ ksum z k ≤ x ∧ x < ksum z (k + 1)
  | 0, h => by rw [ksum] at h; omega
  | m + 1, h => by
    by_cases h1 : x < ksum z m
    · obtain ⟨k, h2, h3⟩ := cnx_ex h0 m h1
      exact ⟨k, by omega, h3⟩
    · exact ⟨m, by omega, by omega, h⟩
def nxI (z : List Int) (x : Int) : Nat → Int
  | 0 => -1
  | m + 1 => if ksum z m ≤ x ∧ x < ksum z m + pat z m then m else nxI z x m
theorem nxI_at {z : List Int} (h : ∀ y ∈ z, 0 ≤ y ∧ y ≤ 9) {x : Int} {k : Nat} (h1 : ksum z k ≤ x) (h2 : x < ksum z (k + 1)) : ∀ m, k < m → nxI z x m = k
  | 0, hm => absurd hm (Nat.not_lt_zero _)
  | m + 1, hm => by
    rw [nxI]
    by_cases e : k = m
    · subst e; rw [ksum] at h2; rw [if_pos ⟨h1, h2⟩]
    · have h3 := ksum_mono h (i := k + 1) (j := m) (by omega)
      rw [if_neg (by omega)]
      exact nxI_at h h1 h2 m (by omega)
theorem nxI_no {z : List Int} (h : ∀ y ∈ z, 0 ≤ y ∧ y ≤ 9) {x : Int} : ∀ m, (x < 0 ∨ ksum z m ≤ x) → nxI z x m = -1
  | 0, _ => rfl
  | m + 1, hx => by
    have h1 := ksum_mono h (i := 0) (j := m) (by omega)
    have h2 : ksum z m ≤ ksum z (m + 1) := ksum_mono h (by omega)
    have h3 : ksum z (m + 1) = ksum z m + pat z m := rfl
    rw [show ksum z 0 = 0 from rfl] at h1
    rw [nxI, if_neg (by omega)]
    exact nxI_no h m (by omega)
theorem cok_next {z : List Int} (h : ∀ y ∈ z, 0 ≤ y ∧ y ≤ 9) {x : Int} (hc : cok z x = true) : cnx z x z.length < z.length ∧ nxI z x z.length = ((cnx z x z.length : Nat) : Int) := by
  unfold cok at hc
  rw [Bool.and_eq_true] at hc
  have h0 : 0 ≤ x := by simpa using hc.1
  have h1 : x < csum z := by simpa using hc.2
  obtain ⟨k, h2, h3, h4⟩ := cnx_ex h0 z.length h1
  rw [cnx_at h h3 h4 z.length (by omega), nxI_at h h3 h4 z.length h2]
  exact ⟨h2, rfl⟩
theorem cok_not {z : List Int} (h : ∀ y ∈ z, 0 ≤ y ∧ y ≤ 9) {x : Int} (hc : cok z x = false) : nxI z x z.length = -1 := by
  refine nxI_no h _ ?_
  by_cases h0 : 0 ≤ x
  · by_cases h1 : x < csum z
    · unfold cok at hc
      rw [decide_eq_true h0, decide_eq_true h1] at hc
      cases hc
    · exact .inr (by unfold csum at h1; omega)
  · exact .inl (by omega)
theorem go_bad (C A : Option Addr) (l : List Rw) (d c : Nat) (f : Int) (ns : List Int) (w : World) (hl : RowsOk w w.heap.size C l) (hm2 : l.length ≤ 9223372036854775807) (h : cwrong (nums l) ≠ 0 ∨ f < 0 ∨ ((nums l).length : Int) ≤ f) :
    Calls Try.prog 17 #[.slice C l.length d, .int .i64 f, .slice A ns.length c] w fun e w' => SOut w w' e (cgo (nums l) f ns).1 (cgo (nums l) f ns).2 := by
  have HW := Lib.hid (cwrong_any C l d w.heap.size w hl hm2)
  by_cases h0 : cwrong (nums l) = 0
  · have h1 : f < 0 ∨ ((nums l).length : Int) ≤ f := h.resolve_left (fun h2 => h2 h0)
    have HF : Hid (cgo (nums l) f ns = ([], 3)) := by unfold Hid cgo; rw [if_neg (by simp [h0]), if_pos h1]
    rw [h0] at HW
    rw [HF.out]
    rw [COk.nums_len] at h1
    clear hl h0 h HF
    rcases (by omega : f < 0 ∨ (¬ f < 0 ∧ (l.length : Int) ≤ f)) with h2 | ⟨h2, h3⟩
    all_goals
      clear h1
      go_enter Try.func17, Try.ntmps17
      go_wp2_with fail
      refine HW.out.mono ?_
      rintro e w1 ⟨rfl, m1, rfl⟩
      have HB1 : Hid (Below w.heap.size w (w.drewN m1)) := below_drewN (Below.refl _ _) m1
      go_wp2_with fail
      go_ret2
      exact SOut.nil_ HB1.out
  · have HF : Hid (cgo (nums l) f ns = ([], cwrong (nums l))) := if_pos h0
    have b0 : (cwrong (nums l) != 0) = true := by simp [h0]
    rw [HF.out]
    clear HF
    generalize cwrong (nums l) = z at *
    clear hl h0 h
    go_enter Try.func17, Try.ntmps17
    go_wp2_with fail
    refine HW.out.mono ?_
    rintro e w1 ⟨rfl, m1, rfl⟩
    have HB1 : Hid (Below w.heap.size w (w.drewN m1)) := below_drewN (Below.refl _ _) m1
    go_wp2_with fail
    go_ret2
    exact SOut.nil_ HB1.out
theorem sgo_bad (C A : Option Addr) (l : List Rw) (d c : Nat) (f : Int) (ns : List Int) (w : World) (hl : RowsOk w w.heap.size C l) (hm2 : l.length ≤ 9223372036854775807) (h : cwrong (nums l) ≠ 0 ∨ f < 0 ∨ ((nums l).length : Int) ≤ f) :
    Calls Try.prog 18 #[.slice C l.length d, .int .i64 f, .slice A ns.length c] w fun e w' => SOut w w' e (cgo (nums l) f ns).1 (cgo (nums l) f ns).2 := by
  have HW := Lib.hid (swrong_any C l d w.heap.size w hl hm2)
  by_cases h0 : cwrong (nums l) = 0
  · have h1 : f < 0 ∨ ((nums l).length : Int) ≤ f := h.resolve_left (fun h2 => h2 h0)
    have HF : Hid (cgo (nums l) f ns = ([], 3)) := by unfold Hid cgo; rw [if_neg (by simp [h0]), if_pos h1]
    rw [h0] at HW
    rw [HF.out]
    rw [COk.nums_len] at h1
    clear hl h0 h HF
    rcases (by omega : f < 0 ∨ (¬ f < 0 ∧ (l.length : Int) ≤ f)) with h2 | ⟨h2, h3⟩
    all_goals
      clear h1
      go_enter Try.func18, Try.ntmps18
      go_wp2_with fail
      refine HW.out.mono ?_
      rintro e w1 ⟨rfl, m1, rfl⟩
      have HB1 : Hid (Below w.heap.size w (w.drewN m1)) := below_drewN (Below.refl _ _) m1
      go_wp2_with fail
      go_ret2
      exact SOut.nil_ HB1.out
  · have HF : Hid (cgo (nums l) f ns = ([], cwrong (nums l))) := if_pos h0
    have b0 : (cwrong (nums l) != 0) = true := by simp [h0]
    rw [HF.out]
    clear HF
    generalize cwrong (nums l) = z at *
    clear hl h0 h
    go_enter Try.func18, Try.ntmps18
    go_wp2_with fail
    refine HW.out.mono ?_
    rintro e w1 ⟨rfl, m1, rfl⟩
    have HB1 : Hid (Below w.heap.size w (w.drewN m1)) := below_drewN (Below.refl _ _) m1
    go_wp2_with fail
    go_ret2
    exact SOut.nil_ HB1.out
set_option maxRecDepth 20000 in
set_option maxHeartbeats 8000000 in
theorem go_ok (C A : Option Addr) (l : List Rw) (d c : Nat) (f0 : Nat) (ns : List Int) (w : World) (hl : RowsOk w w.heap.size C l) (hm2 : l.length ≤ 9223372036854775807) (hns : Seg w w.heap.size A (ns.map (.int .i64))) (hn8 : ns.length * 8 ≤ 140737488355328) (h0 : cwrong (nums l) = 0) (hf : f0 < l.length) :
    Calls Try.prog 17 #[.slice C l.length d, .int .i64 f0, .slice A ns.length c] w fun e w' => SOut w w' e (cgo (nums l) f0 ns).1 (cgo (nums l) f0 ns).2 := by
  have HW := Lib.hid (cwrong_any C l d w.heap.size w hl hm2)
  rw [h0] at HW
  have hok := cok_of h0
  obtain ⟨M, hM⟩ : ∃ M, M = nums l := ⟨_, rfl⟩
  obtain ⟨n, hn⟩ : ∃ n, n = l.length := ⟨_, rfl⟩
  have hMn : M.length = n := by rw [hM, hn]; exact COk.nums_len
  have hrow : Hid (∀ k (h : k < l.length), l[k].2.1.length = n ∧ M.getD k [] = l[k].2.1 ∧ (∀ y ∈ l[k].2.1, 0 ≤ y ∧ y ≤ 9) ∧ 1 ≤ csum l[k].2.1 ∧ csum l[k].2.1 ≤ 45) := fun k hk => by
    have hk' : k < (nums l).length := by rw [COk.nums_len]; exact hk
    have h3 : (nums l)[k]'hk' = l[k].2.1 := by simp [nums]
    have h1 := hok.row k hk'
    have h2 := hok.num k hk'
    have h4 := hok.sum k hk'
    rw [h3] at h2 h4
    exact ⟨by rw [← h3]; exact h1.trans (COk.nums_len.trans hn.symm), by rw [hM, nums_get hk], h2, h4⟩
  rw [← hM] at hok h0 ⊢
  have hn5 := hok.le
  have hn1 := hok.pos
  rw [hMn] at hn5 hn1
  have HF : Hid (cgo M f0 ns = if callok M f0 ns ns.length = false then ([], 2) else (cvis M f0 ns ns.length, 0)) := by
    unfold Hid cgo; rw [if_neg (by simp [h0]), if_neg (by rw [hMn]; omega)]; rfl
  have HL := Lib.hid hl
  have HNS := Lib.hid hns
  have HN8 : Hid (ns.length * 8 ≤ 140737488355328 ∧ ns.length ≤ maxLen) := ⟨hn8, by unfold maxLen; omega⟩
  have HN := Lib.hid (And.intro hn.symm (And.intro hn1 hn5))
  have i0 : ¬ (f0 : Int) < 0 := by omega
  have i0b : ¬ (n : Int) ≤ (f0 : Int) := by omega
  have HF0 : Hid (f0 < n) := by unfold Hid; omega
  rw [← hn] at HW ⊢
  clear hl hok hMn hn hn5 hn1 hM h0 hm2 hns hn8 hf
  go_enter Try.func17, Try.ntmps17
  go_wp2_with fail
  refine HW.out.mono ?_
  rintro e w1 ⟨rfl, m1, rfl⟩
  have HB1 : Hid (Below w.heap.size w (w.drewN m1)) := below_drewN (Below.refl _ _) m1
  go_wp2_with fail
  clear HW i0 i0b
  --LOOK1
  go_loopw [1, 9, 28] (fun s1 s9 s28 wx => ∃ j : Nat, j ≤ ns.length ∧ s28 = .int .i64 j ∧ s1 = .int .i64 (cat M f0 ns j : Nat) ∧ Hid (cat M f0 ns j < n) ∧ Hid (callok M f0 ns j = true) ∧ Hid (Own wx w.heap.size tN s9 ((cvis M f0 ns j).map (.int .i64))) ∧ Hid (Below w.heap.size w wx)) (fun _ _ s28 _ => ns.length - (intOf s28).toNat)
  case atStart => exact ⟨0, Nat.zero_le _, rfl, rfl, HF0.out, rfl, Own.none_, HB1.out⟩
  case round =>
    obtain ⟨j, hj, rfl, rfl, hcl, hco, hout, hb⟩ := hrel
    obtain ⟨A9, c9, rfl, hc9, hown9⟩ := hout.out.res2
    rw [List.length_map, cvis_len] at hown9 hc9
    rw [List.length_map, cvis_len]
    have HO9 := Lib.hid hown9
    have HC9 := Lib.hid hc9
    clear hout hown9 hc9
    by_cases hjl : j < ns.length
    · have i1 : (j : Int) < (ns.length : Int) := by omega
      have uj : Hid (wrap64 ((j : Int) + 1) = ((j + 1 : Nat) : Int)) := cw64 (by have := HN8.out.2; unfold maxLen at this; omega)
      have HJ := Lib.hid (And.intro hj hjl)
      obtain ⟨nd, rfl, _, hcn0⟩ := HNS.out.pat (k := j) (by omega)
      have hcn := (hb.out.cell (block_lt hcn0)).trans hcn0
      have HC1 : Hid (callok M f0 ns (j + 1) = (callok M f0 ns j && cok (M.getD (cat M f0 ns j) []) (pat ns j))) := rfl
      have HA1 : Hid (cat M f0 ns (j + 1) = cnx (M.getD (cat M f0 ns j) []) (pat ns j) (M.getD (cat M f0 ns j) []).length) := rfl
      obtain ⟨g, hg⟩ : ∃ g, g = cat M f0 ns j := ⟨_, rfl⟩
      rw [← hg] at hcl HC1 HA1 ⊢
      have hg2 : g < l.length := by have := HN.out; have := hcl.out; omega
      obtain ⟨ad, rfl, _, hcr0, hrr⟩ := HL.out.row hg2
      obtain ⟨⟨A1, z, c1⟩, hx1⟩ : ∃ x : Rw, x = l[g] := ⟨_, rfl⟩
      obtain ⟨hzl, hmt, hz9, hzs⟩ := hrow.out g hg2
      rw [← hx1] at hcr0 hrr hzl hmt hz9 hzs
      have hzl' : z.length = n := hzl
      have hcr := (hb.out.cell (block_lt hcr0)).trans hcr0
      have hcr' : wr.cell? (ad.add g) = some (.slice A1 z.length c1) := hcr
      rw [hzl'] at hcr'
      have HZ : Hid (Seg wr wr.heap.size A1 (z.map (.int .i64))) := (Seg.below hrr.1 hb.out).more hb.out.size
      have HZ9 : Hid (∀ y ∈ z, 0 ≤ y ∧ y ≤ 9) := hz9
      have HZL := Lib.hid hzl'
      have HSUM : Hid (Calls Try.prog 46 #[.slice A1 n c1] wr fun e w' => e = .returned (.int .i64 (csum z)) ∧ w' = wr) := by
        have := csum_any A1 z c1 wr.heap.size wr HZ.out hz9 (by have := HN.out; omega)
        rw [hzl'] at this; exact this
      rw [show M.getD g [] = z from hmt] at HC1 HA1
      have i2 : (g : Int) < (n : Int) := by have := hcl.out; omega
      obtain ⟨x, hx⟩ : ∃ x, x = pat ns j := ⟨_, rfl⟩
      rw [← hx] at hcn HC1 HA1
      have HZS : Hid (1 ≤ csum z ∧ csum z ≤ 45) := hzs
      clear hx hg hcr0 hrr hzl hmt hz9 hzs hx1 hzl' hcr hg2 hj hjl hcn0
      by_cases hc : cok z x = true
      · have hxx := hc
        unfold cok at hxx
        rw [Bool.and_eq_true] at hxx
        have h0 : 0 ≤ x := by simpa using hxx.1
        have h1 : x < csum z := by simpa using hxx.2
        have j0 : ¬ x < 0 := by omega
        have j1 : ¬ csum z ≤ x := by omega
        have HCO : Hid (callok M f0 ns (j + 1) = true) := by unfold Hid; rw [HC1.out, hco.out, hc]; rfl
        have hXB : Hid (0 ≤ x ∧ x < ksum z n ∧ x ≤ 45) := ⟨h0, by have := HZL.out; unfold csum at h1; rw [this] at h1; exact h1, by have := HZS.out; omega⟩
        clear hxx h0 h1 hc HC1
        go_wp2_with (first | (refine HSUM.out.mono ?_; rintro e w2 ⟨rfl, rfl⟩) | fail)
        clear j0 j1 hcn i1
        --LOOK2
        go_loopw [11, 12] (fun s11 s12 wx => ∃ k : Nat, k < n ∧ s12 = .int .i64 k ∧ s11 = .int .i64 (x - ksum z k) ∧ Hid (ksum z k ≤ x) ∧ wx = w2) (fun _ s12 _ => n - (intOf s12).toNat)
        case atStart => exact ⟨0, by have := HN.out; omega, rfl, by first | rfl | (rw [show ksum z 0 = 0 from rfl, Int.sub_zero]), hXB.out.1, by first | rfl | trivial⟩
        case round =>
          obtain ⟨k, hk, rfl, rfl, hks, rfl⟩ := hrel
          have i3 : (k : Int) < (n : Int) := by omega
          obtain ⟨zd, rfl, _, hcz⟩ := HZ.out.pat (k := k) (by have := HZL.out; omega)
          have hp9 := pat_nine HZ9.out k
          have hst : ksum z (k + 1) = ksum z k + pat z k := rfl
          have uk : Hid (wrap64 ((k : Int) + 1) = ((k + 1 : Nat) : Int)) := cw64 (by have := HN.out; omega)
          have hk0 : 0 ≤ ksum z k := by have := ksum_mono HZ9.out (i := 0) (j := k) (by omega); exact this
          have HKE : Hid (k + 1 = n → ksum z (k + 1) ≤ x → False) := fun e h => by have := hXB.out; rw [e] at h; omega
          have HAT : Hid (x < ksum z (k + 1) → cnx z x n = k) := fun h => cnx_at HZ9.out hks.out h n (by omega)
          have hXB2 := hXB.out
          obtain ⟨p, hp⟩ : ∃ p, p = pat z k := ⟨_, rfl⟩
          obtain ⟨s, hs⟩ : ∃ s, s = ksum z k := ⟨_, rfl⟩
          obtain ⟨s1, hs1⟩ : ∃ s, s = ksum z (k + 1) := ⟨_, rfl⟩
          rw [← hp] at hcz hp9 hst
          rw [← hs] at hst hk0 hks ⊢
          rw [← hs1] at hst HKE HAT
          have HS1 := Lib.hid hs1
          have HKK := Lib.hid hk
          have hks2 := hks.out
          clear hp hs hs1 hk
          by_cases hlt : p ≤ x - s
          · have hw : wrap64 (x - s - p) = x - s - p := dw64 (by omega) (by omega)
            have HE : Hid (x - s - p = x - s1) := by unfold Hid; omega
            have HLE : Hid (s1 ≤ x) := by unfold Hid; omega
            clear hst hp9 hk0 hXB2 hks2
            go_wp2_with fail
            go_roundw
            case rel => exact ⟨k + 1, by have := HKE.out; have := HLE.out; have := HKK.out; by_cases e : k + 1 = n <;> first | (exfalso; exact HKE.out e HLE.out) | omega, by first | rfl | rw [uk.out], by first | (rw [hw, HE.out, HS1.out]) | (rw [HE.out, HS1.out]), by unfold Hid; rw [← HS1.out]; exact HLE.out, by first | rfl | trivial⟩
            case measure => (try rw [uk.out]); have := HKK.out; simp [intOf]; omega
          · have hAT : Hid (cat M f0 ns (j + 1) = k) := by unfold Hid; rw [HA1.out, HZL.out]; exact HAT.out (by omega)
            have HO9b := Lib.hid (Own.alloc' HO9.out (.cells #[.int .i64 (k : Int)] tN))
            have HMB : Hid ((j + 1) * 8 ≤ 140737488355328 ∧ j + 1 ≤ maxLen) := by have h1 := HN8.out.1; have h2 := HN8.out.2; have h3 := HJ.out; unfold Hid; omega
            have HSZ : Hid (w.heap.size ≤ (wr.alloc (.cells #[.int .i64 (k : Int)] tN)).heap.size) := by have := hb.out.size; unfold Hid; simp; omega
            clear hst hp9 hk0 hXB2 hks2
            go_wp2_with (first
              | (at_builtin; go_must (refine wpList_push _ rfl _ _ 36 tN 8 elem_ints rfl w.heap.size _ _ rfl HO9b.out (.int .i64 (k : Int)) ⟨wr.heap.size, 0, none⟩ 1 rfl (cell_new1 _ _ _) rfl (by rw [List.length_map, cvis_len]; exact HMB.out.1) (by rw [List.length_map, cvis_len]; exact HMB.out.2) HSZ.out ?_); intro v6 w6 hown6 hb6; have HO6 := Lib.hid hown6; have HB6 := Lib.hid hb6; clear hown6 hb6)
              | fail)
            refine ⟨?rel, ?measure⟩
            case rel =>
              (repeat apply Exists.intro)
              refine ⟨?r, rfl, rfl, rfl, rfl, rfl, rfl, rfl⟩
              refine ⟨j + 1, by have := HJ.out; omega, by first | rfl | rw [uj.out], by rw [hAT.out], by unfold Hid; rw [hAT.out]; exact HKK.out, HCO, ?_, hb.out.trans (((Below.refl _ _).alloc hb.out.size _).trans HB6.out)⟩
              unfold Hid
              rw [cvis_next, List.map_append, hAT.out]
              exact HO6.out
            case measure => (try rw [uj.out]); have := HJ.out; simp [intOf]; omega
      · have hfin : Hid (cgo M f0 ns = ([], 2)) := by
          unfold Hid
          rw [HF.out, if_pos (callok_no (j := j + 1) (by rw [HC1.out, Bool.eq_false_iff.2 hc, Bool.and_false]) _ HJ.out.2)]
        have hcc : x < 0 ∨ (¬ x < 0 ∧ csum z ≤ x) := by
          by_cases h0 : x < 0
          · exact .inl h0
          · refine .inr ⟨h0, ?_⟩
            by_cases h1 : csum z ≤ x
            · exact h1
            · exfalso
              apply hc
              unfold cok
              rw [decide_eq_true (by omega), decide_eq_true (by omega)]; rfl
        clear hc
        rcases hcc with h0 | ⟨h0, h1⟩
        · go_wp2_with (first | (refine HSUM.out.mono ?_; rintro e w2 ⟨rfl, rfl⟩) | fail)
          go_ret2
          rw [hfin.out]
          exact SOut.nil_ hb.out
        · go_wp2_with (first | (refine HSUM.out.mono ?_; rintro e w2 ⟨rfl, rfl⟩) | fail)
          go_ret2
          rw [hfin.out]
          exact SOut.nil_ hb.out
    · obtain rfl : j = ns.length := by omega
      have hfin : Hid (cgo M f0 ns = (cvis M f0 ns ns.length, 0)) := by unfold Hid; rw [HF.out, if_neg (by rw [hco.out]; simp)]
      have HO := Lib.hid (Own.seg HO9.out)
      clear hj hjl
      go_wp2_with fail
      go_ret2
      rw [hfin.out]
      exact ⟨A9, c9, by rw [cvis_len]; rfl, by rw [cvis_len]; exact HC9.out, HO.out, hb.out⟩
set_option maxRecDepth 20000 in
set_option maxHeartbeats 8000000 in
theorem sgo_ok (C A : Option Addr) (l : List Rw) (d c : Nat) (f0 : Nat) (ns : List Int) (w : World) (hl : RowsOk w w.heap.size C l) (hm2 : l.length ≤ 9223372036854775807) (hns : Seg w w.heap.size A (ns.map (.int .i64))) (hn8 : ns.length * 8 ≤ 140737488355328) (h0 : cwrong (nums l) = 0) (hf : f0 < l.length) :
    Calls Try.prog 18 #[.slice C l.length d, .int .i64 f0, .slice A ns.length c] w fun e w' => SOut w w' e (cgo (nums l) f0 ns).1 (cgo (nums l) f0 ns).2 := by
  have HW := Lib.hid (swrong_any C l d w.heap.size w hl hm2)
  rw [h0] at HW
  have hok := cok_of h0
  obtain ⟨M, hM⟩ : ∃ M, M = nums l := ⟨_, rfl⟩
  obtain ⟨n, hn⟩ : ∃ n, n = l.length := ⟨_, rfl⟩
  have hMn : M.length = n := by rw [hM, hn]; exact COk.nums_len
  have hrow : Hid (∀ k (h : k < l.length), l[k].2.1.length = n ∧ M.getD k [] = l[k].2.1 ∧ (∀ y ∈ l[k].2.1, 0 ≤ y ∧ y ≤ 9) ∧ 1 ≤ csum l[k].2.1 ∧ csum l[k].2.1 ≤ 45) := fun k hk => by
    have hk' : k < (nums l).length := by rw [COk.nums_len]; exact hk
    have h3 : (nums l)[k]'hk' = l[k].2.1 := by simp [nums]
    have h1 := hok.row k hk'
    have h2 := hok.num k hk'
    have h4 := hok.sum k hk'
    rw [h3] at h2 h4
    exact ⟨by rw [← h3]; exact h1.trans (COk.nums_len.trans hn.symm), by rw [hM, nums_get hk], h2, h4⟩
  rw [← hM] at hok h0 ⊢
  have hn5 := hok.le
  have hn1 := hok.pos
  rw [hMn] at hn5 hn1
  have HF : Hid (cgo M f0 ns = if callok M f0 ns ns.length = false then ([], 2) else (cvis M f0 ns ns.length, 0)) := by
    unfold Hid cgo; rw [if_neg (by simp [h0]), if_neg (by rw [hMn]; omega)]; rfl
  have HL := Lib.hid hl
  have HNS := Lib.hid hns
  have HN8 : Hid (ns.length * 8 ≤ 140737488355328 ∧ ns.length ≤ maxLen) := ⟨hn8, by unfold maxLen; omega⟩
  have HN := Lib.hid (And.intro hn.symm (And.intro hn1 hn5))
  have i0 : ¬ (f0 : Int) < 0 := by omega
  have i0b : ¬ (n : Int) ≤ (f0 : Int) := by omega
  have HF0 : Hid (f0 < n) := by unfold Hid; omega
  rw [← hn] at HW ⊢
  clear hl hok hMn hn hn5 hn1 hM h0 hm2 hns hn8 hf
  go_enter Try.func18, Try.ntmps18
  go_wp2_with fail
  refine HW.out.mono ?_
  rintro e w1 ⟨rfl, m1, rfl⟩
  have HB1 : Hid (Below w.heap.size w (w.drewN m1)) := below_drewN (Below.refl _ _) m1
  go_wp2_with fail
  clear HW i0 i0b
  --LOOK1
  go_loopw [1, 9, 31] (fun s1 s9 s31 wx => ∃ j : Nat, j ≤ ns.length ∧ s31 = .int .i64 j ∧ s1 = .int .i64 (cat M f0 ns j : Nat) ∧ Hid (cat M f0 ns j < n) ∧ Hid (callok M f0 ns j = true) ∧ Hid (Own wx w.heap.size tN s9 ((cvis M f0 ns j).map (.int .i64))) ∧ Hid (Below w.heap.size w wx)) (fun _ _ s31 _ => ns.length - (intOf s31).toNat)
  case atStart => exact ⟨0, Nat.zero_le _, rfl, rfl, HF0.out, rfl, Own.none_, HB1.out⟩
  case round =>
    obtain ⟨j, hj, rfl, rfl, hcl, hco, hout, hb⟩ := hrel
    obtain ⟨A9, c9, rfl, hc9, hown9⟩ := hout.out.res2
    rw [List.length_map, cvis_len] at hown9 hc9
    rw [List.length_map, cvis_len]
    have HO9 := Lib.hid hown9
    have HC9 := Lib.hid hc9
    clear hout hown9 hc9
    by_cases hjl : j < ns.length
    · have i1 : (j : Int) < (ns.length : Int) := by omega
      have uj : Hid (wrap64 ((j : Int) + 1) = ((j + 1 : Nat) : Int)) := cw64 (by have := HN8.out.2; unfold maxLen at this; omega)
      have HJ := Lib.hid (And.intro hj hjl)
      obtain ⟨nd, rfl, _, hcn0⟩ := HNS.out.pat (k := j) (by omega)
      have hcn := (hb.out.cell (block_lt hcn0)).trans hcn0
      have HC1 : Hid (callok M f0 ns (j + 1) = (callok M f0 ns j && cok (M.getD (cat M f0 ns j) []) (pat ns j))) := rfl
      have HA1 : Hid (cat M f0 ns (j + 1) = cnx (M.getD (cat M f0 ns j) []) (pat ns j) (M.getD (cat M f0 ns j) []).length) := rfl
      obtain ⟨g, hg⟩ : ∃ g, g = cat M f0 ns j := ⟨_, rfl⟩
      rw [← hg] at hcl HC1 HA1 ⊢
      have hg2 : g < l.length := by have := HN.out; have := hcl.out; omega
      obtain ⟨ad, rfl, _, hcr0, hrr⟩ := HL.out.row hg2
      obtain ⟨⟨A1, z, c1⟩, hx1⟩ : ∃ x : Rw, x = l[g] := ⟨_, rfl⟩
      obtain ⟨hzl, hmt, hz9, hzs⟩ := hrow.out g hg2
      rw [← hx1] at hcr0 hrr hzl hmt hz9 hzs
      have hzl' : z.length = n := hzl
      have hcr := (hb.out.cell (block_lt hcr0)).trans hcr0
      have hcr' : wr.cell? (ad.add g) = some (.slice A1 z.length c1) := hcr
      rw [hzl'] at hcr'
      have HZ : Hid (Seg wr wr.heap.size A1 (z.map (.int .i64))) := (Seg.below hrr.1 hb.out).more hb.out.size
      have HZ9 : Hid (∀ y ∈ z, 0 ≤ y ∧ y ≤ 9) := hz9
      have HZL := Lib.hid hzl'
      have HSUM : Hid (Calls Try.prog 46 #[.slice A1 n c1] wr fun e w' => e = .returned (.int .i64 (csum z)) ∧ w' = wr) := by
        have := csum_any A1 z c1 wr.heap.size wr HZ.out hz9 (by have := HN.out; omega)
        rw [hzl'] at this; exact this
      rw [show M.getD g [] = z from hmt] at HC1 HA1
      have i2 : (g : Int) < (n : Int) := by have := hcl.out; omega
      obtain ⟨x, hx⟩ : ∃ x, x = pat ns j := ⟨_, rfl⟩
      rw [← hx] at hcn HC1 HA1
      have HZS : Hid (1 ≤ csum z ∧ csum z ≤ 45) := hzs
      clear hx hg hcr0 hrr hzl hmt hz9 hzs hx1 hzl' hcr hg2 hj hjl hcn0
      have HNX := Lib.hid (fun hc => cok_next HZ9.out (x := x) hc)
      have HNO := Lib.hid (fun hc => cok_not HZ9.out (x := x) hc)
      rw [HZL.out] at HNX HNO HA1
      clear HSUM
      go_wp2_with fail
      clear hcn i1 i2 hcr'
      --LOOK2
      go_loopw [12, 13, 40] (fun s12 s13 s40 wx => ∃ k : Nat, k ≤ n ∧ s40 = .int .i64 k ∧ s12 = .int .i64 (ksum z k) ∧ s13 = .int .i64 (nxI z x k) ∧ wx = wr) (fun _ _ s40 _ => n - (intOf s40).toNat)
      case atStart => exact ⟨0, Nat.zero_le _, rfl, rfl, rfl, by first | rfl | trivial⟩
      case round =>
        obtain ⟨k, hk, rfl, rfl, rfl, rfl⟩ := hrel
        by_cases hkl : k < n
        · have i3 : (k : Int) < (n : Int) := by omega
          obtain ⟨zd, rfl, _, hcz⟩ := HZ.out.pat (k := k) (by have := HZL.out; omega)
          have hp9 := pat_nine HZ9.out k
          have hst : ksum z (k + 1) = ksum z k + pat z k := rfl
          have HNI : Hid (nxI z x (k + 1) = if ksum z k ≤ x ∧ x < ksum z k + pat z k then (k : Int) else nxI z x k) := rfl
          have uk : Hid (wrap64 ((k : Int) + 1) = ((k + 1 : Nat) : Int)) := cw64 (by have := HN.out; omega)
          have hk0 : 0 ≤ ksum z k := by have := ksum_mono HZ9.out (i := 0) (j := k) (by omega); exact this
          have hk1 : ksum z (k + 1) ≤ 45 := by
            have h1 := ksum_mono HZ9.out (i := k + 1) (j := n) (by omega)
            have h2 := HZS.out.2
            unfold csum at h2; rw [HZL.out] at h2; omega
          obtain ⟨p, hp⟩ : ∃ p, p = pat z k := ⟨_, rfl⟩
          obtain ⟨s, hs⟩ : ∃ s, s = ksum z k := ⟨_, rfl⟩
          obtain ⟨s1, hs1⟩ : ∃ s, s = ksum z (k + 1) := ⟨_, rfl⟩
          obtain ⟨q, hq⟩ : ∃ q, q = nxI z x k := ⟨_, rfl⟩
          rw [← hp] at hcz hp9 hst HNI
          rw [← hs] at hst hk0 HNI ⊢
          rw [← hs1] at hst hk1
          rw [← hq] at HNI ⊢
          have HS1 := Lib.hid hs1
          have HKK := Lib.hid (And.intro hk hkl)
          have hw : wrap64 (s + p) = s + p := dw64 (by omega) (by omega)
          have HE : Hid (s + p = s1) := hst.symm
          clear hp hs hs1 hq hk hkl hst hp9 hk0 hk1
          rcases (by omega : (s ≤ x ∧ x < s + p) ∨ (s ≤ x ∧ ¬ x < s + p) ∨ (¬ s ≤ x)) with ⟨h1, h2⟩ | ⟨h1, h2⟩ | h1
          · have hni : Hid (nxI z x (k + 1) = (k : Int)) := by unfold Hid; rw [HNI.out, if_pos ⟨h1, h2⟩]
            go_wp2_with fail
            go_roundw
            case rel => exact ⟨k + 1, by have := HKK.out; omega, by first | rfl | rw [uk.out], by rw [hw, HE.out, HS1.out], by rw [hni.out], by first | rfl | trivial⟩
            case measure => (try rw [uk.out]); have := HKK.out; simp [intOf]; omega
          · have hni : Hid (nxI z x (k + 1) = q) := by unfold Hid; rw [HNI.out, if_neg (fun h => h2 h.2)]
            go_wp2_with fail
            go_roundw
            case rel => exact ⟨k + 1, by have := HKK.out; omega, by first | rfl | rw [uk.out], by rw [hw, HE.out, HS1.out], by rw [hni.out], by first | rfl | trivial⟩
            case measure => (try rw [uk.out]); have := HKK.out; simp [intOf]; omega
          · have hni : Hid (nxI z x (k + 1) = q) := by unfold Hid; rw [HNI.out, if_neg (fun h => h1 h.1)]
            go_wp2_with fail
            go_roundw
            case rel => exact ⟨k + 1, by have := HKK.out; omega, by first | rfl | rw [uk.out], by rw [hw, HE.out, HS1.out], by rw [hni.out], by first | rfl | trivial⟩
            case measure => (try rw [uk.out]); have := HKK.out; simp [intOf]; omega
        · obtain rfl : k = n := by omega
          by_cases hc : cok z x = true
          · have HCO : Hid (callok M f0 ns (j + 1) = true) := by unfold Hid; rw [HC1.out, hco.out, hc]; rfl
            obtain ⟨h1, h2⟩ := HNX.out hc
            obtain ⟨y, hy⟩ : ∃ y, y = cnx z x k := ⟨_, rfl⟩
            rw [← hy] at h1 h2 HA1
            rw [h2]
            have hAT : Hid (cat M f0 ns (j + 1) = y) := HA1.out
            have j0 : ¬ (y : Int) < 0 := by omega
            have HYN := Lib.hid h1
            have HO9b := Lib.hid (Own.alloc' HO9.out (.cells #[.int .i64 (y : Int)] tN))
            have HMB : Hid ((j + 1) * 8 ≤ 140737488355328 ∧ j + 1 ≤ maxLen) := by have h1 := HN8.out.1; have h2 := HN8.out.2; have h3 := HJ.out; unfold Hid; omega
            have HSZ : Hid (w.heap.size ≤ (wr.alloc (.cells #[.int .i64 (y : Int)] tN)).heap.size) := by have := hb.out.size; unfold Hid; simp; omega
            clear hc h1 h2 hy hk hkl
            go_wp2_with (first
              | (at_builtin; go_must (refine wpList_push _ rfl _ _ 36 tN 8 elem_ints rfl w.heap.size _ _ rfl HO9b.out (.int .i64 (y : Int)) ⟨wr.heap.size, 0, none⟩ 1 rfl (cell_new1 _ _ _) rfl (by rw [List.length_map, cvis_len]; exact HMB.out.1) (by rw [List.length_map, cvis_len]; exact HMB.out.2) HSZ.out ?_); intro v6 w6 hown6 hb6; have HO6 := Lib.hid hown6; have HB6 := Lib.hid hb6; clear hown6 hb6)
              | fail)
            refine ⟨?rel, ?measure⟩
            case rel =>
              (repeat apply Exists.intro)
              refine ⟨?r, rfl, rfl, rfl, rfl, rfl, rfl, rfl, rfl, rfl, rfl⟩
              refine ⟨j + 1, by have := HJ.out; omega, by first | rfl | rw [uj.out], by rw [hAT.out], by unfold Hid; rw [hAT.out]; exact HYN.out, HCO, ?_, hb.out.trans (((Below.refl _ _).alloc hb.out.size _).trans HB6.out)⟩
              unfold Hid
              rw [cvis_next, List.map_append, hAT.out]
              exact HO6.out
            case measure => (try rw [uj.out]); have := HJ.out; simp [intOf]; omega
          · have hfin : Hid (cgo M f0 ns = ([], 2)) := by
              unfold Hid
              rw [HF.out, if_pos (callok_no (j := j + 1) (by rw [HC1.out, Bool.eq_false_iff.2 hc, Bool.and_false]) _ HJ.out.2)]
            rw [HNO.out (Bool.eq_false_iff.2 hc)]
            clear hc hk hkl
            go_wp2_with fail
            go_ret2
            rw [hfin.out]
            exact SOut.nil_ hb.out
    · obtain rfl : j = ns.length := by omega
      have hfin : Hid (cgo M f0 ns = (cvis M f0 ns ns.length, 0)) := by unfold Hid; rw [HF.out, if_neg (by rw [hco.out]; simp)]
      have HO := Lib.hid (Own.seg HO9.out)
      clear hj hjl
      go_wp2_with fail
      go_ret2
      rw [hfin.out]
      exact ⟨A9, c9, by rw [cvis_len]; rfl, by rw [cvis_len]; exact HC9.out, HO.out, hb.out⟩

set_option linter.unusedVariables false

section
open World
variable {P : Program} {ops : Array Oper} {Q : Exit → Act → World → Prop} {S : World → Prop} {l : List Oper}
theorem planN0 {k j : Nat} {ks : List (Nat × Nat)} {a : Act} {w : World} {o : Oper} (ho : l[k]? = some o) (hd : o.dst = some j) (hw : Region.wanted o (yielded l.toArray a.tmps) = false)
    (h : wpPlan P l.toArray Q S ks { a with tmps := a.tmps.setIfInBounds j undef } w) : wpPlan P l.toArray Q S ((k, 0) :: ks) a w := ⟨o, undef, by simpa using ho, .inr ⟨hw, rfl⟩, by rw [hd]; exact h⟩
theorem planN1 {k j : Nat} {ks : List (Nat × Nat)} {a : Act} {w : World} {o : Oper} (ho : l[k]? = some o) (hd : o.dst = some j) (hw : Region.wanted o (yielded l.toArray a.tmps) = false)
    (h : wpPlan P l.toArray Q S ks { a with tmps := a.tmps.setIfInBounds j undef } w) : wpPlan P l.toArray Q S ((k, 1) :: ks) a w := ⟨o, undef, by simpa using ho, .inr ⟨hw, rfl⟩, by rw [hd]; exact h⟩
end
abbrev tBo : TypeId := 4
abbrev tBs : TypeId := 66
/-- m rows of n bools, of n rows, made one behind the other from o on. -/
def Grid (w : World) (o n m : Nat) (f : Nat → Nat → Bool) : Prop :=
  w.rowIs o tBs n (fun i => if i < m then .slice (some ⟨o + 1 + i, 0, none⟩) n n else .slice none 0 0) ∧ (∀ i, i < m → w.rowIs (o + 1 + i) tBo n (fun j => .bool (f i j))) ∧ w.heap.size = o + 1 + m
section
variable {w w' : World} {o n m : Nat} {f : Nat → Nat → Bool}
theorem Grid.outer (h : Grid w o n m f) {i : Nat} (hi : i < n) (hm : i < m) : w.cell? ⟨o, i, none⟩ = some (.slice (some ⟨o + 1 + i, 0, none⟩) n n) := by
  have := h.1.cell hi
  rwa [if_pos hm] at this
theorem Grid.drewN (h : Grid w o n m f) (k : Nat) : Grid (w.drewN k) o n m f := h
theorem Grid.congr {g : Nat → Nat → Bool} (h : Grid w o n m f) (e : ∀ i j, i < m → j < n → f i j = g i j) : Grid w o n m g :=
  ⟨h.1, fun i hi => (h.2.1 i hi).congr fun j hj => by rw [e i j hi hj], h.2.2⟩
theorem Grid.set (h : Grid w o n m f) {i : Nat} (hi : i < m) (j : Nat) (b : Bool) : Grid (w.setCell ⟨o + 1 + i, j, none⟩ (.bool b)) o n m (fun a c => if a = i ∧ c = j then b else f a c) := by
  refine ⟨h.1.setOther (by show o ≠ o + 1 + i; omega) _, fun a ha => ?_, by simp [h.2.2]⟩
  by_cases e : a = i
  · subst e
    refine ((h.2.1 a ha).set j (.bool b)).congr fun c hc => ?_
    by_cases e2 : c = j
    · subst e2; simp
    · simp [e2]
  · refine ((h.2.1 a ha).setOther (by show o + 1 + a ≠ o + 1 + i; omega) _).congr fun c hc => ?_
    simp [e]
/-- One row more. -/
theorem Grid.more (h : Grid w o n m f) (hm : m < n) : Grid ((w.alloc (.cells (madeCells #[.bool false] n) tBo)).setCell ⟨o, m, none⟩ (.slice (some ⟨o + 1 + m, 0, none⟩) n n)) o n (m + 1) (fun a c => if a < m then f a c else false) := by
  have hsz := h.2.2
  refine ⟨?_, fun a ha => ?_, by simp [hsz]; omega⟩
  · refine ((h.1.alloc _).set m _).congr fun i hi => ?_
    by_cases e : i = m
    · subst e; simp
    · rw [if_neg e]
      by_cases e2 : i < m
      · rw [if_pos e2, if_pos (by omega)]
      · rw [if_neg e2, if_neg (by omega)]
  · by_cases e : a < m
    · refine (((h.2.1 a e).alloc _).setOther (by show o + 1 + a ≠ o; omega) _).congr fun c hc => ?_
      show Value.bool (f a c) = Value.bool (if a < m then f a c else false)
      rw [if_pos e]
    · obtain rfl : a = m := by omega
      have h1 := World.rowIs_made w (.bool false) n tBo
      rw [hsz] at h1
      refine (h1.setOther (by show o + 1 + a ≠ o; omega) _).congr fun c hc => ?_
      show Value.bool false = Value.bool (if a < a then f a c else false)
      rw [if_neg e]
end
theorem grid_start (w : World) (n : Nat) : Grid (w.alloc (.cells (madeCells #[.slice none 0 0] n) tBs)) w.heap.size n 0 (fun _ _ => false) :=
  ⟨(World.rowIs_made w (.slice none 0 0) n tBs).congr fun i hi => by rw [if_neg (Nat.not_lt_zero _)], fun i hi => absurd hi (Nat.not_lt_zero _), by simp⟩
/-- In the first pass: rows ahead of i, and j of row i, are done. -/
def wbeg (M : List (List Int)) (i j a b : Nat) : Bool := if a < i ∨ (a = i ∧ b < j) then wstart M a b else false
theorem wbeg_start (M : List (List Int)) (i a c : Nat) (ha : a < i + 1) : (if a < i then wbeg M i 0 a c else false) = wbeg M i 0 a c := by
  by_cases e : a < i
  · rw [if_pos e]
  · rw [if_neg e]
    unfold wbeg
    rw [if_neg (by omega)]
theorem wbeg_next (M : List (List Int)) (i j a b : Nat) : wbeg M i (j + 1) a b = if a = i ∧ b = j then wstart M i j else wbeg M i j a b := by
  unfold wbeg
  by_cases h : a = i ∧ b = j
  · obtain ⟨rfl, rfl⟩ := h
    rw [if_pos (by omega), if_pos ⟨rfl, rfl⟩]
  · rw [if_neg h]
    by_cases h2 : a < i ∨ (a = i ∧ b < j)
    · rw [if_pos (by omega), if_pos h2]
    · rw [if_neg (by omega), if_neg h2]

set_option linter.unusedVariables false

set_option maxRecDepth 20000 in
set_option maxHeartbeats 16000000 in
theorem swhole_any (C : Option Addr) (l : List Rw) (d : Nat) (w : World) (hl : RowsOk w w.heap.size C l) (hok : COk (nums l)) :
    Calls Try.prog 22 #[.slice C l.length d] w fun e w' => e = .returned (.bool (cwhole (nums l))) ∧ Below w.heap.size w w' := by
  obtain ⟨M, hM⟩ : ∃ M, M = nums l := ⟨_, rfl⟩
  obtain ⟨n, hn⟩ : ∃ n, n = l.length := ⟨_, rfl⟩
  have hMn : M.length = n := by rw [hM, hn]; exact COk.nums_len
  have hrow : Hid (∀ k (h : k < l.length), l[k].2.1.length = n ∧ mat M k = pat l[k].2.1) := fun k hk => by
    have h1 := hok.row k (by rw [COk.nums_len]; exact hk)
    have h2 := nums_get hk
    refine ⟨?_, ?_⟩
    · have h3 : (nums l)[k]'(by rw [COk.nums_len]; exact hk) = l[k].2.1 := by simp [nums]
      rw [← h3]
      exact h1.trans (COk.nums_len.trans hn.symm)
    · funext j; unfold mat; rw [hM, h2]
  have hn5 : n ≤ 5 := by have := hok.le; rw [COk.nums_len, ← hn] at this; exact this
  rw [← hM, ← hn]
  have HWH : Hid (cwhole M = true ↔ ∀ a, a < n → ∀ b, b < n → wway M n a b = true) := by
    unfold Hid
    rw [← wwhole_eq]
    unfold wwhole
    rw [hMn, List.all_eq_true]
    constructor
    · intro h a ha b hb
      exact List.all_eq_true.1 (h a (List.mem_range.2 ha)) b (List.mem_range.2 hb)
    · intro h a ha
      exact List.all_eq_true.2 fun b hb => h a (List.mem_range.1 ha) b (List.mem_range.1 hb)
  have HRF : Hid (∀ k i, wway M k i i = true) := fun k i => wway_refl M i k
  have HL := Lib.hid hl
  have HN := Lib.hid (And.intro hn.symm hn5)
  have hmk1 := run_make_row' (P := Try.prog) 69 tBs (.slice none 0 0) 24 Try.underlying69 (by kernel_rfl) rfl .i64 .i64 n (by omega) (by omega)
  have hmk2 := run_make_row' (P := Try.prog) 66 4 (.bool false) 1 Try.underlying66 (by kernel_rfl) rfl .i64 .i64 n (by omega) (by omega)
  have HG0 := Lib.hid (grid_start w n)
  have HB0 : Hid (Below w.heap.size w (w.alloc (.cells (madeCells #[.slice none 0 0] n) tBs))) := (Below.refl _ _).alloc (Nat.le_refl _) _
  obtain ⟨o, ho⟩ : ∃ o, o = w.heap.size := ⟨_, rfl⟩
  have HOW := Lib.hid ho
  clear hl hok hMn hn hn5 hM
  go_enter Try.func22, Try.ntmps22
  go_wp2_with fail
  clear hmk1
  rw [← ho] at HG0 ⊢
  clear ho
  --LOOK1
  go_loopw [20] (fun s20 wx => ∃ i : Nat, i ≤ n ∧ s20 = .int .i64 i ∧ Hid (Grid wx o n i (wbeg M i 0)) ∧ Hid (Below w.heap.size w wx)) (fun s20 _ => n - (intOf s20).toNat)
  case atStart => exact ⟨0, Nat.zero_le _, rfl, HG0.out.congr (fun i j hi => absurd hi (Nat.not_lt_zero _)), HB0⟩
  case round =>
    clear HG0 HB0
    obtain ⟨i, hi, rfl, hg, hb⟩ := hrel
    by_cases hil : i < n
    · have i1 : (i : Int) < (n : Int) := by omega
      have ui : Hid (wrap64 ((i : Int) + 1) = ((i + 1 : Nat) : Int)) := cw64 (by have := HN.out; omega)
      have HI := Lib.hid (And.intro hi hil)
      have hil2 : i < l.length := by have := HN.out; omega
      obtain ⟨ad, rfl, _, hcr0, hrr⟩ := HL.out.row hil2
      obtain ⟨⟨A1, z, c1⟩, hx1⟩ : ∃ x : Rw, x = l[i] := ⟨_, rfl⟩
      obtain ⟨hzl, hmt⟩ := hrow.out i hil2
      rw [← hx1] at hcr0 hrr hzl hmt
      have hzl' : z.length = n := hzl
      have HMT : Hid (mat M i = pat z) := hmt
      have hcr' : w.cell? (ad.add i) = some (.slice A1 z.length c1) := hcr0
      rw [hzl'] at hcr'
      have HCR := Lib.hid hcr'
      have HZ : Hid (Seg w w.heap.size A1 (z.map (.int .i64))) := hrr.1
      have HZL := Lib.hid hzl'
      have hsz := hg.out.2.2
      have hfz := (hg.out.1.alloc (.cells (madeCells #[.bool false] n) tBo)).frozen i
      have hce := (hg.out.1.alloc (.cells (madeCells #[.bool false] n) tBo)).cell hil
      rw [if_neg (Nat.lt_irrefl i)] at hce
      have HG1 := Lib.hid (hg.out.more hil)
      have HB1 : Hid (Below w.heap.size w ((wr.alloc (.cells (madeCells #[.bool false] n) tBo)).setCell ⟨o, i, none⟩ (.slice (some ⟨o + 1 + i, 0, none⟩) n n))) := (hb.out.alloc hb.out.size _).setCell (by rw [HOW.out]; exact Nat.le_refl _) _
      obtain ⟨wq, hwq⟩ : ∃ wq, wq = ((wr.alloc (.cells (madeCells #[.bool false] n) tBo)).setCell ⟨o, i, none⟩ (.slice (some ⟨o + 1 + i, 0, none⟩) n n)) := ⟨_, rfl⟩
      have hcq : wq.cell? ⟨o, i, none⟩ = some (.slice (some ⟨o + 1 + i, 0, none⟩) n n) := by rw [hwq]; exact HG1.out.outer hil (by omega)
      rw [← hwq] at HG1 HB1
      have HWQ2 := Lib.hid hwq.symm
      clear hcr0 hrr hzl hmt hx1 hzl' hcr' hi hil hil2 hg hb hwq
      go_upto_region 7 with (fail)
      have hwq2 := HWQ2.out
      rw [hwq2]
      clear hwq2
      go_wp2_with fail
      clear hfz hsz hcq hce
      --LOOK2
      go_loopw [33] (fun s33 wx => ∃ j : Nat, j ≤ n ∧ s33 = .int .i64 j ∧ Hid (Grid wx o n (i + 1) (wbeg M i j)) ∧ Hid (Below w.heap.size w wx)) (fun s33 _ => n - (intOf s33).toNat)
      case atStart => exact ⟨0, Nat.zero_le _, rfl, HG1.out.congr (fun a c ha hc => wbeg_start M i a c ha), HB1⟩
      case round =>
        clear HG1 HB1
        obtain ⟨j, hj, rfl, hg, hb⟩ := hrel
        by_cases hjl : j < n
        · have i3 : (j : Int) < (n : Int) := by omega
          have i4 : (i : Int) < (n : Int) := by have := HI.out; omega
          have uj : Hid (wrap64 ((j : Int) + 1) = ((j + 1 : Nat) : Int)) := cw64 (by have := HN.out; omega)
          have HJ := Lib.hid (And.intro hj hjl)
          obtain ⟨zd, rfl, _, hcz0⟩ := HZ.out.pat (k := j) (by have := HZL.out; omega)
          have hcz := (hb.out.cell (block_lt hcz0)).trans hcz0
          have hcr := (hb.out.cell (block_lt HCR.out)).trans HCR.out
          have hco := hg.out.outer (i := i) HI.out.2 (by omega)
          have hfz := (hg.out.2.1 i (by omega)).frozen j
          have hcj := (hg.out.2.1 i (by omega)).cell (i := j) hjl
          have HST : Hid (wstart M i j = (decide (i = j) || decide (0 < pat z j))) := by unfold Hid wstart; rw [HMT.out]
          have HBW : Hid (∀ b, Below w.heap.size w (wr.drew.setCell ⟨o + 1 + i, j, none⟩ (.bool b))) := fun b => (Below.drew hb.out).setCell (by rw [HOW.out]; show _ ≤ w.heap.size + 1 + i; omega) _
          have HGN : Hid (∀ b, wstart M i j = b → Grid (wr.drew.setCell ⟨o + 1 + i, j, none⟩ (.bool b)) o n (i + 1) (wbeg M i (j + 1))) := fun b e => ((hg.out.drewN 1).set (by omega) j b).congr (fun a c _ _ => by
            rw [wbeg_next, e])
          obtain ⟨x, hx⟩ : ∃ x, x = pat z j := ⟨_, rfl⟩
          rw [← hx] at hcz HST
          clear hx hcz0 hj hjl hg hb
          by_cases hij : i = j
          · subst hij
            have hst : Hid (wstart M i i = true) := by unfold Hid; rw [HST.out]; simp
            go_wp2_with fail
            refine wp_region_plan [(0, 0), (1, 0), (2, 0), (3, 1), (4, 0), (5, 0), (6, 0), (7, 0), (8, 0), (9, 0), (10, 0), (11, 0), (12, 1), (13, 0), (14, 0), (15, 1), (16, 0), (17, 0), (18, 0), (19, 3)] (fun w' => w'.cell? ⟨o, i, none⟩ = some (.slice (some ⟨o + 1 + i, 0, none⟩) n n) ∧ w'.cell? (ad.add i) = some (.slice (some zd) n c1) ∧ w'.cell? (zd.add i) = some (.int .i64 x)) (by kernel_rfl) (by kernel_rfl) (fun _ d _ _ _ h => by cases d <;> exact h) ⟨hco, hcr, hcz⟩ ?_
            iterate 19 (first | ((first | (refine plan0 (v := ?_) rfl rfl (by rfl) ?_ ?_) | (refine plan1 (v := ?_) rfl rfl (by rfl) ?_ ?_)); rotate_left; (first | (intro w'; go_simp; with_reducible rfl) | (intro w' hS; obtain ⟨h1, h2, h3⟩ := hS; go_simp; with_reducible rfl)); simp only [List.setIfInBounds_toArray, List.set_cons_zero, List.set_cons_succ]) | ((first | refine planN0 rfl rfl (by rfl) ?_ | refine planN1 rfl rfl (by rfl) ?_); simp only [List.setIfInBounds_toArray, List.set_cons_zero, List.set_cons_succ]))
            refine plan3 rfl rfl fun K' hK' => ?_
            go_simp
            refine hK' _ _ ?_
            clear hK' K' hco hcr hcz hcj
            refine planEnd ?_
            go_wp2_with fail
            go_roundw
            case rel => exact ⟨i + 1, by have := HJ.out; omega, by first | rfl | rw [uj.out], HGN.out _ hst.out, HBW.out _⟩
            case measure => (try rw [uj.out]); have := HJ.out; simp [intOf]; omega
          · have b1 : ((i : Int) == (j : Int)) = false := by rw [beq_eq_false_iff_ne]; omega
            have b1p : ¬ (i : Int) = (j : Int) := by omega
            have b1q : (decide ((i : Int) = (j : Int))) = false := by rw [decide_eq_false]; omega
            obtain ⟨bb, hbb⟩ : ∃ bb, bb = decide (0 < x) := ⟨_, rfl⟩
            have hbb2 := hbb.symm
            have hst : Hid (wstart M i j = bb) := by unfold Hid; rw [HST.out, decide_eq_false hij, hbb]; rfl
            clear hij hbb
            go_wp2_with fail
            refine wp_region_plan [(0, 0), (1, 0), (2, 0), (3, 1), (4, 0), (5, 0), (6, 0), (7, 0), (8, 0), (9, 0), (10, 0), (11, 0), (12, 1), (13, 0), (14, 0), (15, 1), (16, 0), (17, 0), (18, 0), (19, 3)] (fun w' => w'.cell? ⟨o, i, none⟩ = some (.slice (some ⟨o + 1 + i, 0, none⟩) n n) ∧ w'.cell? (ad.add i) = some (.slice (some zd) n c1) ∧ w'.cell? (zd.add j) = some (.int .i64 x)) (by kernel_rfl) (by kernel_rfl) (fun _ d _ _ _ h => by cases d <;> exact h) ⟨hco, hcr, hcz⟩ ?_
            iterate 19 (first | ((first | (refine plan0 (v := ?_) rfl rfl (by rfl) ?_ ?_) | (refine plan1 (v := ?_) rfl rfl (by rfl) ?_ ?_)); rotate_left; (first | (intro w'; go_simp; with_reducible rfl) | (intro w' hS; obtain ⟨h1, h2, h3⟩ := hS; go_simp; with_reducible rfl)); simp only [List.setIfInBounds_toArray, List.set_cons_zero, List.set_cons_succ]) | ((first | refine planN0 rfl rfl (by rfl) ?_ | refine planN1 rfl rfl (by rfl) ?_); simp only [List.setIfInBounds_toArray, List.set_cons_zero, List.set_cons_succ]))
            refine plan3 rfl rfl fun K' hK' => ?_
            go_simp
            refine hK' _ _ ?_
            clear hK' K' hco hcr hcz hcj
            refine planEnd ?_
            go_wp2_with fail
            go_roundw
            case rel => exact ⟨j + 1, by have := HJ.out; omega, by first | rfl | rw [uj.out], HGN.out _ hst.out, HBW.out _⟩
            case measure => (try rw [uj.out]); have := HJ.out; simp [intOf]; omega
        · obtain rfl : j = n := by omega
          have HG2 : Hid (Grid wr o j (i + 1) (wbeg M (i + 1) 0)) := hg.out.congr (fun a c ha hc => by
            unfold wbeg
            by_cases e : a < i ∨ (a = i ∧ c < j)
            · rw [if_pos e, if_pos (by omega)]
            · rw [if_neg e, if_neg (by omega)])
          clear hj hjl hg
          go_wp2_with fail
          go_roundw
          case rel => exact ⟨i + 1, by have := HI.out; omega, by first | rfl | rw [ui.out], HG2, hb⟩
          case measure => (try rw [ui.out]); have := HI.out; simp [intOf]; omega
    · obtain rfl : i = n := by omega
      have HG3 : Hid (Grid wr o i i (wway M 0)) := hg.out.congr (fun a c ha hc => by unfold wbeg; rw [if_pos (.inl ha)]; rfl)
      clear hmk2 hi hil hg
      go_wp2_with fail
      --LOOK3
      go_loopw [58] (fun s58 wx => ∃ k : Nat, k ≤ i ∧ s58 = .int .i64 k ∧ Hid (Grid wx o i i (wway M k)) ∧ Hid (Below w.heap.size w wx)) (fun s58 _ => i - (intOf s58).toNat)
      case atStart => exact ⟨0, Nat.zero_le _, rfl, HG3, hb⟩
      case round =>
        clear HG3 hb
        obtain ⟨n, hnn⟩ : ∃ n, n = i := ⟨_, rfl⟩
        rw [← hnn] at HN hrow HWH hrel ⊢
        clear hnn
        obtain ⟨k, hk, rfl, hg, hb⟩ := hrel
        by_cases hkl : k < n
        · have i1 : (k : Int) < (n : Int) := by omega
          have uk : Hid (wrap64 ((k : Int) + 1) = ((k + 1 : Nat) : Int)) := cw64 (by have := HN.out; omega)
          have HK := Lib.hid (And.intro hk hkl)
          have HWS : Hid (wway M (k + 1) = wstep (wway M k) k) := rfl
          obtain ⟨F, hF⟩ : ∃ F, F = wway M k := ⟨_, rfl⟩
          have HRR : Hid (F k k = true) := by rw [hF]; exact HRF.out k k
          rw [← hF] at hg HWS
          have HG4 : Hid (Grid wr o n n (wmid F k 0 0)) := hg.out.congr (fun a c ha hc => (wmid_zero F k a c).symm)
          clear hk hkl hF hg
          go_wp2_with fail
          go_loopw [62] (fun s62 wx => ∃ i : Nat, i ≤ n ∧ s62 = .int .i64 i ∧ Hid (Grid wx o n n (wmid F k i 0)) ∧ Hid (Below w.heap.size w wx)) (fun s62 _ => n - (intOf s62).toNat)
          case atStart => exact ⟨0, Nat.zero_le _, rfl, HG4, hb⟩
          case round =>
            clear HG4 hb
            obtain ⟨i, hi, rfl, hg, hb⟩ := hrel
            by_cases hil : i < n
            · have i2 : (i : Int) < (n : Int) := by omega
              have ui : Hid (wrap64 ((i : Int) + 1) = ((i + 1 : Nat) : Int)) := cw64 (by have := HN.out; omega)
              have HI := Lib.hid (And.intro hi hil)
              clear hi hil
              go_wp2_with fail
              go_loopw [66] (fun s66 wx => ∃ j : Nat, j ≤ n ∧ s66 = .int .i64 j ∧ Hid (Grid wx o n n (wmid F k i j)) ∧ Hid (Below w.heap.size w wx)) (fun s66 _ => n - (intOf s66).toNat)
              case atStart => exact ⟨0, Nat.zero_le _, rfl, hg, hb⟩
              case round =>
                clear hg hb
                obtain ⟨j, hj, rfl, hg, hb⟩ := hrel
                by_cases hjl : j < n
                · have i3 : (j : Int) < (n : Int) := by omega
                  have i4 : (i : Int) < (n : Int) := by have := HI.out; omega
                  have i5 : (k : Int) < (n : Int) := by have := HK.out; omega
                  have uj : Hid (wrap64 ((j : Int) + 1) = ((j + 1 : Nat) : Int)) := cw64 (by have := HN.out; omega)
                  have HJ := Lib.hid (And.intro hj hjl)
                  have hco := hg.out.outer (i := i) HI.out.2 HI.out.2
                  have hck := hg.out.outer (i := k) HK.out.2 HK.out.2
                  have hfz := (hg.out.2.1 i HI.out.2).frozen j
                  have hc1 := (hg.out.2.1 i HI.out.2).cell (i := j) hjl
                  have hc2 := (hg.out.2.1 i HI.out.2).cell (i := k) HK.out.2
                  have hc3 := (hg.out.2.1 k HK.out.2).cell (i := j) hjl
                  rw [wmid_at] at hc1
                  rw [wmid_col HRR.out] at hc2
                  rw [wmid_row HRR.out] at hc3
                  have HST : Hid (wstep F k i j = (F i j || (F i k && F k j))) := rfl
                  have HBW : Hid (∀ b, Below w.heap.size w (wr.drew.setCell ⟨o + 1 + i, j, none⟩ (.bool b))) := fun b => (Below.drew hb.out).setCell (by rw [HOW.out]; show _ ≤ w.heap.size + 1 + i; omega) _
                  have HGN : Hid (∀ b, wstep F k i j = b → Grid (wr.drew.setCell ⟨o + 1 + i, j, none⟩ (.bool b)) o n n (wmid F k i (j + 1))) := fun b e => ((hg.out.drewN 1).set HI.out.2 j b).congr (fun a c _ _ => by
                    rw [wmid_next, e])
                  obtain ⟨x, hx⟩ : ∃ x, x = F i j := ⟨_, rfl⟩
                  obtain ⟨y, hy⟩ : ∃ y, y = F i k := ⟨_, rfl⟩
                  obtain ⟨v, hv⟩ : ∃ v, v = F k j := ⟨_, rfl⟩
                  rw [← hx] at hc1 HST
                  rw [← hy] at hc2 HST
                  rw [← hv] at hc3 HST
                  clear hx hy hv hj hjl hg hb
                  cases x <;> cases y
                  all_goals
                    go_wp2_with fail
                    refine wp_region_plan [(0, 0), (1, 0), (2, 0), (3, 1), (4, 0), (5, 0), (6, 0), (7, 0), (8, 1), (9, 0), (10, 0), (11, 1), (12, 0), (13, 0), (14, 0), (15, 0), (16, 1), (17, 0), (18, 0), (19, 1), (20, 0), (21, 0), (22, 0), (23, 0), (24, 1), (25, 0), (26, 0), (27, 1), (28, 0), (29, 0), (30, 0), (31, 3)] (fun w' => w'.cell? ⟨o, i, none⟩ = some (.slice (some ⟨o + 1 + i, 0, none⟩) n n) ∧ w'.cell? ⟨o, k, none⟩ = some (.slice (some ⟨o + 1 + k, 0, none⟩) n n) ∧ w'.cell? ⟨o + 1 + i, j, none⟩ = some (.bool _) ∧ w'.cell? ⟨o + 1 + i, k, none⟩ = some (.bool _) ∧ w'.cell? ⟨o + 1 + k, j, none⟩ = some (.bool _)) (by kernel_rfl) (by kernel_rfl) (fun _ d _ _ _ h => by cases d <;> exact h) ⟨hco, hck, hc1, hc2, hc3⟩ ?_
                    iterate 31 (first | ((first | (refine plan0 (v := ?_) rfl rfl (by rfl) ?_ ?_) | (refine plan1 (v := ?_) rfl rfl (by rfl) ?_ ?_)); rotate_left; (first | (intro w'; go_simp; with_reducible rfl) | (intro w' hS; obtain ⟨h1, h2, h3, h4, h5⟩ := hS; go_simp; with_reducible rfl)); simp only [List.setIfInBounds_toArray, List.set_cons_zero, List.set_cons_succ]) | ((first | refine planN0 rfl rfl (by rfl) ?_ | refine planN1 rfl rfl (by rfl) ?_); simp only [List.setIfInBounds_toArray, List.set_cons_zero, List.set_cons_succ]))
                    refine plan3 rfl rfl fun K' hK' => ?_
                    go_simp
                    refine hK' _ _ ?_
                    clear hK' K' hco hck hc1 hc2 hc3
                    refine planEnd ?_
                    go_wp2_with fail
                    go_roundw
                    case rel => exact ⟨j + 1, by have := HJ.out; omega, by first | rfl | rw [uj.out], HGN.out _ (by rw [HST.out]; rfl), HBW.out _⟩
                    case measure => (try rw [uj.out]); have := HJ.out; simp [intOf]; omega
                · obtain rfl : j = n := by omega
                  have HG5 : Hid (Grid wr o j j (wmid F k (i + 1) 0)) := hg.out.congr (fun a c ha hc => wmid_end F k i j a c hc)
                  clear hj hjl hg
                  go_wp2_with fail
                  go_roundw
                  case rel => exact ⟨i + 1, by have := HI.out; omega, by first | rfl | rw [ui.out], HG5, hb⟩
                  case measure => (try rw [ui.out]); have := HI.out; simp [intOf]; omega
            · obtain rfl : i = n := by omega
              have HG5 : Hid (Grid wr o i i (wway M (k + 1))) := hg.out.congr (fun a c ha hc => by rw [HWS.out]; exact wmid_all F k i a c ha)
              clear hi hil hg
              go_wp2_with fail
              go_roundw
              case rel => exact ⟨k + 1, by have := HK.out; omega, by first | rfl | rw [uk.out], HG5, hb⟩
              case measure => (try rw [uk.out]); have := HK.out; simp [intOf]; omega
        · obtain rfl : k = n := by omega
          clear hk hkl
          go_wp2_with fail
          --LOOK5
          go_loopw [105] (fun s105 wx => ∃ i : Nat, i ≤ k ∧ s105 = .int .i64 i ∧ Hid (∀ a, a < i → ∀ b, b < k → wway M k a b = true) ∧ wx = wr) (fun s105 _ => k - (intOf s105).toNat)
          case atStart => exact ⟨0, Nat.zero_le _, rfl, fun a ha => absurd ha (Nat.not_lt_zero _), by first | rfl | trivial⟩
          case round =>
            obtain ⟨n, hnn⟩ : ∃ n, n = k := ⟨_, rfl⟩
            rw [← hnn] at HN hrow HWH hrel hg ⊢
            clear hnn
            obtain ⟨i, hi, rfl, hal, rfl⟩ := hrel
            by_cases hil : i < n
            · have i2 : (i : Int) < (n : Int) := by omega
              have hco := hg.out.outer (i := i) hil hil
              have ui : Hid (wrap64 ((i : Int) + 1) = ((i + 1 : Nat) : Int)) := cw64 (by have := HN.out; omega)
              have HI := Lib.hid (And.intro hi hil)
              clear hi hil
              go_wp2_with fail
              go_loopw [111] (fun s111 wx => ∃ j : Nat, j ≤ n ∧ s111 = .int .i64 j ∧ Hid (∀ b, b < j → wway M n i b = true) ∧ wx = wr) (fun s111 _ => n - (intOf s111).toNat)
              case atStart => exact ⟨0, Nat.zero_le _, rfl, fun a ha => absurd ha (Nat.not_lt_zero _), by first | rfl | trivial⟩
              case round =>
                obtain ⟨j, hj, rfl, haj, rfl⟩ := hrel
                by_cases hjl : j < n
                · have i3 : (j : Int) < (n : Int) := by omega
                  have hcj := (hg.out.2.1 i HI.out.2).cell (i := j) hjl
                  have uj : Hid (wrap64 ((j : Int) + 1) = ((j + 1 : Nat) : Int)) := cw64 (by have := HN.out; omega)
                  have HJ := Lib.hid (And.intro hj hjl)
                  obtain ⟨b, hbb⟩ : ∃ b, b = wway M n i j := ⟨_, rfl⟩
                  rw [← hbb] at hcj
                  have HBB := Lib.hid hbb
                  clear hj hjl hbb
                  cases b
                  · have hf : Hid (cwhole M = false) := by
                      unfold Hid
                      rw [Bool.eq_false_iff]
                      intro h
                      have := HWH.out.1 h i HI.out.2 j HJ.out.2
                      rw [← HBB.out] at this
                      cases this
                    go_wp2_with fail
                    go_ret
                    exact ⟨by rw [hf.out]; rfl, hb.out⟩
                  · have HG : Hid (∀ b, b < j + 1 → wway M n i b = true) := fun b hb => by
                      by_cases e : b = j
                      · subst e; exact HBB.out.symm
                      · exact haj.out b (by omega)
                    go_wp2_with fail
                    go_roundw
                    case rel => exact ⟨j + 1, by have := HJ.out; omega, by first | rfl | rw [uj.out], HG, by first | rfl | trivial⟩
                    case measure => (try rw [uj.out]); have := HJ.out; simp [intOf]; omega
                · obtain rfl : j = n := by omega
                  have HG : Hid (∀ a, a < i + 1 → ∀ b, b < j → wway M j a b = true) := fun a ha b hb => by
                    by_cases e : a = i
                    · subst e; exact haj.out b hb
                    · exact hal.out a (by omega) b hb
                  clear hj hjl haj
                  go_wp2_with fail
                  go_roundw
                  case rel => exact ⟨i + 1, by have := HI.out; omega, by first | rfl | rw [ui.out], HG, by first | rfl | trivial⟩
                  case measure => (try rw [ui.out]); have := HI.out; simp [intOf]; omega
            · obtain rfl : i = n := by omega
              have hf : Hid (cwhole M = true) := HWH.out.2 hal.out
              go_wp2_with fail
              go_ret
              exact ⟨by rw [hf.out]; rfl, hb.out⟩

set_option linter.unusedVariables false

/-- What Denom answers. -/
def dn (d : Int) : Int := if d = 0 then 1 else d
set_option maxRecDepth 20000 in
set_option maxHeartbeats 2000000 in
theorem denomO_any (g : Nat) (d0 d : Int) (w : World) (hx : IntZ w g 2 d0) (e : dn d0 = d) :
    Calls Try.prog 78 #[.pointer (some ⟨g, 0, none⟩)] w fun e w' => e = .returned (.pointer (some ⟨w.heap.size, 0, none⟩)) ∧ NewZ w w' w.heap.size d := by
  by_cases h0 : d0 = 0
  · subst h0
    obtain rfl : 1 = d := e
    have HX := Lib.hid hx
    have HN := Lib.hid (newInt_any 1 w (by decide) (by decide))
    have hs : Hid (sgn 0 = 0) := rfl
    clear hx
    go_enter Try.func78, Try.ntmps78
    go_wp2_with fail
    refine (sign_any g 2 0 w HX.out).mono ?_
    rintro e w' ⟨rfl, rfl⟩
    rw [hs.out]
    go_wp2_with fail
    refine HN.out.mono ?_
    rintro e w1 ⟨rfl, hp⟩
    have P1 := Lib.hid hp
    clear hp
    go_wp2_with fail
    go_ret
    exact ⟨rfl, P1.out⟩
  · obtain rfl : d0 = d := by rw [← e]; exact (if_neg h0).symm
    exact denom_any g d0 w hx h0
set_option maxRecDepth 20000 in
set_option maxHeartbeats 4000000 in
theorem ratAddO_any (g gx gy : Nat) (n d0 d m e : Int) (L : Nat) (w : World) (hg : RatBlk w g) (hn : IntZ w gx 0 n) (hd : IntZ w gx 2 d0) (hd0 : dn d0 = d) (hm : IntZ w gy 0 m) (he : IntZ w gy 2 e) (h0 : d ≠ 0) (h1 : e ≠ 0) (fn : Fits n L) (fd : Fits d L) (fm : Fits m L) (fe : Fits e L) (l1 : 1 ≤ L) (hL : L + L + 1 < 8796093022207) :
    Calls Try.prog 49 #[.pointer (some ⟨g, 0, none⟩), .pointer (some ⟨gx, 0, none⟩), .pointer (some ⟨gy, 0, none⟩)] w fun r w' => r = .returned (.pointer (some ⟨g, 0, none⟩)) ∧ PutR w w' g (frN (n * e + m * d) (d * e)) (frD (n * e + m * d) (d * e)) := by
  have HG := Lib.hid hg
  have HN := Lib.hid hn
  have HD := Lib.hid hd
  have HD0 := Lib.hid hd0
  have HM := Lib.hid hm
  have HE := Lib.hid he
  have H0 := Lib.hid (And.intro h0 h1)
  have HDE : Hid (d * e ≠ 0) := Int.mul_ne_zero h0 h1
  have F1 := Lib.hid (And.intro fn (And.intro fd (And.intro fm fe)))
  have F2 := Lib.hid (And.intro (fits_mul fn fe) (And.intro (fits_mul fm fd) ((fits_mul fd fe).mono (Nat.le_succ (L + L)))))
  have F3 := Lib.hid (fits_add (fits_mul fn fe) (fits_mul fm fd))
  have HL := Lib.hid (And.intro l1 hL)
  clear hg hn hd hd0 hm he h0 h1 fn fd fm fe l1 hL
  go_enter Try.func49, Try.ntmps49
  go_wp2_with fail
  have B0 : Hid (Below w.heap.size w (w.alloc (.cells #[.bool false, .slice none 0 0] tI))) := (Below.refl _ _).alloc (Nat.le_refl _) _
  have I0 := Lib.hid (newBlk w (.bool false) (.slice none 0 0))
  generalize hw0 : w.alloc (.cells #[.bool false, .slice none 0 0] tI) = w0 at *
  clear hw0
  refine (num_any gx n w0 (HN.out.below B0.out)).mono ?_
  rintro r w1 ⟨rfl, hp⟩
  have P1 := Lib.hid hp
  have B1 : Hid (Below w.heap.size w w1) := B0.out.trans (hp.2.2.1.mono B0.out.size)
  clear hp
  go_wp2_with fail
  refine (denom_any gy e w1 (HE.out.below B1.out) H0.out.2).mono ?_
  rintro r w2 ⟨rfl, hp⟩
  have P2 := Lib.hid hp
  have B2 : Hid (Below w.heap.size w w2) := B1.out.trans (hp.2.2.1.mono B1.out.size)
  have I2 : Hid (IntBlk w2 w.heap.size) := (I0.out.below P1.out.2.2.1).below hp.2.2.1
  clear hp
  go_wp2_with fail
  refine (mul_any w.heap.size w0.heap.size 0 w1.heap.size 0 n e L w2 I2.out (P1.out.1.below P2.out.2.2.1) P2.out.1 F1.out.1 F1.out.2.2.2 (by have := HL.out; omega)).mono ?_
  rintro r w3 ⟨rfl, hp⟩
  have P3 := Lib.hid hp
  have B3 : Hid (Below w.heap.size w w3) := Below.grown B2.out hp.2.2 B2.out.size (fun q hq => by injection hq with hq; omega)
  have HLT : Hid (w.heap.size < w3.heap.size) := hp.2.1.lt
  clear hp
  go_wp2_with fail
  have B30 : Hid (Below w3.heap.size w3 (w3.alloc (.cells #[.bool false, .slice none 0 0] tI))) := (Below.refl _ _).alloc (Nat.le_refl _) _
  have I30 := Lib.hid (newBlk w3 (.bool false) (.slice none 0 0))
  generalize hw0 : w3.alloc (.cells #[.bool false, .slice none 0 0] tI) = v0 at *
  clear hw0
  refine (num_any gy m v0 ((HM.out.below B3.out).below B30.out)).mono ?_
  rintro r w4 ⟨rfl, hp⟩
  have P4 := Lib.hid hp
  have B4 : Hid (Below w3.heap.size w3 w4) := B30.out.trans (hp.2.2.1.mono B30.out.size)
  clear hp
  go_wp2_with fail
  refine (denomO_any gx d0 d w4 ((HD.out.below B3.out).below B4.out) HD0.out).mono ?_
  rintro r w5 ⟨rfl, hp⟩
  have P5 := Lib.hid hp
  have B5 : Hid (Below w3.heap.size w3 w5) := B4.out.trans (hp.2.2.1.mono B4.out.size)
  have I5 : Hid (IntBlk w5 w3.heap.size) := (I30.out.below P4.out.2.2.1).below hp.2.2.1
  clear hp
  go_wp2_with fail
  refine (mul_any w3.heap.size v0.heap.size 0 w4.heap.size 0 m d L w5 I5.out (P4.out.1.below P5.out.2.2.1) P5.out.1 F1.out.2.2.1 F1.out.2.1 (by have := HL.out; omega)).mono ?_
  rintro r w6 ⟨rfl, hp⟩
  have P6 := Lib.hid hp
  have B6 : Hid (Below w3.heap.size w3 w6) := Below.grown B5.out hp.2.2 B5.out.size (fun q hq => by injection hq with hq; omega)
  clear hp
  go_wp2_with fail
  refine (add_any w.heap.size w.heap.size 0 w3.heap.size 0 (n * e) (m * d) (L + L) w6 (P3.out.2.1.below B6.out) (P3.out.1.below B6.out) P6.out.1 F2.out.1 F2.out.2.1 (by have := HL.out; omega)).mono ?_
  rintro r w7 ⟨rfl, hp⟩
  have P7 := Lib.hid hp
  have B7 : Hid (Below w.heap.size w w7) := Below.grown (B3.out.trans (B6.out.mono B3.out.size)) hp.2.2 (Nat.le_trans B3.out.size B6.out.size) (fun q hq => by injection hq with hq; omega)
  have HLT7 : Hid (w.heap.size < w7.heap.size) := hp.2.1.lt
  clear hp
  go_wp2_with fail
  have B70 : Hid (Below w7.heap.size w7 (w7.alloc (.cells #[.bool false, .slice none 0 0] tI))) := (Below.refl _ _).alloc (Nat.le_refl _) _
  have I70 := Lib.hid (newBlk w7 (.bool false) (.slice none 0 0))
  generalize hw0 : w7.alloc (.cells #[.bool false, .slice none 0 0] tI) = u0 at *
  clear hw0
  refine (denomO_any gx d0 d u0 ((HD.out.below B7.out).below B70.out) HD0.out).mono ?_
  rintro r w8 ⟨rfl, hp⟩
  have P8 := Lib.hid hp
  have B8 : Hid (Below w7.heap.size w7 w8) := B70.out.trans (hp.2.2.1.mono B70.out.size)
  clear hp
  go_wp2_with fail
  refine (denom_any gy e w8 ((HE.out.below B7.out).below B8.out) H0.out.2).mono ?_
  rintro r w9 ⟨rfl, hp⟩
  have P9 := Lib.hid hp
  have B9 : Hid (Below w7.heap.size w7 w9) := B8.out.trans (hp.2.2.1.mono B8.out.size)
  have I9 : Hid (IntBlk w9 w7.heap.size) := (I70.out.below P8.out.2.2.1).below hp.2.2.1
  clear hp
  go_wp2_with fail
  refine (mul_any w7.heap.size u0.heap.size 0 w8.heap.size 0 d e L w9 I9.out (P8.out.1.below P9.out.2.2.1) P9.out.1 F1.out.2.1 F1.out.2.2.2 (by have := HL.out; omega)).mono ?_
  rintro r wa ⟨rfl, hp⟩
  have Pa := Lib.hid hp
  have Ba : Hid (Below w7.heap.size w7 wa) := Below.grown B9.out hp.2.2 B9.out.size (fun q hq => by injection hq with hq; omega)
  have Baw : Hid (Below w.heap.size w wa) := B7.out.trans (Ba.out.mono B7.out.size)
  clear hp
  go_wp2_with fail
  refine (setFrac_any g w.heap.size 0 w7.heap.size 0 (n * e + m * d) (d * e) (L + L + 1) wa (HG.out.below Baw.out) (P7.out.1.below Ba.out) Pa.out.1 HDE.out F3.out F2.out.2.2 (by omega) HL.out.2).mono ?_
  rintro r wb ⟨rfl, hp⟩
  have Pb := Lib.hid hp
  clear hp
  go_wp2_with fail
  go_ret
  exact ⟨rfl, Pb.out.1, Pb.out.2.1, Pb.out.2.2.1, (grown_of_below Baw.out _).trans Pb.out.2.2.2⟩
theorem raddO_any {g gx gy : Nat} {n d0 d : Int} {y : Fr} {L : Nat} {w : World} (hg : RatBlk w g) (hn : IntZ w gx 0 n) (hd : IntZ w gx 2 d0) (hd0 : dn d0 = d) (hy : RatZ w gy y) (fx : FrOk (n, d) L) (fy : FrOk y L) (l1 : 1 ≤ L) (hL : L + L + 1 < 8796093022207) :
    Calls Try.prog 49 #[ptrV g, ptrV gx, ptrV gy] w fun r w' => r = .returned (ptrV g) ∧ RatZ w' g (fAdd (n, d) y) ∧ w.grownBy w' (some g) :=
  (ratAddO_any g gx gy n d0 d y.1 y.2 L w hg hn hd hd0 hy.1 hy.2.1 fx.ne fy.ne fx.n fx.d fy.n fy.d l1 hL).mono fun r w' h => ⟨h.1, RatZ.of (x := fAdd (n, d) y) h.2, h.2.2.2.2⟩
theorem rsign_any (g : Nat) (x : Int) (w : World) (hx : IntZ w g 0 x) :
    Calls Try.prog 82 #[ptrV g] w fun e w' => e = .returned (.int .i64 (sgn x)) ∧ w' = w := by
  have HX := Lib.hid hx
  clear hx
  go_enter Try.func82, Try.ntmps82
  go_wp2_with fail
  refine (sign_any g 0 x w HX.out).mono ?_
  rintro e w' ⟨rfl, rfl⟩
  go_wp2_with fail
  go_ret
  exact ⟨rfl, rfl⟩
set_option maxRecDepth 20000 in
set_option maxHeartbeats 2000000 in
theorem rcmp_any {gx gy : Nat} {x y : Fr} {L : Nat} {w : World} (hx : RatZ w gx x) (hy : RatZ w gy y) (fx : FrOk x L) (fy : FrOk y L) (l1 : 1 ≤ L) (hL : L + L + 1 < 8796093022207) :
    Calls Try.prog 52 #[ptrV gx, ptrV gy] w fun e w' => e = .returned (.int .i64 (sgn (fSub x y).1)) ∧ Below w.heap.size w w' := by
  have HX := Lib.hid hx
  have HY := Lib.hid hy
  have HF := Lib.hid (And.intro fx (And.intro fy (And.intro l1 hL)))
  clear hx hy fx fy l1 hL
  go_enter Try.func52, Try.ntmps52
  go_wp2_with fail
  have B0 : Hid (Below w.heap.size w (w.alloc (.cells #[.bool false, .slice none 0 0, .bool false, .slice none 0 0] tR))) := (Below.refl _ _).alloc (Nat.le_refl _) _
  have I0 := Lib.hid (newRatBlk w (.bool false) (.slice none 0 0) (.bool false) (.slice none 0 0))
  generalize hw0 : w.alloc (.cells #[.bool false, .slice none 0 0, .bool false, .slice none 0 0] tR) = w0 at *
  clear hw0
  refine (rsub_any (g := w.heap.size) I0.out (HX.out.below B0.out) (HY.out.below B0.out) HF.out.1 HF.out.2.1 HF.out.2.2.1 HF.out.2.2.2).mono ?_
  rintro r w1 ⟨rfl, hp, hg⟩
  have P1 := Lib.hid hp
  have B1 : Hid (Below w.heap.size w w1) := Below.grown B0.out hg B0.out.size (fun q hq => by injection hq with hq; omega)
  clear hp hg
  go_wp2_with fail
  refine (rsign_any w.heap.size _ w1 P1.out.1).mono ?_
  rintro e w' ⟨rfl, rfl⟩
  go_wp2_with fail
  go_ret
  exact ⟨rfl, B1.out⟩

/-! ### what they are worth -/
/-- x is worth p through q. -/
def Val (x : Fr) (p q : Int) : Prop := x.1 * q = p * x.2
theorem fr_cross {a b : Int} (h : b ≠ 0) : frN a b * b = a * frD a b := by
  obtain ⟨u, hu⟩ := Int.ofNat_dvd_left.2 (Nat.gcd_dvd_left a.natAbs b.natAbs)
  obtain ⟨v, hv⟩ := Int.ofNat_dvd_left.2 (Nat.gcd_dvd_right a.natAbs b.natAbs)
  have hg : ((Nat.gcd a.natAbs b.natAbs : Nat) : Int) ≠ 0 := by
    have := Nat.gcd_pos_of_pos_right a.natAbs (show 0 < b.natAbs by omega)
    omega
  unfold frN frD
  obtain ⟨G, hG⟩ : ∃ G : Int, G = ((Nat.gcd a.natAbs b.natAbs : Nat) : Int) := ⟨_, rfl⟩
  rw [← hG] at hu hv hg ⊢
  have h1 : a.tdiv G = u := by rw [hu]; exact Int.mul_tdiv_cancel_left _ hg
  have h2 : b.tdiv G = v := by rw [hv]; exact Int.mul_tdiv_cancel_left _ hg
  have h3 : u * b = a * v := by rw [hu, hv]; ac_rfl
  rw [h1, h2]
  split
  · rw [Int.neg_mul, h3, Int.mul_neg]
  · exact h3
theorem val_new {a b : Int} (h : b ≠ 0) : Val (fNew a b) a b := fr_cross h
theorem val_cancel {x p q r s : Int} (hr : r ≠ 0) (h : x * q * r = p * s * r) : x * q = p * s := Int.eq_of_mul_eq_mul_right hr h
theorem val_mul {x y : Fr} {p q r s : Int} (hx : Val x p q) (hy : Val y r s) (h1 : x.2 ≠ 0) (h2 : y.2 ≠ 0) : Val (fMul x y) (p * r) (q * s) := by
  have h3 : x.2 * y.2 ≠ 0 := Int.mul_ne_zero h1 h2
  have h4 := fr_cross (a := x.1 * y.1) h3
  unfold Val at hx hy ⊢
  refine val_cancel h3 ?_
  show frN (x.1 * y.1) (x.2 * y.2) * (q * s) * (x.2 * y.2) = p * r * frD (x.1 * y.1) (x.2 * y.2) * (x.2 * y.2)
  generalize frN (x.1 * y.1) (x.2 * y.2) = N at h4 ⊢
  generalize frD (x.1 * y.1) (x.2 * y.2) = D at h4 ⊢
  calc N * (q * s) * (x.2 * y.2) = N * (x.2 * y.2) * (q * s) := by ac_rfl
    _ = x.1 * y.1 * D * (q * s) := by rw [h4]
    _ = x.1 * q * (y.1 * s) * D := by ac_rfl
    _ = p * x.2 * (r * y.2) * D := by rw [hx, hy]
    _ = p * r * D * (x.2 * y.2) := by ac_rfl
theorem val_add {x y : Fr} {p r q : Int} (hx : Val x p q) (hy : Val y r q) (h1 : x.2 ≠ 0) (h2 : y.2 ≠ 0) : Val (fAdd x y) (p + r) q := by
  have h3 : x.2 * y.2 ≠ 0 := Int.mul_ne_zero h1 h2
  have h4 := fr_cross (a := x.1 * y.2 + y.1 * x.2) h3
  unfold Val at hx hy ⊢
  refine val_cancel h3 ?_
  show frN (x.1 * y.2 + y.1 * x.2) (x.2 * y.2) * q * (x.2 * y.2) = (p + r) * frD (x.1 * y.2 + y.1 * x.2) (x.2 * y.2) * (x.2 * y.2)
  generalize frN (x.1 * y.2 + y.1 * x.2) (x.2 * y.2) = N at h4 ⊢
  generalize frD (x.1 * y.2 + y.1 * x.2) (x.2 * y.2) = D at h4 ⊢
  calc N * q * (x.2 * y.2) = N * (x.2 * y.2) * q := by ac_rfl
    _ = (x.1 * y.2 + y.1 * x.2) * D * q := by rw [h4]
    _ = (x.1 * q * y.2 + y.1 * q * x.2) * D := by rw [Int.mul_assoc, Int.mul_comm D q, ← Int.mul_assoc, Int.add_mul]; congr 2 <;> ac_rfl
    _ = (p * x.2 * y.2 + r * y.2 * x.2) * D := by rw [hx, hy]
    _ = (p + r) * D * (x.2 * y.2) := by rw [Int.mul_assoc p, Int.mul_assoc r, Int.mul_comm y.2 x.2, ← Int.add_mul]; ac_rfl
/-- The same worth, told otherwise. -/
theorem val_turn {x : Fr} {p q p' q' : Int} (h : Val x p q) (hq : q ≠ 0) (e : p * q' = p' * q) : Val x p' q' := by
  unfold Val at h ⊢
  refine val_cancel hq ?_
  calc x.1 * q' * q = x.1 * q * q' := by ac_rfl
    _ = p * x.2 * q' := by rw [h]
    _ = p * q' * x.2 := by ac_rfl
    _ = p' * q * x.2 := by rw [e]
    _ = p' * x.2 * q := by ac_rfl
theorem frN_one (a : Int) : frN a 1 = a := by
  unfold frN
  have : Nat.gcd a.natAbs (1 : Int).natAbs = 1 := Nat.gcd_one_right _
  rw [this]
  simp
theorem frD_one (a : Int) : frD a 1 = 1 := by
  unfold frD
  have : Nat.gcd a.natAbs (1 : Int).natAbs = 1 := Nat.gcd_one_right _
  rw [this]
  simp
theorem frN_zero (b : Int) : frN 0 b = 0 := by unfold frN; split <;> simp
/-- A fraction that is worth a whole number compares to it as it must. -/
theorem sub_whole {x : Fr} {a : Int} (h : x.1 = a * x.2) : sgn (fSub x (fNew a 1)).1 = 0 := by
  have e : (fSub x (fNew a 1)).1 = 0 := by
    show frN (x.1 * frD (-(frN a 1)) (frD a 1) + frN (-(frN a 1)) (frD a 1) * x.2) _ = 0
    rw [frN_one, frD_one, frN_one, frD_one, Int.mul_one, h, Int.neg_mul, Int.add_right_neg, frN_zero]
  rw [e]; rfl

set_option linter.unusedVariables false

theorem cnewZ (w : World) : IntZ (w.alloc (.cells #[.bool false, .slice none 0 0] tI)) w.heap.size 0 0 :=
  IntZ.shut (b := false) (ds := []) (A := none) (c := 0) (Blk.new w tI _) (Nat.le_refl _) (Nat.zero_le _) (by first | exact TSeg.nil | exact fun h => absurd h (by simp)) ⟨fun i hi => absurd hi (by simp), fun h => absurd h (by simp), by simp, rfl⟩
theorem cnewR (w : World) : IntZ (w.alloc (.cells #[.bool false, .slice none 0 0, .bool false, .slice none 0 0] tR)) w.heap.size 0 0 ∧ IntZ (w.alloc (.cells #[.bool false, .slice none 0 0, .bool false, .slice none 0 0] tR)) w.heap.size 2 0 :=
  ⟨⟨false, [], ⟨tR, _, none, 0, Blk.new w tR _, tR_ne, rfl, rfl, Nat.le_refl _, Nat.zero_le _, by first | exact TSeg.nil | exact fun h => absurd h (by simp)⟩, ⟨fun i hi => absurd hi (by simp), fun h => absurd h (by simp), by simp, rfl⟩⟩,
   ⟨false, [], ⟨tR, _, none, 0, Blk.new w tR _, tR_ne, rfl, rfl, Nat.le_refl _, Nat.zero_le _, by first | exact TSeg.nil | exact fun h => absurd h (by simp)⟩, ⟨fun i hi => absurd hi (by simp), fun h => absurd h (by simp), by simp, rfl⟩⟩⟩
theorem cfits {x : Int} (h0 : 0 ≤ x) (h : x ≤ 9223372036854775807) : Fits x 2 := by
  unfold Fits; have e : bp 2 = 18446744073709551616 := rfl; omega
/-- A fraction whose second number may be missing. -/
def RatO (w : World) (g : Nat) (x : Fr) : Prop := IntZ w g 0 x.1 ∧ (∃ d0, IntZ w g 2 d0 ∧ dn d0 = x.2) ∧ RatBlk w g
section
variable {w w' : World} {g : Nat} {x : Fr}
theorem RatO.below (h : RatO w g x) (hb : Below w.heap.size w w') : RatO w' g x := by
  obtain ⟨h1, ⟨d0, h2, h3⟩, h4⟩ := h
  exact ⟨h1.below hb, ⟨d0, h2.below hb, h3⟩, h4.below hb⟩
theorem RatO.of (h : RatZ w g x) (hp : 0 < x.2) : RatO w g x := ⟨h.1, ⟨x.2, h.2.1, if_neg (by omega)⟩, h.2.2⟩
theorem RatO.toZ (h : RatO w g x) {y : Fr} (hd : ∀ d0, IntZ w g 2 d0 → dn d0 = x.2 → d0 = x.2) : RatZ w g x := by
  obtain ⟨h1, ⟨d0, h2, h3⟩, h4⟩ := h
  have := hd d0 h2 h3
  subst this
  exact ⟨h1, h2, h4⟩
end
/-- What comes to j from the first i, by fractions. -/
def cterm (M : List (List Int)) (r : List Int) (j i : Nat) : Fr := fMul (fNew (pat r i) 1) (fNew (mat M i j) (csum (M.getD i [])))
def cgot (M : List (List Int)) (r : List Int) (j : Nat) : Nat → Fr
  | 0 => (0, 1)
  | i + 1 => fAdd (cgot M r j i) (cterm M r j i)
def clen : Nat → Nat
  | 0 => 4
  | i + 1 => clen i + clen i + 1
theorem clen_ge : ∀ i, 4 ≤ clen i
  | 0 => Nat.le_refl _
  | i + 1 => by have := clen_ge i; rw [clen]; omega
theorem clen_le : ∀ i, i ≤ 5 → clen i ≤ 159 := by decide
/-- Numbers that are those that stay. -/
structure CSt (M : List (List Int)) (r : List Int) (g : Int) : Prop where
  ok : COk M
  len : r.length = M.length
  g1 : 1 ≤ g
  pos : ∀ i, i < M.length → 1 ≤ pat r i ∧ pat r i ≤ 4428675000
  val : ∀ i, i < M.length → g * pat r i = cval M i
  one : gcdL r = 1
theorem cmat_ok {M : List (List Int)} (h : COk M) {i : Nat} (hi : i < M.length) (j : Nat) : 0 ≤ mat M i j ∧ mat M i j ≤ 9 := by
  have e : M.getD i [] = M[i] := by simp [List.getD, hi]
  unfold mat; rw [e]
  exact pat_nine (h.num i hi) j
theorem csum_ok {M : List (List Int)} (h : COk M) {i : Nat} (hi : i < M.length) : 1 ≤ csum (M.getD i []) ∧ csum (M.getD i []) ≤ 45 := by
  have e : M.getD i [] = M[i] := by simp [List.getD, hi]
  rw [e]; exact h.sum i hi
section
variable {M : List (List Int)} {r : List Int} {g : Int}
theorem cterm_ok (h : CSt M r g) {i : Nat} (hi : i < M.length) (j : Nat) : FrOk (fNew (pat r i) 1) 2 ∧ FrOk (fNew (mat M i j) (csum (M.getD i []))) 2 ∧ FrOk (cterm M r j i) 4 ∧ Val (cterm M r j i) (tre M M.length i * mat M i j) g := by
  have h1 := h.pos i hi
  have h2 := cmat_ok h.ok hi j
  have h3 := csum_ok h.ok hi
  have f1 : FrOk (fNew (pat r i) 1) 2 := FrOk.new (cfits (by omega) (by omega)) (cfits (by decide) (by decide)) (by decide)
  have f2 : FrOk (fNew (mat M i j) (csum (M.getD i []))) 2 := FrOk.new (cfits (by omega) (by omega)) (cfits (by omega) (by omega)) (by omega)
  refine ⟨f1, f2, f1.mul f2, ?_⟩
  have v := val_mul (val_new (a := pat r i) (b := 1) (by decide)) (val_new (a := mat M i j) (b := csum (M.getD i [])) (by omega)) f1.ne f2.ne
  refine val_turn v (by rw [Int.one_mul]; omega) ?_
  have e : g * pat r i = tre M M.length i * csum (M.getD i []) := h.val i hi
  calc pat r i * mat M i j * g = g * pat r i * mat M i j := by ac_rfl
    _ = tre M M.length i * csum (M.getD i []) * mat M i j := by rw [e]
    _ = tre M M.length i * mat M i j * (1 * csum (M.getD i [])) := by rw [Int.one_mul]; ac_rfl
theorem cgot_ok (h : CSt M r g) (j : Nat) : ∀ i, i ≤ M.length → FrOk (cgot M r j i) (clen i) ∧ Val (cgot M r j i) (tsum M M.length j i) g
  | 0, _ => ⟨⟨show Fits 0 4 by unfold Fits; decide, show Fits 1 4 by unfold Fits; decide, show (0 : Int) < 1 by decide⟩, by show (0 : Int) * g = 0 * 1; simp⟩
  | i + 1, hi => by
    obtain ⟨h1, h2⟩ := cgot_ok h j i (by omega)
    obtain ⟨_, _, h3, h4⟩ := cterm_ok h (i := i) (by omega) j
    have h5 := h3.mono (clen_ge i)
    exact ⟨h1.add h5, val_add h2 h4 h1.ne h5.ne⟩
theorem cgot_end (h : CSt M r g) {j : Nat} (hj : j < M.length) : sgn (fSub (cgot M r j M.length) (fNew (pat r j) 1)).1 = 0 := by
  refine sub_whole ?_
  have h1 := (cgot_ok h j M.length (Nat.le_refl _)).2
  rw [tre_stays h.ok.sqr h.ok.le hj] at h1
  have e : g * pat r j = tre M M.length j * csum (M.getD j []) := h.val j hj
  rw [← e] at h1
  unfold Val at h1
  have hg := h.g1
  refine Int.eq_of_mul_eq_mul_right (a := g) (by omega) ?_
  rw [h1]
  ac_rfl
end

set_option linter.unusedVariables false

set_option maxRecDepth 20000 in
set_option maxHeartbeats 16000000 in
theorem sstays_ok (C A : Option Addr) (l : List Rw) (r : List Int) (g : Int) (d c : Nat) (w : World) (hl : RowsOk w w.heap.size C l) (hr : Seg w w.heap.size A (r.map (.int .i64))) (h : CSt (nums l) r g) :
    Calls Try.prog 23 #[.slice C l.length d, .slice A r.length c] w fun e w' => e = .returned (.bool true) ∧ Below w.heap.size w w' := by
  obtain ⟨M, hM⟩ : ∃ M, M = nums l := ⟨_, rfl⟩
  obtain ⟨n, hn⟩ : ∃ n, n = l.length := ⟨_, rfl⟩
  have hMn : M.length = n := by rw [hM, hn]; exact COk.nums_len
  rw [← hM] at h
  have hrow : Hid (∀ k (h : k < l.length), l[k].2.1.length = n ∧ M.getD k [] = l[k].2.1 ∧ (∀ y ∈ l[k].2.1, 0 ≤ y ∧ y ≤ 9)) := fun k hk => by
    have hk' : k < (nums l).length := by rw [COk.nums_len]; exact hk
    have h3 : (nums l)[k]'hk' = l[k].2.1 := by simp [nums]
    have h0 := h.ok
    rw [hM] at h0
    have h1 := h0.row k hk'
    have h2 := h0.num k hk'
    rw [h3] at h2
    exact ⟨by rw [← h3]; exact h1.trans (COk.nums_len.trans hn.symm), by rw [hM, nums_get hk], h2⟩
  have HCS := Lib.hid h
  have hrn : r.length = n := h.len.trans hMn
  have hn5 := h.ok.le
  rw [hMn] at hn5
  have HPOS : Hid (∀ i, i < n → 1 ≤ pat r i ∧ pat r i ≤ 4428675000) := by unfold Hid; rw [← hMn]; exact h.pos
  have HT : Hid (∀ j i, i < n → FrOk (fNew (pat r i) 1) 2 ∧ FrOk (fNew (mat M i j) (csum (M.getD i []))) 2 ∧ FrOk (cterm M r j i) 4) := fun j i hi => by
    obtain ⟨a1, a2, a3, _⟩ := cterm_ok h (i := i) (by omega) j
    exact ⟨a1, a2, a3⟩
  have HGO : Hid (∀ j i, i ≤ n → FrOk (cgot M r j i) (clen i)) := fun j i hi => (cgot_ok h j i (by omega)).1
  have HEND : Hid (∀ j, j < n → sgn (fSub (cgot M r j n) (fNew (pat r j) 1)).1 = 0) := fun j hj => by
    have := cgot_end h (j := j) (by omega)
    rw [hMn] at this; exact this
  have HSB : Hid (∀ i, i < n → 1 ≤ csum (M.getD i []) ∧ csum (M.getD i []) ≤ 45) := fun i hi => csum_ok h.ok (by omega)
  have HONE : Hid (gcdF 0 (r.take n) = 1) := by unfold Hid; rw [List.take_of_length_le (by omega)]; exact h.one
  have HL := Lib.hid hl
  have HRS := Lib.hid hr
  have HN := Lib.hid (And.intro hn.symm (And.intro hrn hn5))
  have HGB : Hid (∀ k, gcdF 0 (r.take k) ≤ 4428675000) := fun k => gcdF_bound fun x hx => by
    obtain ⟨q, hq, rfl⟩ := List.mem_iff_getElem.1 (List.mem_of_mem_take hx)
    have := h.pos q (by omega)
    rw [pat_get hq] at this
    omega
  have b0 : ((n : Int) != (n : Int)) = false := by simp
  have HIG := Lib.hid (newBlk w (.bool false) (.slice none 0 0))
  have HIZ := Lib.hid (cnewZ w)
  have HB0 : Hid (Below w.heap.size w (w.alloc (.cells #[.bool false, .slice none 0 0] tI))) := (Below.refl _ _).alloc (Nat.le_refl _) _
  rw [← hn, hrn]
  clear hl hr h hMn hn hn5 hM hrn
  go_enter Try.func23, Try.ntmps23
  go_wp2_with fail
  clear b0
  --LOOK1
  go_loopw [21] (fun s21 wx => ∃ j : Nat, j ≤ n ∧ s21 = .int .i64 j ∧ Hid (IntZ wx w.heap.size 0 ((gcdF 0 (r.take j) : Nat) : Int) ∧ IntBlk wx w.heap.size) ∧ Hid (Below w.heap.size w wx)) (fun s21 _ => n - (intOf s21).toNat)
  case atStart => exact ⟨0, Nat.zero_le _, rfl, ⟨HIZ.out, HIG.out⟩, HB0.out⟩
  case round =>
    clear HIG HIZ HB0
    obtain ⟨j, hj, rfl, hgz, hb⟩ := hrel
    by_cases hjl : j < n
    · have i1 : (j : Int) < (n : Int) := by omega
      have uj : Hid (wrap64 ((j : Int) + 1) = ((j + 1 : Nat) : Int)) := cw64 (by have := HN.out; omega)
      have HJ := Lib.hid (And.intro hj hjl)
      obtain ⟨rd, rfl, _, hcj0⟩ := HRS.out.pat (k := j) (by have := HN.out; omega)
      have hcj := (hb.out.cell (block_lt hcj0)).trans hcj0
      have hp1 := HPOS.out j hjl
      have i2 : ¬ pat r j < 1 := by omega
      have HCJ := Lib.hid hcj0
      obtain ⟨q, hq⟩ : ∃ q, q = pat r j := ⟨_, rfl⟩
      rw [← hq] at hcj i2 hp1
      have HQ := Lib.hid hq
      have HQB := Lib.hid hp1
      obtain ⟨wo, hwo⟩ : ∃ wo : World, wo = wr := ⟨_, rfl⟩
      rw [← hwo] at hgz hb hcj ⊢
      have HR0 : Hid (RatO (wo.alloc (.cells #[.bool false, .slice none 0 0, .bool false, .slice none 0 0] tR)) wo.heap.size (cgot M r j 0)) := ⟨(cnewR wo).1, ⟨0, (cnewR wo).2, rfl⟩, newRatBlk _ _ _ _ _⟩
      have HB0 : Hid (Below wo.heap.size wo (wo.alloc (.cells #[.bool false, .slice none 0 0, .bool false, .slice none 0 0] tR))) := (Below.refl _ _).alloc (Nat.le_refl _) _
      clear hwo hj hjl hcj0 hq hp1
      go_wp2_with fail
      clear i1 i2 hcj
      --LOOK2
      go_loopw [32] (fun s32 wx => ∃ i : Nat, i ≤ n ∧ s32 = .int .i64 i ∧ Hid (RatO wx wo.heap.size (cgot M r j i)) ∧ Hid (0 < i → RatZ wx wo.heap.size (cgot M r j i)) ∧ Hid (Below wo.heap.size wo wx)) (fun s32 _ => n - (intOf s32).toNat)
      case atStart => exact ⟨0, Nat.zero_le _, rfl, HR0.out, fun h => absurd h (Nat.lt_irrefl _), HB0.out⟩
      case round =>
        clear HR0 HB0
        obtain ⟨i, hi, rfl, hro, hrz, hbi⟩ := hrel
        have HBW : Hid (Below w.heap.size w wr) := hb.out.trans (hbi.out.mono hb.out.size)
        by_cases hil : i < n
        · have i3 : (i : Int) < (n : Int) := by omega
          have ui : Hid (wrap64 ((i : Int) + 1) = ((i + 1 : Nat) : Int)) := cw64 (by have := HN.out; omega)
          have HI := Lib.hid (And.intro hi hil)
          have hil2 : i < l.length := by have := HN.out; omega
          obtain ⟨ad, rfl, _, hcr0, hrr⟩ := HL.out.row hil2
          obtain ⟨⟨A1, z, c1⟩, hx1⟩ : ∃ x : Rw, x = l[i] := ⟨_, rfl⟩
          obtain ⟨hzl, hmt, hz9⟩ := hrow.out i hil2
          rw [← hx1] at hcr0 hrr hzl hmt hz9
          have hzl' : z.length = n := hzl
          have hcr := (HBW.out.cell (block_lt hcr0)).trans hcr0
          have hcr' : wr.cell? (ad.add i) = some (.slice A1 z.length c1) := hcr
          rw [hzl'] at hcr'
          have HZ : Hid (Seg w w.heap.size A1 (z.map (.int .i64))) := hrr.1
          have HZ9 : Hid (∀ y ∈ z, 0 ≤ y ∧ y ≤ 9) := hz9
          have HZL := Lib.hid hzl'
          have HMT : Hid (M.getD i [] = z) := hmt
          clear hcr0 hrr hzl hmt hx1 hzl' hcr hi hil hil2 hz9
          go_wp2_with fail
          clear hcr' i3
          --LOOK3
          go_loopw [10, 39] (fun s10 s39 wx => ∃ k : Nat, k ≤ n ∧ s39 = .int .i64 k ∧ s10 = .int .i64 (ksum z k) ∧ wx = wr) (fun _ s39 _ => n - (intOf s39).toNat)
          case atStart => exact ⟨0, Nat.zero_le _, rfl, rfl, by first | rfl | trivial⟩
          case round =>
            obtain ⟨k, hk, rfl, rfl, rfl⟩ := hrel
            by_cases hkl : k < n
            · have i4 : (k : Int) < (n : Int) := by omega
              obtain ⟨zd, rfl, _, hcz0⟩ := HZ.out.pat (k := k) (by have := HZL.out; omega)
              have hcz := (HBW.out.cell (block_lt hcz0)).trans hcz0
              have uk : Hid (wrap64 ((k : Int) + 1) = ((k + 1 : Nat) : Int)) := cw64 (by have := HN.out; omega)
              have hkb := ksum_nine (z := z) (k + 1) (by have := HZL.out; omega) (fun i hi _ => by have := HZ9.out _ (List.getElem_mem hi); omega)
              have us : Hid (wrap64 (ksum z k + pat z k) = ksum z (k + 1)) := by
                rw [ksum] at hkb
                unfold Hid; rw [ksum]
                have := HN.out
                unfold wrap64; omega
              have HK := Lib.hid (And.intro hk hkl)
              clear hk hkl hkb hcz0
              generalize ksum z k = s at us ⊢
              generalize pat z k = x at us hcz
              go_wp2_with fail
              go_roundw
              case rel => exact ⟨k + 1, by have := HK.out; omega, by rw [uk.out], by rw [us.out], by first | rfl | trivial⟩
              case measure => rw [uk.out]; have := HK.out; simp [intOf]; omega
            · obtain rfl : k = n := by omega
              have hcs : Hid (ksum z k = csum (M.getD i [])) := by unfold Hid; rw [HMT.out]; unfold csum; rw [HZL.out]
              obtain ⟨f1, f2, f3⟩ := HT.out j i HI.out.2
              have f4 := HGO.out j i HI.out.1
              have hsb := HSB.out i HI.out.2
              have hpi := HPOS.out i HI.out.2
              obtain ⟨zd, rfl, _, hcz0⟩ := HZ.out.pat (k := j) (by have := HZL.out; have := HJ.out; omega)
              have hcz := (HBW.out.cell (block_lt hcz0)).trans hcz0
              obtain ⟨rd2, e2, _, hcp0⟩ := HRS.out.pat (k := i) (by have := HN.out; have := HI.out; omega)
              injection e2 with e2
              subst e2
              have hcp := (HBW.out.cell (block_lt hcp0)).trans hcp0
              have hz9 := pat_nine HZ9.out j
              have hmat : mat M i j = pat z j := by unfold mat; rw [HMT.out]
              have hstep : Hid (cgot M r j (i + 1) = fAdd (cgot M r j i) (fMul (fNew (pat r i) 1) (fNew (pat z j) (csum (M.getD i []))))) := by unfold Hid; rw [cgot, cterm, hmat]
              have f3' : FrOk (fMul (fNew (pat r i) 1) (fNew (pat z j) (csum (M.getD i [])))) 4 := by have := f3; unfold cterm at this; rw [hmat] at this; exact this
              rw [hmat] at f2
              rw [hcs.out]
              obtain ⟨p, hpp⟩ : ∃ p, p = pat r i := ⟨_, rfl⟩
              obtain ⟨v, hvv⟩ : ∃ v, v = pat z j := ⟨_, rfl⟩
              obtain ⟨s, hss⟩ : ∃ s, s = csum (M.getD i []) := ⟨_, rfl⟩
              obtain ⟨G, hGG⟩ : ∃ G, G = cgot M r j i := ⟨_, rfl⟩
              rw [← hpp] at hcp hpi f1 f3' hstep
              rw [← hvv] at hcz hz9 f2 f3' hstep
              rw [← hss] at hsb f2 f3' hstep ⊢
              rw [← hGG] at f4 hstep hro
              have F1 := Lib.hid f1
              have F2 := Lib.hid f2
              have F3 := Lib.hid (f3'.mono (clen_ge i))
              have F4 := Lib.hid f4
              have FL : Hid (1 ≤ clen i ∧ clen i + clen i + 1 < 8796093022207) := by have h1 := clen_ge i; have h2 := clen_le i (by have := HI.out; have := HN.out; omega); exact ⟨by omega, by omega⟩
              have HNP := Lib.hid (fun u => rnew_any p 1 u (by omega) (by omega) (by decide) (by decide) (by decide))
              have HNV := Lib.hid (fun u => rnew_any v s u (by omega) (by omega) (by omega) (by omega) (by omega))
              have HXL := Lib.hid (And.intro (block_lt hcp) (block_lt hcz))
              have HXO : Hid (p = pat r i) := hpp
              have HKEEP : Hid (∀ w', Below wo.heap.size wo w' → w'.cell? (rd.add i) = some (.int .i64 p) ∧ w'.cell? (zd.add j) = some (.int .i64 v) ∧ Below wo.heap.size wo w') := fun w' h => by
                have h9 : Below w.heap.size w w' := hb.out.trans (h.mono hb.out.size)
                rw [hpp, hvv]
                exact ⟨(h9.cell (block_lt hcp0)).trans hcp0, (h9.cell (block_lt hcz0)).trans hcz0, h⟩
              have HD : Hid (Below wo.heap.size wo wr.drew) := rb_drew hbi.out
              have HDC : Hid (Below wr.heap.size wr wr.drew) := rb_drew (Below.refl _ _)
              obtain ⟨d0, hd0, hd1⟩ := hro.out.2.1
              have HD0 := Lib.hid hd0
              have HD1 := Lib.hid hd1
              have i5 : (i : Int) < (k : Int) := by have := HI.out; omega
              have i6 : (j : Int) < (k : Int) := by have := HJ.out; omega
              have hcp2 := hcp
              have hcz2 := hcz
              clear f1 f2 f3 f3' f4 hsb hpi hcz0 hcp0 hcp hcz hz9 hmat hpp hvv hss hGG hd0 hd1 hk hkl
              go_upto_region 19 with (fail)
              --LOOK4
              go_region_held3 (fun w' => w'.cell? (rd.add i) = some (.int .i64 p) ∧ w'.cell? (zd.add j) = some (.int .i64 v) ∧ Below wo.heap.size wo w')
                (first
                  | exact HKEEP.out _ HD.out
                  | (go_split_ands; refine HKEEP.out _ ?_; first
                      | exact HX.out
                      | exact rb_alloc HX.out _
                      | exact rb_alloc HD.out _
                      | exact rb_alloc (by assumption) _))
                (first
                  | (go_at_call 51; have HNR0 := HNR; go_split_ands; refine (HNV.out _).mono ?_; rintro e u2 ⟨rfl, hp⟩; have HX1 := HX; have HXC1 := HXC; have HX := Lib.hid (rb_go (by first | exact HX1.out | exact rb_alloc HX1.out _) hp.2); have HXC := Lib.hid (rb_go (w := wr) (by first | exact HXC1.out | exact rb_alloc HXC1.out _) hp.2); have HNN := Lib.hid hp; clear hp)
                  | (go_at_call 51; go_split_ands; refine (HNP.out _).mono ?_; rintro e u1 ⟨rfl, hp⟩; have HX := Lib.hid (rb_go (by first | exact rb_alloc HD.out _ | exact HD.out) hp.2); have HXC := Lib.hid (rb_go (w := wr) (by first | exact rb_alloc HDC.out _ | exact HDC.out) hp.2); have HNR := Lib.hid hp; clear hp)
                  | (go_at_call 49; go_split_ands; refine (raddO_any (g := wo.heap.size) (gx := wo.heap.size) (n := G.1) (d0 := d0) (d := G.2) (y := fMul (fNew p 1) (fNew v s)) (L := clen i) (hro.out.2.2.below HXC.out) (hro.out.1.below HXC.out) (HD0.out.below HXC.out) HD1.out HM.out F4.out F3.out FL.out.1 FL.out.2).mono ?_
                     rintro r u4 ⟨rfl, hp, hgr⟩; have HS4 := Lib.hid hp; have HX3 := HX; have HX := Lib.hid (rb_put (w := wo) HX3.out hgr (Nat.le_refl _)); clear hp hgr)
                  | (go_at_call 50; go_split_ands; refine (rmul_any (x := fNew p 1) (y := fNew v s) (L := 2)
                      (by first | exact newRatBlk _ _ _ _ _ | exact (newRatBlk _ _ _ _ _).below HNN.out.2 | exact ((newRatBlk wr.drew (.bool false) (.slice none 0 0) (.bool false) (.slice none 0 0)).below HNR.out.2).below HNN.out.2)
                      (by first | exact HNR.out.1.below HNN.out.2 | exact (HNR.out.1.alloc _).below HNN.out.2 | exact (HNR.out.1.below HNN.out.2).alloc _ | simpa using HNR.out.1.below HNN.out.2 | simpa using (HNR.out.1.alloc _).below HNN.out.2)
                      (by first | exact HNN.out.1 | exact HNN.out.1.alloc _ | simpa using HNN.out.1 | exact (by simpa using HNN.out.1 : RatZ _ _ (fNew v s)).alloc _) F1.out F2.out (by decide) (by decide)).mono ?_
                     rintro r u3 ⟨rfl, hp, hgr⟩; have HM := Lib.hid hp; have HX2 := HX; have HXC2 := HXC; have HX := Lib.hid (rb_put (w := wo) (by first | exact HX2.out | exact rb_alloc HX2.out _) hgr (by first | exact hbi.out.size | exact HX1.out.size | exact HX2.out.size)); have HXC := Lib.hid (rb_put (w := wr) (by first | exact HXC2.out | exact rb_alloc HXC2.out _) hgr (by first | exact Nat.le_refl _ | exact HXC1.out.size | exact HXC2.out.size)); clear hp hgr))
              all_goals
                clear i5 i6 hcp2 hcz2
                have HGN := HGO.out j (i + 1) (by have := HI.out; omega)
                rw [hstep.out] at HGN
                have HPP := Lib.hid HGN.pos
                clear HGN
                go_wp2_with fail
                go_roundw
                case rel => exact ⟨i + 1, by have := HI.out; omega, by first | rfl | rw [ui.out], by unfold Hid; rw [hstep.out]; exact RatO.of HS4.out HPP.out, fun _ => by rw [hstep.out]; exact HS4.out, HX.out⟩
                case measure => (try rw [ui.out]); have := HI.out; simp [intOf]; omega
        · obtain rfl : i = n := by omega
          have hjn := HJ.out.2
          have HRZ := Lib.hid (hrz.out (by omega))
          have hend := HEND.out j hjn
          have hfo := (HGO.out j i (Nat.le_refl _)).mono (clen_le i HN.out.2.2)
          have hcj := (HBW.out.cell (block_lt HCJ.out)).trans HCJ.out
          rw [← HQ.out] at hcj hend
          have HGT : Hid (gcdF 0 (r.take (j + 1)) = Nat.gcd (gcdF 0 (r.take j)) q.natAbs) := by unfold Hid; rw [gcdF_take (by have := HN.out; omega), ← HQ.out]
          have hqb := HQB.out
          have HNQ := Lib.hid (fun u => rnew_any q 1 u (by omega) (by omega) (by decide) (by decide) (by decide))
          have HNI := Lib.hid (fun u => newInt_any q u (by omega) (by omega))
          have HFQ : Hid (FrOk (fNew q 1) 159) := FrOk.mono (FrOk.new (L := 2) (cfits (by omega) (by omega)) (cfits (by decide) (by decide)) (by decide)) (by decide)
          have HFX := Lib.hid hfo
          have HFG : Hid (Fits ((gcdF 0 (r.take j) : Nat) : Int) 2 ∧ Fits q 2) := ⟨cfits (by omega) (by have := HGB.out j; omega), cfits (by omega) (by omega)⟩
          have HEN := Lib.hid hend
          have i3 : (j : Int) < (i : Int) := by omega
          obtain ⟨X, hX⟩ : ∃ X, X = cgot M r j i := ⟨_, rfl⟩
          rw [← hX] at HRZ HFX HEN
          have HCJW := Lib.hid (block_lt hcj)
          clear hjn hend hfo hqb hX hi hil hro hrz
          go_wp2_with fail
          refine (HNQ.out _).mono ?_
          rintro e u1 ⟨rfl, hp1, hp2⟩
          have B1 := Lib.hid hp2
          have Q1 := Lib.hid hp1
          have hcj1 := (B1.out.cell HCJW.out).trans hcj
          clear hp1 hp2 hcj
          go_wp2_with fail
          refine (rcmp_any (L := 159) (HRZ.out.below B1.out) Q1.out HFX.out HFQ.out (by decide) (by decide)).mono ?_
          rintro e u2 ⟨rfl, hp⟩
          have B2 : Hid (Below wr.heap.size wr u2) := B1.out.trans (hp.mono B1.out.size)
          have hcj2 := (hp.cell (block_lt hcj1)).trans hcj1
          rw [HEN.out]
          clear hp hcj1
          go_wp2_with fail
          refine (HNI.out _).mono ?_
          rintro e u3 ⟨rfl, hp⟩
          have B3 : Hid (Below wr.heap.size wr u3) := B2.out.trans (hp.2.2.1.mono B2.out.size)
          have N3 := Lib.hid hp.1
          have B4 : Hid (Below wo.heap.size wo u3) := hbi.out.trans (B3.out.mono hbi.out.size)
          clear hp hcj2
          go_wp2_with fail
          refine (gcd_any w.heap.size w.heap.size 0 u2.heap.size 0 _ q 2 u3 (hgz.out.2.below B4.out) (hgz.out.1.below B4.out) N3.out HFG.out.1 HFG.out.2 (by decide) (by decide)).mono ?_
          rintro e u4 ⟨rfl, hp⟩
          have HZ4 : Hid (IntZ u4 w.heap.size 0 ((gcdF 0 (r.take (j + 1)) : Nat) : Int) ∧ IntBlk u4 w.heap.size) := by
            have h1 := hp.1
            rw [Int.natAbs_natCast, ← HGT.out] at h1
            exact ⟨h1, hp.2.1⟩
          have HB5 : Hid (Below w.heap.size w u4) := by
            have h1 : Below w.heap.size w u3 := hb.out.trans (B4.out.mono hb.out.size)
            exact Below.grown h1 hp.2.2 h1.size (fun q hq => by injection hq with hq; omega)
          clear hp i3
          go_wp2_with fail
          go_roundw
          case rel => exact ⟨j + 1, by have := HJ.out; omega, by first | rfl | rw [uj.out], HZ4, HB5⟩
          case measure => (try rw [uj.out]); have := HJ.out; simp [intOf]; omega
    · obtain rfl : j = n := by omega
      have hgz1 := hgz.out
      rw [HONE.out] at hgz1
      have HGZ := Lib.hid hgz1.1
      have HNI := Lib.hid (fun u => newInt_any 1 u (by decide) (by decide))
      have hc0 : Hid (cmpZ 1 1 = 0) := rfl
      clear hgz1 hgz hj hjl
      go_wp2_with fail
      refine (HNI.out _).mono ?_
      rintro e u1 ⟨rfl, hp⟩
      have B1 := Lib.hid hp.2.2.1
      have N1 := Lib.hid hp.1
      clear hp
      go_wp2_with fail
      refine (cmp_any w.heap.size 0 wr.heap.size 0 _ 1 u1 (HGZ.out.below B1.out) N1.out).mono ?_
      rintro e u2 ⟨rfl, m, rfl⟩
      rw [show cmpZ ((1 : Nat) : Int) 1 = 0 from rfl]
      go_wp2_with fail
      go_ret
      exact ⟨rfl, below_drewN (hb.out.trans (B1.out.mono hb.out.size)) m⟩

set_option linter.unusedVariables false

theorem cst_of {M : List (List Int)} (h : COk M) (hw : cwhole M = true) : CSt M (lowL (couts M M.length)) ((max (gcdL (couts M M.length)) 1 : Nat) : Int) := by
  have hlen : (lowL (couts M M.length)).length = M.length := by rw [lowL_len, couts_len]
  have hv : ∀ i, i < M.length → ((max (gcdL (couts M M.length)) 1 : Nat) : Int) * pat (lowL (couts M M.length)) i = cval M i := fun i hi => by
    have h1 : pat (couts M M.length) i = cval M i := by
      rw [pat_get (by rw [couts_len]; exact hi)]; simp [couts]
    have h2 : pat (couts M M.length) i = ((max (gcdL (couts M M.length)) 1 : Nat) : Int) * pat (lowL (couts M M.length)) i := by
      conv => lhs; rw [lowL_back (couts M M.length)]
      rw [pat_get (by rw [List.length_map, hlen]; exact hi), pat_get (by rw [hlen]; exact hi)]
      simp
    rw [← h2, h1]
  have hg : (1 : Int) ≤ ((max (gcdL (couts M M.length)) 1 : Nat) : Int) := by omega
  refine ⟨h, hlen, hg, fun i hi => ?_, hv, ?_⟩
  · have h1 := hv i hi
    obtain ⟨h2, h3⟩ := cval_ok h hw hi
    obtain ⟨x, hx⟩ : ∃ x, x = pat (lowL (couts M M.length)) i := ⟨_, rfl⟩
    obtain ⟨G, hG⟩ : ∃ G, G = ((max (gcdL (couts M M.length)) 1 : Nat) : Int) := ⟨_, rfl⟩
    rw [← hx, ← hG] at h1
    rw [← hG] at hg
    rw [← hx]
    rw [← h1] at h2 h3
    have h4 : 0 < x := by
      apply Classical.byContradiction
      intro hn
      have : G * x ≤ 0 := Int.mul_nonpos_of_nonneg_of_nonpos (by omega) (by omega)
      omega
    refine ⟨by omega, ?_⟩
    have : 1 * x ≤ G * x := Int.mul_le_mul_of_nonneg_right hg (by omega)
    omega
  · have h1 := gcdF_scale (max (gcdL (couts M M.length)) 1) (lowL (couts M M.length)) 0
    rw [Nat.mul_zero, ← lowL_back] at h1
    have hp := h.pos
    have hne : gcdL (couts M M.length) ≠ 0 := fun h0 => by
      have h2 := gcdL_zero h0 (cval M 0) (List.mem_map.2 ⟨0, List.mem_range.2 (by omega), rfl⟩)
      have := (cval_ok h hw (r := 0) (by omega)).1
      omega
    have h3 : gcdL (couts M M.length) = max (gcdL (couts M M.length)) 1 * gcdL (lowL (couts M M.length)) := h1
    have h4 : max (gcdL (couts M M.length)) 1 = gcdL (couts M M.length) := by omega
    rw [h4] at h3
    have h5 : gcdL (couts M M.length) * 1 = gcdL (couts M M.length) * gcdL (lowL (couts M M.length)) := by rw [Nat.mul_one]; exact h3
    exact (Nat.eq_of_mul_eq_mul_left (by omega) h5).symm
theorem rest_any (C : Option Addr) (l : List Rw) (d : Nat) (w : World) (hl : RowsOk w w.heap.size C l) (hm2 : l.length ≤ 9223372036854775807) :
    Calls Try.prog 16 #[.slice C l.length d] w fun e w' => SOut w w' e (crest (nums l)).1 (crest (nums l)).2 := by
  cases h : cwholeB (nums l)
  · exact rest_bad C l d w hl hm2 h
  · unfold cwholeB at h
    rw [Bool.and_eq_true] at h
    have h0 : cwrong (nums l) = 0 := by simpa using h.1
    have e : crest (nums l) = (lowL (couts (nums l) (nums l).length), 0) := by unfold crest; rw [if_neg (by simp [h0]), if_neg (by rw [h.2]; simp)]
    rw [e]
    exact rest_ok C l d w hl hm2 h0 h.2
theorem go_any (C A : Option Addr) (l : List Rw) (d c : Nat) (f : Int) (ns : List Int) (w : World) (hl : RowsOk w w.heap.size C l) (hm2 : l.length ≤ 9223372036854775807) (hns : Seg w w.heap.size A (ns.map (.int .i64))) (hn8 : ns.length * 8 ≤ 140737488355328) :
    Calls Try.prog 17 #[.slice C l.length d, .int .i64 f, .slice A ns.length c] w fun e w' => SOut w w' e (cgo (nums l) f ns).1 (cgo (nums l) f ns).2 := by
  by_cases h : cwrong (nums l) ≠ 0 ∨ f < 0 ∨ ((nums l).length : Int) ≤ f
  · exact go_bad C A l d c f ns w hl hm2 h
  · have h0 : cwrong (nums l) = 0 := by apply Classical.byContradiction; exact fun hn => h (.inl hn)
    have h1 : 0 ≤ f := by apply Classical.byContradiction; exact fun hn => h (.inr (.inl (by omega)))
    have h2 : f < ((nums l).length : Int) := by apply Classical.byContradiction; exact fun hn => h (.inr (.inr (by omega)))
    rw [COk.nums_len] at h2
    obtain ⟨f0, rfl⟩ : ∃ f0 : Nat, f = f0 := ⟨f.toNat, by omega⟩
    exact go_ok C A l d c f0 ns w hl hm2 hns hn8 h0 (by omega)
theorem sgo_any (C A : Option Addr) (l : List Rw) (d c : Nat) (f : Int) (ns : List Int) (w : World) (hl : RowsOk w w.heap.size C l) (hm2 : l.length ≤ 9223372036854775807) (hns : Seg w w.heap.size A (ns.map (.int .i64))) (hn8 : ns.length * 8 ≤ 140737488355328) :
    Calls Try.prog 18 #[.slice C l.length d, .int .i64 f, .slice A ns.length c] w fun e w' => SOut w w' e (cgo (nums l) f ns).1 (cgo (nums l) f ns).2 := by
  by_cases h : cwrong (nums l) ≠ 0 ∨ f < 0 ∨ ((nums l).length : Int) ≤ f
  · exact sgo_bad C A l d c f ns w hl hm2 h
  · have h0 : cwrong (nums l) = 0 := by apply Classical.byContradiction; exact fun hn => h (.inl hn)
    have h1 : 0 ≤ f := by apply Classical.byContradiction; exact fun hn => h (.inr (.inl (by omega)))
    have h2 : f < ((nums l).length : Int) := by apply Classical.byContradiction; exact fun hn => h (.inr (.inr (by omega)))
    rw [COk.nums_len] at h2
    obtain ⟨f0, rfl⟩ : ∃ f0 : Nat, f = f0 := ⟨f.toNat, by omega⟩
    exact sgo_ok C A l d c f0 ns w hl hm2 hns hn8 h0 (by omega)
theorem cgo_len (M : List (List Int)) (f : Int) (ns : List Int) : (cgo M f ns).1.length ≤ ns.length := by
  unfold cgo
  split
  · exact Nat.zero_le _
  · split
    · exact Nat.zero_le _
    · split
      · exact Nat.zero_le _
      · show (cvis _ _ _ _).length ≤ _
        rw [cvis_len]; exact Nat.le_refl _
/-- What the answers say of each other. -/
theorem crest_says (M : List (List Int)) : (cwrong M ≠ 0 → cwholeB M = false ∧ (crest M).1 = [] ∧ (crest M).2 = cwrong M) ∧ (cwrong M = 0 → COk M ∧ cwholeB M = cwhole M ∧ (cwhole M = false → (crest M).1 = [] ∧ (crest M).2 = 3) ∧
    (cwhole M = true → (crest M).2 = 0 ∧ ∃ g, CSt M (crest M).1 g)) := by
  refine ⟨fun h => ?_, fun h => ⟨cok_of h, ?_, fun hw => ?_, fun hw => ?_⟩⟩
  · refine ⟨?_, ?_, ?_⟩
    · unfold cwholeB; rw [decide_eq_false h]; rfl
    · unfold crest; rw [if_pos h]
    · unfold crest; rw [if_pos h]
  · unfold cwholeB; rw [decide_eq_true h]; rfl
  · unfold crest; rw [if_neg (by simp [h]), if_pos hw]; exact ⟨rfl, rfl⟩
  · unfold crest; rw [if_neg (by simp [h]), if_neg (by rw [hw]; simp)]; exact ⟨rfl, _, cst_of (cok_of h) hw⟩
theorem cseg_on {w w' : World} {A : Option Addr} {xs : List Value} (h : Seg w w.heap.size A xs) (hb : Below w.heap.size w w') : Seg w' w'.heap.size A xs := (h.below hb).more hb.size
set_option maxRecDepth 20000 in
set_option maxHeartbeats 8000000 in
theorem ChainGoes_walk (x0 : RowsX) (a1 : Int) (A2 : Option Addr) (z2 : List Int) (c2 : Nat) (w : World)
    (s0 : RowsOk w w.heap.size x0.1 x0.2.1 ∧ x0.2.1.length ≤ x0.2.2 ∧ x0.2.2 ≤ maxLen ∧ RowsSz x0.2.1) (w1 : (Lit.int .i64 a1).wf = true)
    (hc2 : z2.length ≤ c2) (hm2 : c2 ≤ maxLen) (hw2 : ∀ n, n ∈ z2 → (Lit.int .i64 n).wf = true) (s2 : Seg w w.heap.size A2 (z2.map (.int .i64))) (R2 : c2 * 8 ≤ 140737488351232) :
    Calls Try.prog 4 #[RowsV x0, .int .i64 a1, .slice A2 z2.length c2] w fun e w' => e = .returned (.bool true) ∧ Below w.heap.size w w' := by
  obtain ⟨C, l, d⟩ := x0
  obtain ⟨r1, r2, r3, _⟩ := s0
  have hmx : maxLen = 9223372036854775807 := rfl
  rw [hmx] at r3
  have r2' : l.length ≤ d := r2
  have r3' : d ≤ 9223372036854775807 := r3
  have l1 : l.length ≤ 9223372036854775807 := by omega
  have l8 : z2.length * 8 ≤ 140737488355328 := by omega
  have HWH := Lib.hid (whole_any C l d w r1 l1)
  have HRE := Lib.hid (fun (u : World) (h : Below w.heap.size w u) => rest_any C l d u (r1.on h) l1)
  have HGO := Lib.hid (fun (u : World) (h : Below w.heap.size w u) => go_any C A2 l d c2 a1 z2 u (r1.on h) l1 (cseg_on s2 h) l8)
  have HSG := Lib.hid (fun (u : World) (h : Below w.heap.size w u) => sgo_any C A2 l d c2 a1 z2 u (r1.on h) l1 (cseg_on s2 h) l8)
  have HSW := Lib.hid (fun (u : World) (h : Below w.heap.size w u) => swrong_any C l d u.heap.size u (r1.on h) l1)
  have HCW := Lib.hid (fun (u : World) (h : Below w.heap.size w u) => cwrong_any C l d u.heap.size u (r1.on h) l1)
  have HWL := Lib.hid (fun (u : World) (h : Below w.heap.size w u) (ho : COk (nums l)) => swhole_any C l d u (r1.on h) ho)
  have HST := Lib.hid (fun (u : World) (A : Option Addr) (r : List Int) (g : Int) (c : Nat) (h : Below w.heap.size w u) (hs : Seg u u.heap.size A (r.map (.int .i64))) (ho : CSt (nums l) r g) => sstays_ok C A l r g d c u (r1.on h) hs ho)
  have HSY := Lib.hid (crest_says (nums l))
  have HLN : Hid ((cgo (nums l) a1 z2).1.length ≤ 9223372036854775807) := by have := cgo_len (nums l) a1 z2; unfold Hid; omega
  obtain ⟨M, hM⟩ : ∃ M, M = nums l := ⟨_, rfl⟩
  rw [← hM] at HWH HRE HGO HSG HSW HCW HWL HST HSY HLN
  obtain ⟨q, hq⟩ : ∃ q, q = cwrong M := ⟨_, rfl⟩
  obtain ⟨b, hb⟩ : ∃ b, b = cwholeB M := ⟨_, rfl⟩
  obtain ⟨N, hN⟩ : ∃ N, N = (crest M).1 := ⟨_, rfl⟩
  obtain ⟨y, hy⟩ : ∃ y, y = (crest M).2 := ⟨_, rfl⟩
  obtain ⟨V, hV⟩ : ∃ V, V = (cgo M a1 z2).1 := ⟨_, rfl⟩
  obtain ⟨v, hv⟩ : ∃ v, v = (cgo M a1 z2).2 := ⟨_, rfl⟩
  rw [← hq] at HWH HSW HCW HSY
  rw [← hb] at HWH HSY
  rw [← hN, ← hy] at HRE HSY
  rw [← hV, ← hv] at HGO HSG
  rw [← hV] at HLN
  clear hM hq hb hN hy hV hv r1 r2 r3 r2' r3' l1 l8 w1 hc2 hm2 hw2 s2 R2 hmx
  go_enter Try.func4, Try.ntmps4
  go_wp2_with fail
  refine HWH.out.mono ?_
  rintro e w1 ⟨rfl, hb1⟩
  have HB1 := Lib.hid hb1
  clear hb1 HWH
  go_wp2_with fail
  refine (HRE.out w1 HB1.out).mono ?_
  rintro e w2 ⟨A3, k2, rfl, hk2, hs2, hb2⟩
  have HB2 : Hid (Below w.heap.size w w2) := HB1.out.trans (hb2.mono HB1.out.size)
  have HS2 := Lib.hid hs2
  clear hk2 hs2 hb2 HB1 HRE
  go_wp2_with fail
  refine (HGO.out w2 HB2.out).mono ?_
  rintro e w3 ⟨A4, k3, rfl, hk3, hs3, hb3⟩
  have HB3 : Hid (Below w.heap.size w w3) := HB2.out.trans (hb3.mono HB2.out.size)
  have HS23 := Lib.hid (cseg_on HS2.out hb3)
  have HS3 := Lib.hid hs3
  clear hk3 hs3 hb3 HB2 HS2 HGO
  go_wp2_with fail
  refine (HSG.out w3 HB3.out).mono ?_
  rintro e w4 ⟨A5, k4, rfl, hk4, hs4, hb4⟩
  have HB4 : Hid (Below w.heap.size w w4) := HB3.out.trans (hb4.mono HB3.out.size)
  have HS24 := Lib.hid (cseg_on HS23.out hb4)
  have HS34 := Lib.hid (cseg_on HS3.out hb4)
  have HS4 := Lib.hid hs4
  clear hk4 hs4 hb4 HB3 HS23 HS3 HSG
  go_wp2_with fail
  refine (HSW.out w4 HB4.out).mono ?_
  rintro e w5 ⟨rfl, m5, rfl⟩
  obtain ⟨u5, hu5⟩ : ∃ u, u = w4.drewN m5 := ⟨_, rfl⟩
  have hD5 : Below w4.heap.size w4 u5 := by rw [hu5]; exact below_drewN (Below.refl _ _) m5
  have HB5 : Hid (Below w.heap.size w u5) := by rw [hu5]; exact below_drewN HB4.out m5
  have HS25 := Lib.hid (cseg_on HS24.out hD5)
  have HS35 := Lib.hid (cseg_on HS34.out hD5)
  have HS45 := Lib.hid (cseg_on HS4.out hD5)
  rw [← hu5]
  clear HS24 HS34 HS4 hu5 hD5 HB4 HSW
  go_wp2_with fail
  refine (HCW.out u5 HB5.out).mono ?_
  rintro e w6 ⟨rfl, m6, rfl⟩
  obtain ⟨u6, hu6⟩ : ∃ u, u = u5.drewN m6 := ⟨_, rfl⟩
  have hD6 : Below u5.heap.size u5 u6 := by rw [hu6]; exact below_drewN (Below.refl _ _) m6
  have HB6 : Hid (Below w.heap.size w u6) := by rw [hu6]; exact below_drewN HB5.out m6
  have HS26 := Lib.hid (cseg_on HS25.out hD6)
  have HS36 := Lib.hid (cseg_on HS35.out hD6)
  have HS46 := Lib.hid (cseg_on HS45.out hD6)
  rw [← hu6]
  clear HS25 HS35 HS45 hu6 hD6 HB5 HCW
  go_wp2_with fail
  refine (eq_same V A4 A5 k3 k4 u6 HS36.out HS46.out HLN.out).mono ?_
  rintro e w7 ⟨rfl, m7, rfl⟩
  obtain ⟨u7, hu7⟩ : ∃ u, u = u6.drewN m7 := ⟨_, rfl⟩
  have hD7 : Below u6.heap.size u6 u7 := by rw [hu7]; exact below_drewN (Below.refl _ _) m7
  have HB7 : Hid (Below w.heap.size w u7) := by rw [hu7]; exact below_drewN HB6.out m7
  have HS27 := Lib.hid (cseg_on HS26.out hD7)
  rw [← hu7]
  clear HS26 HS36 HS46 hu7 hD7 HB6
  by_cases hq : q = 0
  · obtain ⟨hok, hbw, hn, hy⟩ := HSY.out.2 hq
    subst hq
    have HWL2 := Lib.hid (HWL.out u7 HB7.out hok)
    cases hc : cwhole M
    · obtain ⟨rfl, rfl⟩ := hn hc
      rw [hc] at hbw HWL2
      subst hbw
      clear hok hn hy hc HSY HWL HST
      go_wp2_with fail
      refine HWL2.out.mono ?_
      rintro e w8 ⟨rfl, hb8⟩
      have HB8 : Hid (Below w.heap.size w w8) := HB7.out.trans (hb8.mono HB7.out.size)
      clear hb8
      go_wp2_with fail
      go_ret
      exact ⟨rfl, HB8.out⟩
    · obtain ⟨rfl, g, hst⟩ := hy hc
      rw [hc] at hbw HWL2
      subst hbw
      have HG := Lib.hid hst
      clear hok hn hy hc HSY HWL hst
      go_wp2_with fail
      refine HWL2.out.mono ?_
      rintro e w8 ⟨rfl, hb8⟩
      have HB8 : Hid (Below w.heap.size w w8) := HB7.out.trans (hb8.mono HB7.out.size)
      have HS28 := Lib.hid (cseg_on HS27.out hb8)
      clear hb8
      go_wp2_with fail
      refine (HST.out w8 A3 N g k2 HB8.out HS28.out HG.out).mono ?_
      rintro e w9 ⟨rfl, hb9⟩
      have HB9 : Hid (Below w.heap.size w w9) := HB8.out.trans (hb9.mono HB8.out.size)
      clear hb9
      go_wp2_with fail
      go_ret
      exact ⟨rfl, HB9.out⟩
  · obtain ⟨rfl, rfl, rfl⟩ := HSY.out.1 hq
    have b0 : (y != 0) = true := by simp [hq]
    clear hq HSY HWL HST
    go_wp2_with fail
    go_ret
    exact ⟨rfl, HB7.out⟩
end Go.Proofs.Ytkffakekakhgdaa
