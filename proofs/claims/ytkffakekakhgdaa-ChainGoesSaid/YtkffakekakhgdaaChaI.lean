/- Package chain: low, walked. No condition but that the numbers are not below 0. Package chain: Rest, walked. No condition but the lists' own size. -/
import Derived.Test.YtkffakekakhgdaaBayM
import Derived.Test.YtkffakekakhgdaaBayL
import Derived.Test.YtkffakekakhgdaaRuiA
import Derived.BigQuiet
import Derived.Test.YtkffakekakhgdaaChaH
import Derived.Test.YtkffakekakhgdaaChaD
namespace Go.Proofs.Ytkffakekakhgdaa
open Go.ChangeShapes Go.WideShapes Go.ChangeAt Go.RowKit
set_option linter.unusedVariables false

set_option maxRecDepth 20000 in
set_option maxHeartbeats 4000000 in
theorem clow_any (A : Option Addr) (l : List Int) (c base : Nat) (w : World) (ho : Own w base tN (.slice A l.length c) (l.map (.int .i64))) (hb : base ≤ w.heap.size) (hn : ∀ x ∈ l, 0 ≤ x ∧ x ≤ 9223372036854775807) (hl : l.length ≤ 9223372036854775807) :
    Calls Try.prog 48 #[.slice A l.length c] w fun e w' => e = .returned (.slice A l.length c) ∧ Own w' base tN (.slice A l.length c) ((lowL l).map (.int .i64)) ∧ Below base w w' := by
  have HO := Lib.hid ho
  have HS := Lib.hid ho.seg
  have HB := Lib.hid hb
  have HN := Lib.hid hn
  have hpn : Hid (∀ k, k < l.length → 0 ≤ pat l k ∧ pat l k ≤ 9223372036854775807) := fun k hk => by rw [pat_get hk]; exact hn _ (List.getElem_mem hk)
  have HL := Lib.hid hl
  have hgb : Hid (∀ k, gcdF 0 (l.take k) ≤ 9223372036854775807) := fun k => gcdF_bound fun x hx => by have := hn x (List.mem_of_mem_take hx); omega
  clear ho hb hn
  go_enter Try.func48, Try.ntmps48
  go_wp2_with fail
  go_loopw [3, 11] (fun s3 s11 wx => ∃ (k m g : Nat), k ≤ l.length ∧ s11 = .int .i64 k ∧ s3 = .int .i64 g ∧ Hid (g = gcdF 0 (l.take k)) ∧ wx = w.drewN m) (fun _ s11 _ => l.length - (intOf s11).toNat)
  case atStart => exact ⟨0, 0, 0, Nat.zero_le _, rfl, rfl, rfl, rfl⟩
  case round =>
    obtain ⟨k, m, g, hk, rfl, rfl, hg, rfl⟩ := hrel
    by_cases hlt : k < l.length
    · have i1 : (k : Int) < (l.length : Int) := by omega
      obtain ⟨ad, rfl, _, hc⟩ := HS.out.pat hlt
      obtain ⟨hx1, hx2⟩ := hpn.out k hlt
      obtain ⟨x, hx⟩ : ∃ x : Nat, pat l k = x := ⟨(pat l k).toNat, by omega⟩
      rw [hx] at hc hx2
      have HG2 : Hid (gcdF 0 (l.take (k + 1)) = Nat.gcd x g) := by unfold Hid; rw [gcdF_take hlt, hx, ← hg.out, Nat.gcd_comm]; rfl
      have HGB : Hid (x ≤ 9223372036854775807 ∧ g ≤ 9223372036854775807) := ⟨by omega, by rw [hg.out]; exact hgb.out k⟩
      have uk : Hid (wrap64 ((k : Int) + 1) = ((k + 1 : Nat) : Int)) := bl64 (by omega)
      have HK := Lib.hid (And.intro hk hlt)
      clear hk hlt hx hx1 hx2 hg
      go_wp2_with fail
      --LOOK1
      go_loopw [6, 7] (fun s6 s7 wx => ∃ (a b m2 : Nat), s6 = .int .i64 a ∧ s7 = .int .i64 b ∧ Hid (Nat.gcd a b = Nat.gcd x g) ∧ Hid (a ≤ 9223372036854775807 ∧ b ≤ 9223372036854775807) ∧ wx = w.drewN m2) (fun _ s7 _ => (intOf s7).toNat)
      case atStart => exact ⟨x, g, m, rfl, rfl, rfl, HGB, rfl⟩
      case round =>
        obtain ⟨a, b, m2, rfl, rfl, hab, hbd, rfl⟩ := hrel
        by_cases hb0 : b = 0
        · have hv : Hid (a = gcdF 0 (l.take (k + 1))) := by unfold Hid; rw [HG2.out, ← hab.out, hb0, Nat.gcd_zero_right]
          subst hb0
          clear hab
          have huk := uk.out
          go_wp2_with fail
          go_roundw
          case rel => exact ⟨k + 1, m2, a, by have := HK.out; omega, by first | rfl | rw [uk.out], rfl, hv, rfl⟩
          case measure => (try rw [uk.out]); have := HK.out; simp [intOf]; omega
        · have j1 : ((b : Int) == 0) = false := by rw [beq_eq_false_iff_ne]; omega
          have hu := rrem (c := a) (d := b) (by omega)
          have hlt2 : a % b < b := Nat.mod_lt _ (by omega)
          have hst : Hid (Nat.gcd b (a % b) = Nat.gcd x g) := by unfold Hid; rw [rgcd_step, hab.out]
          have hz : ¬ (b : Int) = 0 := by omega
          have HDD := Lib.hid (And.intro hlt2 hbd.out)
          obtain ⟨r, hr⟩ : ∃ r, r = a % b := ⟨_, rfl⟩
          rw [← hr] at hu hst HDD
          have hwr : IntKind.i64.wrap (r : Int) = (r : Int) := IntWalk.i64_in _ (by have := HDD.out; omega)
          clear hb0 hlt2 hr hab hbd
          go_wp2_with fail
          go_quiet (fail)
          go_wp2_with fail
          go_roundw
          case rel => exact ⟨b, r, m2 + nq, rfl, rfl, hst, ⟨HDD.out.2.2, by have := HDD.out; omega⟩, by first | rfl | rw [World.drewN_drewN]⟩
          case measure => have := HDD.out; simp [intOf]; omega
    · obtain rfl : k = l.length := by omega
      have hgl : g = gcdL l := by have := hg.out; rw [List.take_length] at this; exact this
      by_cases h1 : 1 < g
      · have i1 : (1 : Int) < (g : Int) := by omega
        have hlow : Hid (∀ k, k < l.length → pat (lowL l) k = Int.tdiv (pat l k) (g : Int) ∧ 0 ≤ Int.tdiv (pat l k) (g : Int) ∧ Int.tdiv (pat l k) (g : Int) ≤ 9223372036854775807) := fun k hk => by
          obtain ⟨h2, h3⟩ := hpn.out k hk
          rw [Int.tdiv_eq_ediv_of_nonneg h2]
          refine ⟨?_, Int.ediv_nonneg h2 (by omega), Int.le_trans (Int.ediv_le_self _ h2) h3⟩
          rw [lowL_at hk, ← hgl, show max g 1 = g by omega]
        have hgz : ¬ (g : Int) = 0 := by omega
        clear hk hlt hg hgl h1
        go_wp2_with fail
        --LOOK2
        go_loopw [29] (fun s29 wx => ∃ (k : Nat), k ≤ l.length ∧ s29 = .int .i64 k ∧ Hid (Own wx base tN (.slice A l.length c) ((tab (mixf l (lowL l) k) l.length).map (.int .i64))) ∧ Hid (Below base w wx)) (fun s29 _ => l.length - (intOf s29).toNat)
        case atStart => exact ⟨0, Nat.zero_le _, rfl, by unfold Hid; rw [mix_zero]; exact HO.out.drewB m, below_drewN (Below.refl _ _) m⟩
        case round =>
          obtain ⟨k, hk, rfl, hok, hbk⟩ := hrel
          by_cases hkl : k < l.length
          · have i2 : (k : Int) < (l.length : Int) := by omega
            obtain ⟨gb, rfl, hgb2⟩ := hok.out.at_ (by omega)
            have hc := hok.out.cell (j := k) (u := .int .i64 (pat l k)) (by rw [List.getElem?_map, tab_get hkl]; simp [mixf])
            have hf := hok.out.frozen k
            obtain ⟨e1, e2, e3⟩ := hlow.out k hkl
            have hst := hok.out.set k (.int .i64 (pat (lowL l) k))
            rw [← List.map_set, mix_set, e1] at hst
            have HST := Lib.hid hst
            have uk : Hid (wrap64 ((k : Int) + 1) = ((k + 1 : Nat) : Int)) := bl64 (by omega)
            have HKK := Lib.hid (And.intro hk hkl)
            obtain ⟨y, hy⟩ : ∃ y, y = Int.tdiv (pat l k) (g : Int) := ⟨_, rfl⟩
            rw [← hy] at e2 e3 HST
            obtain ⟨x, hx⟩ : ∃ x, x = pat l k := ⟨_, rfl⟩
            rw [← hx] at hc hy
            have hyy : Int.tdiv x (g : Int) = y := hy.symm
            have hw : IntKind.i64.wrap y = y := IntWalk.i64_in _ (by omega)
            clear hk hkl e1 e2 e3 hst hy hx
            have huk := uk.out
            go_wp2_with fail
            go_roundw
            case rel => exact ⟨k + 1, by have := HKK.out; omega, by first | rfl | rw [uk.out], HST, hbk.out.setCell hgb2 _⟩
            case measure => (try rw [uk.out]); have := HKK.out; simp [intOf]; omega
          · obtain rfl : k = l.length := by omega
            have hfin : Hid (Own wr base tN (.slice A l.length c) ((lowL l).map (.int .i64))) := by
              have h := hok.out
              rw [mix_all l (lowL l) (lowL_len l)] at h
              exact h
            clear hk hkl
            go_wp2_with fail
            go_ret
            exact ⟨rfl, hfin.out, hbk.out⟩
      · have i1 : ¬ (1 : Int) < (g : Int) := by omega
        have hl1 : Hid (lowL l = l) := lowL_one (by omega)
        clear hk hlt hg hgl h1
        go_wp2_with fail
        go_ret
        exact ⟨rfl, by rw [hl1.out]; exact HO.out.drewB m, below_drewN (Below.refl _ _) m⟩

set_option linter.unusedVariables false

theorem wf_small {v : Int} (h1 : -100 ≤ v) (h2 : v ≤ 100) : (Lit.int .i64 v).wf = true := by
  simp [Lit.wf, IntKind.min, IntKind.max, IntKind.bits, IntKind.signed]; omega
theorem oth_succ (k r : Nat) : oth (k + 1) r = oth k r ++ (if k = r then [] else [k]) := by
  unfold oth
  rw [List.range_succ, List.filter_append]
  by_cases h : k = r
  · simp [h]
  · simp [h]
theorem oth_small : ∀ n, n ≤ 5 → ∀ r, r < n → (oth n r).length = n - 1 := by decide
theorem oth_le (k r : Nat) : (oth k r).length ≤ k := by
  unfold oth
  have := List.length_filter_le (fun i => !(i == r)) (List.range k)
  rwa [List.length_range] at this
/-- The first rows. -/
def cminP (M : List (List Int)) (r n k : Nat) : List (List Int) := (oth k r).map fun i => crow (M.getD i []) i r n
theorem cminP_skip (M : List (List Int)) (r n : Nat) : cminP M r n (r + 1) = cminP M r n r := by unfold cminP; rw [oth_succ, if_pos rfl, List.append_nil]
theorem cminP_next (M : List (List Int)) {r n k : Nat} (h : k ≠ r) : cminP M r n (k + 1) = cminP M r n k ++ [crow (M.getD k []) k r n] := by unfold cminP; rw [oth_succ, if_neg h, List.map_append]; rfl
theorem crow_skip (z : List Int) (i r : Nat) : crow z i r (r + 1) = crow z i r r := by unfold crow; rw [oth_succ, if_pos rfl, List.append_nil]
theorem crow_next (z : List Int) {i r j : Nat} (h : j ≠ r) : crow z i r (j + 1) = crow z i r j ++ [if i = j then csum z - pat z i else - pat z j] := by unfold crow; rw [oth_succ, if_neg h, List.map_append]; rfl
theorem crow_len {z : List Int} {i r n : Nat} : (crow z i r n).length = (oth n r).length := by unfold crow; rw [List.length_map]
theorem cminP_len {M : List (List Int)} {r n k : Nat} : (cminP M r n k).length = (oth k r).length := by unfold cminP; rw [List.length_map]
theorem pat_nine {z : List Int} (h : ∀ y ∈ z, 0 ≤ y ∧ y ≤ 9) (k : Nat) : 0 ≤ pat z k ∧ pat z k ≤ 9 := by
  by_cases hk : k < z.length
  · rw [pat_get hk]; exact h _ (List.getElem_mem hk)
  · unfold pat; simp [hk]
theorem ksum_part {z : List Int} (h : ∀ y ∈ z, 0 ≤ y ∧ y ≤ 9) : ∀ n i, i < n → pat z i ≤ ksum z n ∧ 0 ≤ ksum z n
  | 0, i, hi => absurd hi (Nat.not_lt_zero _)
  | n + 1, i, hi => by
    have h1 := pat_nine h n
    have h0 : 0 ≤ ksum z n := by
      rcases Nat.eq_zero_or_pos n with e | e
      · subst e; exact Int.le_refl _
      · exact (ksum_part h n 0 e).2
    rw [ksum]
    by_cases e : i = n
    · subst e; omega
    · have := ksum_part h n i (by omega)
      omega
theorem cmin_small {M : List (List Int)} (h : COk M) (r : Nat) : Sml (cmin M r M.length) := by
  intro z hz x hx
  obtain ⟨i, hi, rfl⟩ := List.mem_map.1 hz
  obtain ⟨j, hj, rfl⟩ := List.mem_map.1 hx
  obtain ⟨hi, _⟩ := mem_oth.1 hi
  obtain ⟨hj, _⟩ := mem_oth.1 hj
  have e : M.getD i [] = M[i] := by simp [List.getD, hi]
  have h1 := h.num i hi
  have h2 := h.sum i hi
  have h3 := h.row i hi
  have h4 := pat_nine h1 j
  have h5 := pat_nine h1 i
  have h6 := ksum_part h1 M[i].length i (by omega)
  show -45 ≤ (if i = j then csum (M.getD i []) - pat (M.getD i []) i else - pat (M.getD i []) j) ∧ (if i = j then csum (M.getD i []) - pat (M.getD i []) i else - pat (M.getD i []) j) ≤ 45
  rw [e]
  unfold csum at h2 ⊢
  split <;> omega
/-- How often each of the first k is, before what divides all is left out. -/
def cval (M : List (List Int)) (r : Nat) : Int := tre M M.length r * csum (M.getD r [])
def couts (M : List (List Int)) (k : Nat) : List Int := (List.range k).map (cval M)
theorem couts_len (M : List (List Int)) (k : Nat) : (couts M k).length = k := by simp [couts]
theorem couts_next (M : List (List Int)) (k : Nat) : couts M (k + 1) = couts M k ++ [cval M k] := by unfold couts; rw [List.range_succ, List.map_append]; rfl
theorem tre_ok {M : List (List Int)} (h : COk M) (hw : cwhole M = true) {r : Nat} (hr : r < M.length) : 1 ≤ tre M M.length r ∧ tre M M.length r ≤ 98415000 := by
  refine ⟨tre_pos h.sqr h.le hr (fun z hz x hx => ?_) (leads_of (cwhole_iff.1 hw) hr), ?_⟩
  · obtain ⟨k, hk, rfl⟩ := List.mem_iff_getElem.1 hz
    exact (h.num k hk x hx).1
  · have h1 := cdet_le (M.length - 1) _ (cmin_small h r)
    have h2 := dbnd_le (n := M.length - 1) (by have := h.le; omega)
    unfold tre
    omega
theorem cval_ok {M : List (List Int)} (h : COk M) (hw : cwhole M = true) {r : Nat} (hr : r < M.length) : 1 ≤ cval M r ∧ cval M r ≤ 4428675000 := by
  have h1 := tre_ok h hw hr
  have h2 := h.sum r hr
  have e : M.getD r [] = M[r] := by simp [List.getD, hr]
  unfold cval
  rw [e]
  have h3 : 1 * 1 ≤ tre M M.length r * csum M[r] := Int.mul_le_mul h1.1 h2.1 (by omega) (by omega)
  have h4 : tre M M.length r * csum M[r] ≤ 98415000 * 45 := Int.mul_le_mul h1.2 h2.2 (by omega) (by omega)
  omega
def crest (M : List (List Int)) : List Int × Int := if cwrong M ≠ 0 then ([], cwrong M) else if cwhole M = false then ([], 3) else (lowL (couts M M.length), 0)
theorem rest_bad (C : Option Addr) (l : List Rw) (d : Nat) (w : World) (hl : RowsOk w w.heap.size C l) (hm2 : l.length ≤ 9223372036854775807) (h : cwholeB (nums l) = false) :
    Calls Try.prog 16 #[.slice C l.length d] w fun e w' => SOut w w' e (crest (nums l)).1 (crest (nums l)).2 := by
  have HW := Lib.hid (whole_any C l d w hl hm2)
  rw [h] at HW
  by_cases h0 : cwrong (nums l) = 0
  · have HF : Hid (crest (nums l) = ([], 3)) := by
      have h1 : cwhole (nums l) = false := by unfold cwholeB at h; rw [h0] at h; simpa using h
      unfold Hid crest; rw [if_neg (by simp [h0]), if_pos h1]
    rw [h0] at HW
    rw [HF.out]
    clear hl h0 h
    go_enter Try.func16, Try.ntmps16
    go_wp2_with fail
    refine HW.out.mono ?_
    rintro e w1 ⟨rfl, hb⟩
    have HB1 := Lib.hid hb
    clear hb
    go_wp2_with fail
    go_ret2
    exact SOut.nil_ HB1.out
  · have HF : Hid (crest (nums l) = ([], cwrong (nums l))) := if_pos h0
    have b0 : (cwrong (nums l) != 0) = true := by simp [h0]
    rw [HF.out]
    clear HF
    generalize cwrong (nums l) = z at *
    clear hl h0 h
    go_enter Try.func16, Try.ntmps16
    go_wp2_with fail
    refine HW.out.mono ?_
    rintro e w1 ⟨rfl, hb⟩
    have HB1 := Lib.hid hb
    clear hb
    go_wp2_with fail
    go_ret2
    exact SOut.nil_ HB1.out
set_option maxRecDepth 20000 in
set_option maxHeartbeats 16000000 in
theorem rest_ok (C : Option Addr) (l : List Rw) (d : Nat) (w : World) (hl : RowsOk w w.heap.size C l) (hm2 : l.length ≤ 9223372036854775807) (h0 : cwrong (nums l) = 0) (hw : cwhole (nums l) = true) :
    Calls Try.prog 16 #[.slice C l.length d] w fun e w' => SOut w w' e (lowL (couts (nums l) (nums l).length)) 0 := by
  have HW := Lib.hid (whole_any C l d w hl hm2)
  rw [show cwholeB (nums l) = true by unfold cwholeB; rw [h0, hw]; rfl, h0] at HW
  have hok := cok_of h0
  obtain ⟨M, hM⟩ : ∃ M, M = nums l := ⟨_, rfl⟩
  obtain ⟨n, hn⟩ : ∃ n, n = l.length := ⟨_, rfl⟩
  have hMn : M.length = n := by rw [hM, hn]; exact COk.nums_len
  have hrow : Hid (∀ k (h : k < l.length), l[k].2.1.length = n ∧ M.getD k [] = l[k].2.1 ∧ (∀ y ∈ l[k].2.1, 0 ≤ y ∧ y ≤ 9) ∧ 1 ≤ csum l[k].2.1 ∧ csum l[k].2.1 ≤ 45) := fun k hk => by
    have hk' : k < (nums l).length := by rw [COk.nums_len]; exact hk
    have h3 : (nums l)[k]'hk' = l[k].2.1 := by simp [nums]
    have h1 := hok.row k hk'
    have h2 := hok.num k hk'
    have h4 := hok.sum k hk'
    rw [h3] at h2 h4
    exact ⟨by rw [← h3]; exact h1.trans (COk.nums_len.trans hn.symm), by rw [hM, nums_get hk], h2, h4⟩
  rw [← hM] at hok hw ⊢
  have hn5 := hok.le
  have hn1 := hok.pos
  rw [hMn] at hn5 hn1 ⊢
  have HTB : Hid (∀ r, r < n → 1 ≤ cdet (n - 1) (cmin M r n) ∧ cdet (n - 1) (cmin M r n) ≤ 98415000) := fun r hr => by
    have := tre_ok hok hw (r := r) (by omega)
    rw [hMn] at this; exact this
  have HCV : Hid (∀ r, r < n → cval M r = cdet (n - 1) (cmin M r n) * csum (M.getD r [])) := fun r hr => by show tre M M.length r * _ = _; rw [hMn]; rfl
  have HCB : Hid (∀ r, r < n → 1 ≤ cval M r ∧ cval M r ≤ 4428675000) := fun r hr => cval_ok hok hw (by omega)
  have HSM : Hid (∀ r, Sml (cmin M r n)) := fun r => by have := cmin_small hok r; rw [hMn] at this; exact this
  have HL := Lib.hid hl
  have HN := Lib.hid (And.intro hn.symm (And.intro hn1 hn5))
  rw [← hn] at HW ⊢
  have hm14 : ∀ k, k < 5 → (k + 1) * 8 ≤ 140737488355328 ∧ k + 1 ≤ maxLen := fun k hk => by unfold maxLen; omega
  have HM14 := Lib.hid hm14
  clear hl hok hMn hn hn5 hn1 hM h0 hw hm2 hm14
  go_enter Try.func16, Try.ntmps16
  go_wp2_with fail
  refine HW.out.mono ?_
  rintro e w1 ⟨rfl, hb1⟩
  have HB1 := Lib.hid hb1
  clear hb1
  go_wp2_with fail
  clear HW
  --LOOK1
  go_loopw [7, 28] (fun s7 s28 wx => ∃ r : Nat, r ≤ n ∧ s28 = .int .i64 r ∧ Hid (Own wx w.heap.size tN s7 ((couts M r).map (.int .i64))) ∧ Hid (Below w.heap.size w wx)) (fun _ s28 _ => n - (intOf s28).toNat)
  case atStart => exact ⟨0, Nat.zero_le _, rfl, Own.none_, HB1.out⟩
  case round =>
    obtain ⟨r, hr, rfl, hout, hb⟩ := hrel
    obtain ⟨A7, c7, rfl, hc7, hown7⟩ := hout.out.res2
    rw [List.length_map, couts_len] at hown7 hc7
    rw [List.length_map, couts_len]
    have HO7 := Lib.hid hown7
    have HC7 := Lib.hid hc7
    clear hout hown7 hc7
    by_cases hrl : r < n
    · have i1 : (r : Int) < (n : Int) := by omega
      have ur : Hid (wrap64 ((r : Int) + 1) = ((r + 1 : Nat) : Int)) := cw64 (by have := HN.out; omega)
      have HR := Lib.hid (And.intro hr hrl)
      clear hr hrl
      go_wp2_with fail
      clear i1
      obtain ⟨wo, hwo⟩ : ∃ wo : World, wo = wr := ⟨_, rfl⟩
      rw [← hwo] at hb HO7 ⊢
      clear hwo
      go_loopw [9, 32] (fun s9 s32 wx => ∃ (i : Nat) (L : List Rw), i ≤ n ∧ s32 = .int .i64 i ∧ Hid (nums L = cminP M r n i) ∧ Hid (RowsO wx wo.heap.size s9 L) ∧ Hid (Below wo.heap.size wo wx)) (fun _ s32 _ => n - (intOf s32).toNat)
      case atStart => exact ⟨0, [], Nat.zero_le _, rfl, by unfold Hid; rfl, RowsO.nil_, Below.refl _ _⟩
      case round =>
        obtain ⟨i, L, hi, rfl, hL, hro, hbi⟩ := hrel
        obtain ⟨A9, c9, rfl, hc9, hr9⟩ := hro.out.rows
        have HBW : Hid (Below w.heap.size w wr) := hb.out.trans (hbi.out.mono hb.out.size)
        have HLL : Hid (L.length = (oth i r).length) := by
          have h1 : (nums L).length = L.length := by simp [nums]
          unfold Hid; rw [← h1, hL.out, cminP_len]
        by_cases hil : i < n
        · have i2 : (i : Int) < (n : Int) := by omega
          have ui : Hid (wrap64 ((i : Int) + 1) = ((i + 1 : Nat) : Int)) := cw64 (by have := HN.out; omega)
          have HI := Lib.hid (And.intro hi hil)
          by_cases hir : i = r
          · subst hir
            have hLs : Hid (nums L = cminP M i n (i + 1)) := by unfold Hid; rw [cminP_skip]; exact hL.out
            clear hr9 hc9 hi hil
            go_wp2_with fail
            go_roundw
            case rel => exact ⟨i + 1, L, by have := HI.out; omega, by first | rfl | rw [ui.out], hLs, hro, hbi⟩
            case measure => (try rw [ui.out]); have := HI.out; simp [intOf]; omega
          · have b1 : ((i : Int) == (r : Int)) = false := by rw [beq_eq_false_iff_ne]; omega
            have b1p : ¬ (i : Int) = (r : Int) := by omega
            have hLs : Hid (nums (L ++ [((none, crow (M.getD i []) i r n, 0) : Rw)]) = cminP M r n (i + 1)) := by unfold Hid; rw [cminP_next _ hir, ← hL.out]; simp [nums]
            have hil2 : i < l.length := by have := HN.out; omega
            obtain ⟨ad, rfl, _, hcr0, hrr⟩ := HL.out.row hil2
            obtain ⟨⟨A1, z, c1⟩, hx1⟩ : ∃ x : Rw, x = l[i] := ⟨_, rfl⟩
            obtain ⟨hzl, hmt, hz9, hzs⟩ := hrow.out i hil2
            rw [← hx1] at hcr0 hrr hzl hmt hz9 hzs
            have hzl' : z.length = n := hzl
            have hcr := (HBW.out.cell (block_lt hcr0)).trans hcr0
            have hcr' : wr.cell? (ad.add i) = some (.slice A1 z.length c1) := hcr
            rw [hzl'] at hcr'
            have HCR := Lib.hid hcr'
            have HCRB := Lib.hid (block_lt hcr')
            have HZ : Hid (Seg wr wr.heap.size A1 (z.map (.int .i64))) := (Seg.below hrr.1 HBW.out).more HBW.out.size
            have HZ9 : Hid (∀ y ∈ z, 0 ≤ y ∧ y ≤ 9) := hz9
            have HZS : Hid (1 ≤ csum z ∧ csum z ≤ 45) := hzs
            have HZL := Lib.hid hzl'
            rw [show M.getD i [] = z from hmt] at hLs
            have HIR := Lib.hid hir
            clear hcr0 hrr hzl hmt hx1 hcr hzl' hi hil hil2 hz9 hzs hcr' hr9 hc9 hir
            obtain ⟨wp, hwp⟩ : ∃ wp : World, wp = wr := ⟨_, rfl⟩
            rw [← hwp] at hro hbi HBW HCR HCRB HZ ⊢
            clear hwp
            go_wp2_with fail
            clear i2 b1 b1p
            --LOOK2
            go_loopw [11, 39] (fun s11 s39 wx => ∃ j : Nat, j ≤ n ∧ s39 = .int .i64 j ∧ Hid (Own wx wp.heap.size tN s11 ((crow z i r j).map (.int .i64))) ∧ Hid (Below wp.heap.size wp wx)) (fun _ s39 _ => n - (intOf s39).toNat)
            case atStart => exact ⟨0, Nat.zero_le _, rfl, Own.none_, Below.refl _ _⟩
            case round =>
              obtain ⟨j, hj, rfl, hrw, hbj⟩ := hrel
              obtain ⟨A11, c11, rfl, hc11, hown11⟩ := hrw.out.res2
              rw [List.length_map] at hown11 hc11
              rw [List.length_map]
              have HO11 := Lib.hid hown11
              have HC11 := Lib.hid hc11
              have HCL : Hid ((crow z i r j).length ≤ j) := by unfold Hid; rw [crow_len]; exact oth_le j r
              clear hrw hown11 hc11
              by_cases hjl : j < n
              · have i3 : (j : Int) < (n : Int) := by omega
                have i4 : (i : Int) < (n : Int) := by have := HI.out; omega
                have uj : Hid (wrap64 ((j : Int) + 1) = ((j + 1 : Nat) : Int)) := cw64 (by have := HN.out; omega)
                have HJ := Lib.hid (And.intro hj hjl)
                by_cases hjr : j = r
                · subst hjr
                  have hS : Hid (Own wr wp.heap.size tN (.slice A11 (crow z i j j).length c11) ((crow z i j (j + 1)).map (.int .i64))) := by unfold Hid; rw [crow_skip]; exact HO11.out
                  clear hj hjl
                  go_wp2_with fail
                  go_roundw
                  case rel => exact ⟨j + 1, by have := HJ.out; omega, by first | rfl | rw [uj.out], hS, hbj⟩
                  case measure => (try rw [uj.out]); have := HJ.out; simp [intOf]; omega
                · have b2 : ((j : Int) == (r : Int)) = false := by rw [beq_eq_false_iff_ne]; omega
                  have b2p : ¬ (j : Int) = (r : Int) := by omega
                  have hcr := (hbj.out.cell HCRB.out).trans HCR.out
                  have HNX := Lib.hid (crow_next z (i := i) hjr)
                  have HMB := Lib.hid (HM14.out (crow z i r j).length (by have := HCL.out; have := HJ.out; have := HN.out; omega))
                  by_cases hij : i = j
                  · subst hij
                    obtain ⟨zd, rfl, _, hcz0⟩ := HZ.out.pat (k := i) (by have := HZL.out; omega)
                    have hcz := (hbj.out.cell (block_lt hcz0)).trans hcz0
                    have HKC := Lib.hid (And.intro (block_lt hcr) (block_lt hcz))
                    have hp9 := pat_nine HZ9.out i
                    have hnx := HNX.out
                    rw [if_pos rfl] at hnx
                    have HSUM : Hid (∀ u, Seg u wp.heap.size (some zd) (z.map (.int .i64)) → Calls Try.prog 46 #[.slice (some zd) n c1] u fun e w' => e = .returned (.int .i64 (csum z)) ∧ w' = u) := fun u hu => by
                      have := csum_any (some zd) z c1 wp.heap.size u hu HZ9.out (by have := HZL.out; have := HN.out; omega)
                      rw [HZL.out] at this; exact this
                    obtain ⟨x, hx⟩ : ∃ x, x = pat z i := ⟨_, rfl⟩
                    obtain ⟨s, hs⟩ : ∃ s, s = csum z := ⟨_, rfl⟩
                    rw [← hx] at hcz hp9 hnx
                    rw [← hs] at hnx HSUM HZS
                    have hwx : IntKind.i64.wrap (s - x) = s - x := IntWalk.i64_in _ (by have := HZS.out; omega)
                    have hwx2 : wrap64 (s - x) = s - x := dw64 (by have := HZS.out; omega) (by have := HZS.out; omega)
                    have HNX2 := Lib.hid hnx
                    clear hx hs hcz0 hnx hp9 hj hjl hjr HNX
                    go_wp2_with fail
                    --LOOK3
                    refine wp_region_plan [(0, 0), (1, 0), (2, 0), (3, 0), (4, 1), (6, 0), (7, 0), (8, 0), (9, 1), (10, 0), (11, 0), (12, 1), (5, 2), (13, 0), (14, 2), (15, 2), (16, 0)] (fun w' => w'.cell? (ad.add i) = some (.slice (some zd) n c1) ∧ w'.cell? (zd.add i) = some (.int .i64 x)) (by kernel_rfl) (by kernel_rfl) (fun _ d _ _ _ h => by cases d <;> exact h) ⟨hcr, hcz⟩ ?_
                    iterate 12 ((first | (refine plan0 (v := ?_) rfl rfl (by rfl) ?_ ?_) | (refine plan1 (v := ?_) rfl rfl (by rfl) ?_ ?_)); rotate_left; (first | (intro w'; go_simp; with_reducible rfl) | (intro w' hS; obtain ⟨h1, h2⟩ := hS; go_simp; with_reducible rfl)); simp only [List.setIfInBounds_toArray, List.set_cons_zero, List.set_cons_succ])
                    refine plan2 rfl rfl fun K' hK' => ?_
                    go_simp
                    refine (HSUM.out _ (HZ.out.below (below_drewN hbj.out 1))).mono ?_
                    rintro e w5 ⟨rfl, rfl⟩
                    refine hK' _ _ ⟨hcr, hcz⟩ ?_
                    clear hK' K'
                    iterate 1 ((refine plan0 (v := ?_) rfl rfl (by rfl) ?_ ?_); rotate_left; (intro w'; go_simp; with_reducible rfl); simp only [List.setIfInBounds_toArray, List.set_cons_zero, List.set_cons_succ])
                    refine plan2 rfl rfl fun K' hK' => ?_
                    go_simp
                    have HBA : Hid (Below wr.heap.size wr (wr.drew.alloc (.cells #[.int .i64 (s - x)] 3))) := (Below.drew (Below.refl _ _)).alloc (Nat.le_refl _) _
                    refine hK' _ _ ⟨(HBA.out.cell HKC.out.1).trans hcr, (HBA.out.cell HKC.out.2).trans hcz⟩ ?_
                    clear hK' K'
                    refine plan2 rfl rfl fun K' hK' => ?_
                    have HOA := Lib.hid (Own.below HO11.out HBA.out (Nat.le_refl _))
                    refine wp_push2 _ _ _ elem_ints rfl wp.heap.size (.slice A11 (crow z i r i).length c11) _ rfl HOA.out (.int .i64 (s - x)) ⟨wr.heap.size, 0, none⟩ 1 rfl (cell_new1 _ _ _) rfl (by rw [List.length_map]; exact HMB.out.1) (by rw [List.length_map]; exact HMB.out.2) (Nat.le_trans hbj.out.size HBA.out.size) ?_
                    intro v6 w6 hown6 hg6 hv6
                    have HB6 : Hid (Below wp.heap.size wr w6) := Below.grown (HBA.out.mono hbj.out.size) hg6 (Nat.le_trans hbj.out.size HBA.out.size) HOA.out.block
                    have HO6 : Hid (Own w6 wp.heap.size tN v6 ((crow z i r (i + 1)).map (.int .i64))) := by
                      unfold Hid; rw [HNX2.out, List.map_append]; exact hown6
                    have HC6 : w6.cell? (ad.add i) = some (.slice (some zd) n c1) ∧ w6.cell? (zd.add i) = some (.int .i64 x) := by
                      have hB7 : Below wp.heap.size wp w6 := hbj.out.trans HB6.out
                      exact ⟨(hB7.cell HCRB.out).trans HCR.out, by
                        obtain ⟨zd', e', _, h7⟩ := HZ.out.pat (k := i) (by have := HZL.out; have := HI.out; omega)
                        injection e' with e'
                        subst e'
                        have h8 : wp.cell? (zd.add i) = some (.int .i64 x) := by rw [← hbj.out.cell (block_lt h7)]; exact hcz
                        exact (hB7.cell (block_lt h7)).trans h8⟩
                    clear hown6 hg6 hv6
                    refine hK' _ _ HC6 ?_
                    clear hK' K' HC6 hcr hcz
                    iterate 1 ((refine plan0 (v := ?_) rfl rfl (by rfl) ?_ ?_); rotate_left; (intro w'; go_simp; with_reducible rfl))
                    refine planEnd ?_
                    clear i3 i4 b2 b2p hwx hwx2
                    go_wp2_with fail
                    go_roundw
                    case rel => exact ⟨i + 1, by have := HJ.out; omega, by first | rfl | rw [uj.out], HO6, hbj.out.trans HB6.out⟩
                    case measure => (try rw [uj.out]); have := HJ.out; simp [intOf]; omega
                  · have b3 : ((i : Int) == (j : Int)) = false := by rw [beq_eq_false_iff_ne]; omega
                    have b3p : ¬ (i : Int) = (j : Int) := by omega
                    obtain ⟨zd, rfl, _, hcz0⟩ := HZ.out.pat (k := j) (by have := HZL.out; omega)
                    have hcz := (hbj.out.cell (block_lt hcz0)).trans hcz0
                    have hp9 := pat_nine HZ9.out j
                    have hnx := HNX.out
                    rw [if_neg hij] at hnx
                    obtain ⟨x, hx⟩ : ∃ x, x = pat z j := ⟨_, rfl⟩
                    rw [← hx] at hcz hp9 hnx
                    have hwx2 : wrap64 (-x) = -x := dw64 (by omega) (by omega)
                    have HNX2 := Lib.hid hnx
                    have HSZ : Hid (wp.heap.size ≤ (wr.alloc (.cells #[.int .i64 (-x)] 3)).heap.size) := by have := hbj.out.size; unfold Hid; simp; omega
                    clear hx hcz0 hnx hp9 hj hjl hjr hij HNX
                    go_wp2_with (first
                      | (at_builtin; go_must (refine wpList_push _ rfl _ _ 36 tN 8 elem_ints rfl wp.heap.size _ _ rfl (Own.alloc' HO11.out _) (.int .i64 (-x)) ⟨wr.heap.size, 0, none⟩ 1 rfl (cell_new1 _ _ _) rfl (by rw [List.length_map]; exact HMB.out.1) (by rw [List.length_map]; exact HMB.out.2) HSZ.out ?_); intro v6 w6 hown6 hb6; have HO6 := Lib.hid hown6; have HB6 := Lib.hid hb6; clear hown6 hb6)
                      | fail)
                    have HO7b : Hid (Own w6 wp.heap.size tN v6 ((crow z i r (j + 1)).map (.int .i64))) := by
                      unfold Hid; rw [HNX2.out, List.map_append]; exact HO6.out
                    have HB7 : Hid (Below wp.heap.size wr w6) := ((Below.refl _ _).alloc hbj.out.size _).trans HB6.out
                    clear hcr hcz
                    go_roundw
                    case rel => exact ⟨j + 1, by have := HJ.out; omega, by first | rfl | rw [uj.out], HO7b, hbj.out.trans HB7.out⟩
                    case measure => (try rw [uj.out]); have := HJ.out; simp [intOf]; omega
              · obtain rfl : j = n := by omega
                have HRW2 : Hid (RowsO wr wo.heap.size (.slice A9 L.length c9) L) := hro.out.below hbj.out
                have HRA := Lib.hid (HRW2.out.below (w' := wr.alloc (.cells #[.slice A11 (crow z i r j).length c11] tL)) ((Below.refl _ _).alloc (Nat.le_refl _) _))
                have HLB : Hid ((L.length + 1) * 24 ≤ 140737488355328 ∧ L.length + 1 ≤ maxLen) := by
                  have h1 := HLL.out; have h2 := oth_le i r; have h3 := HI.out; have h4 := HN.out
                  unfold Hid maxLen; omega
                have HSZ : Hid (wo.heap.size ≤ (wr.alloc (.cells #[.slice A11 (crow z i r j).length c11] tL)).heap.size) := by have := hbj.out.size; have := hbi.out.size; unfold Hid; simp; omega
                clear hj hjl
                go_wp2_with (first
                  | (at_builtin; go_must (refine wpList_push2 _ rfl _ _ elem_rows rfl wo.heap.size (.slice A9 L.length c9) _ rfl HRA.out.1 (.slice A11 (crow z i r j).length c11) ⟨wr.heap.size, 0, none⟩ 1 rfl (cell_new1 _ _ _) rfl (by rw [List.length_map]; exact HLB.out.1) (by rw [List.length_map]; exact HLB.out.2) HSZ.out ?_); intro v6 w6 hown6 hg6 hv6; have HO6 := Lib.hid hown6; have HG6 := Lib.hid hg6; have HV6 := Lib.hid hv6; clear hown6 hg6 hv6)
                  | fail)
                have HB6 : Hid (Below wo.heap.size wr w6) := Below.grown ((Below.refl _ _).alloc (Nat.le_trans hbi.out.size hbj.out.size) _) HG6.out HSZ.out HRA.out.1.block
                have HWF : Hid (∀ y ∈ crow z i r j, (Lit.int .i64 y).wf = true) := fun y hy => by
                  obtain ⟨q, hq, rfl⟩ := List.mem_map.1 hy
                  have h1 := pat_nine HZ9.out q
                  have h2 := pat_nine HZ9.out i
                  have h3 := HZS.out
                  refine wf_small ?_ ?_ <;> split <;> omega
                have HR6 : Hid (RowsO w6 wo.heap.size v6 (L ++ [((A11, crow z i r j, c11) : Rw)])) := by
                  refine HRA.out.push (x := (A11, crow z i r j, c11)) ⟨?_, HC11.out, HO11.out.capN, HWF.out⟩ (fun _ => ?_) HO6.out HG6.out ?_ HV6.out
                  · exact (HO11.out.seg.alloc (Nat.le_refl _) _).more (by simp)
                  · exact HO11.out.apart fun g hg => hro.out.1.lt g hg
                  · exact ((Below.refl wo.heap.size (wr.alloc (.cells #[.slice A11 (crow z i r j).length c11] tL))).grown HG6.out HSZ.out HRA.out.1.block).size
                go_roundw
                case rel => exact ⟨i + 1, L ++ [((A11, crow z i r j, c11) : Rw)], by have := HI.out; omega, by first | rfl | rw [ui.out], by unfold Hid; rw [← hLs.out]; simp [nums], HR6, hbi.out.trans ((hbj.out.mono hbi.out.size).trans HB6.out)⟩
                case measure => (try rw [ui.out]); have := HI.out; simp [intOf]; omega
        · obtain rfl : i = n := by omega
          have hLM : Hid (nums L = cmin M r i) := hL.out
          have hrl : Hid (r < i) := HR.out.2
          have hll : L.length = i - 1 := by rw [HLL.out]; exact oth_small i HN.out.2.2 r hrl.out
          have HDET : Hid (∀ u, RowsOk u u.heap.size A9 L → Calls Try.prog 47 #[.slice A9 L.length c9] u fun e w' => e = .returned (.int .i64 (cdet (i - 1) (cmin M r i))) ∧ Below u.heap.size u w') := fun u hu => by
            have := det_any (i - 1) A9 L c9 u hu hc9 hll (by have := HN.out; omega) (fun x hx => by
              have h3 : x.2.1 ∈ nums L := List.mem_map.2 ⟨x, hx, rfl⟩
              rw [hLM.out] at h3
              obtain ⟨q, hq, e⟩ := List.mem_map.1 h3
              rw [← e, crow_len]
              exact oth_small i HN.out.2.2 r hrl.out) (by rw [hLM.out]; exact HSM.out r)
            rw [hLM.out] at this
            exact this
          have hr2 : r < l.length := by have := HN.out; have := hrl.out; omega
          obtain ⟨ad, rfl, _, hcr0, hrr⟩ := HL.out.row hr2
          obtain ⟨⟨A1, z, c1⟩, hx1⟩ : ∃ x : Rw, x = l[r] := ⟨_, rfl⟩
          obtain ⟨hzl, hmt, hz9, hzs⟩ := hrow.out r hr2
          rw [← hx1] at hcr0 hrr hzl hmt hz9 hzs
          have hzl' : z.length = i := hzl
          have hcr := (HBW.out.cell (block_lt hcr0)).trans hcr0
          have hcr' : wr.cell? (ad.add r) = some (.slice A1 z.length c1) := hcr
          rw [hzl'] at hcr'
          have HCRB := Lib.hid (block_lt hcr')
          have HZ : Hid (Seg wr wr.heap.size A1 (z.map (.int .i64))) := (Seg.below hrr.1 HBW.out).more HBW.out.size
          have HSUM : Hid (∀ u, Seg u wr.heap.size A1 (z.map (.int .i64)) → Calls Try.prog 46 #[.slice A1 i c1] u fun e w' => e = .returned (.int .i64 (csum z)) ∧ w' = u) := fun u hu => by
            have := csum_any A1 z c1 wr.heap.size u hu hz9 (by have := HN.out; omega)
            rw [hzl'] at this; exact this
          have hcv := HCV.out r hrl.out
          rw [show M.getD r [] = z from hmt] at hcv
          have hcb := HCB.out r hrl.out
          have i3 : (r : Int) < (i : Int) := by have := hrl.out; omega
          obtain ⟨D, hD⟩ : ∃ D, D = cdet (i - 1) (cmin M r i) := ⟨_, rfl⟩
          obtain ⟨s, hs⟩ : ∃ s, s = csum z := ⟨_, rfl⟩
          obtain ⟨cv, hcvv⟩ : ∃ cv, cv = cval M r := ⟨_, rfl⟩
          rw [← hD] at HDET hcv
          rw [← hs] at HSUM hcv
          rw [← hcvv] at hcv hcb
          have hwx : IntKind.i64.wrap (D * s) = cv := by rw [← hcv]; exact IntWalk.i64_in _ (by omega)
          have hwx2 : wrap64 (D * s) = cv := by rw [← hcv]; exact dw64 (by omega) (by omega)
          have HCVV := Lib.hid hcvv
          have HR9 := Lib.hid hr9
          have HMB := Lib.hid (HM14.out r (by have := hrl.out; have := HN.out; omega))
          clear hD hs hcvv hcv hcb hcr0 hrr hzl hmt hz9 hzs hx1 hzl' hcr hr2 hr9 hc9 hll hi hil hL hro
          go_wp2_with fail
          --LOOK5
          refine wp_region_plan [(0, 0), (1, 0), (3, 0), (4, 0), (5, 0), (6, 1), (2, 2), (7, 2), (8, 0), (9, 2), (10, 2), (11, 0)] (fun w' => w'.cell? (ad.add r) = some (.slice A1 i c1)) (by kernel_rfl) (by kernel_rfl) (fun _ d _ _ _ h => by cases d <;> exact h) hcr' ?_
          iterate 6 ((first | (refine plan0 (v := ?_) rfl rfl (by rfl) ?_ ?_) | (refine plan1 (v := ?_) rfl rfl (by rfl) ?_ ?_)); rotate_left; (first | (intro w'; go_simp; with_reducible rfl) | (intro w' hS; go_simp; with_reducible rfl)); simp only [List.setIfInBounds_toArray, List.set_cons_zero, List.set_cons_succ])
          refine plan2 rfl rfl fun K' hK' => ?_
          go_simp
          refine (HDET.out _ (HR9.out.drewN 1)).mono ?_
          rintro e w5 ⟨rfl, hb5⟩
          have HB5 : Hid (Below wr.heap.size wr w5) := (Below.drew (Below.refl _ _)).trans hb5
          refine hK' _ _ ((HB5.out.cell HCRB.out).trans hcr') ?_
          clear hK' K' hb5
          refine plan2 rfl rfl fun K' hK' => ?_
          go_simp
          refine (HSUM.out _ (HZ.out.below HB5.out)).mono ?_
          rintro e w6 ⟨rfl, rfl⟩
          refine hK' _ _ ((HB5.out.cell HCRB.out).trans hcr') ?_
          clear hK' K'
          iterate 1 ((refine plan0 (v := ?_) rfl rfl (by rfl) ?_ ?_); rotate_left; (intro w'; go_simp; with_reducible rfl); simp only [List.setIfInBounds_toArray, List.set_cons_zero, List.set_cons_succ])
          refine plan2 rfl rfl fun K' hK' => ?_
          go_simp
          have HBA : Hid (Below wr.heap.size wr (w6.alloc (.cells #[.int .i64 cv] 3))) := HB5.out.alloc HB5.out.size _
          refine hK' _ _ ((HBA.out.cell HCRB.out).trans hcr') ?_
          clear hK' K'
          refine plan2 rfl rfl fun K' hK' => ?_
          have HOB : Hid (Below wo.heap.size wo (w6.alloc (.cells #[.int .i64 cv] 3))) := hbi.out.trans (HBA.out.mono hbi.out.size)
          have HOA := Lib.hid (Own.below HO7.out HOB.out (Nat.le_refl _))
          have hszz : w.heap.size ≤ (w6.alloc (.cells #[.int .i64 cv] 3)).heap.size := Nat.le_trans hb.out.size HOB.out.size
          refine wp_push2 _ _ _ elem_ints rfl w.heap.size (.slice A7 r c7) _ rfl HOA.out (.int .i64 cv) ⟨w6.heap.size, 0, none⟩ 1 rfl (cell_new1 _ _ _) rfl (by rw [List.length_map, couts_len]; exact HMB.out.1) (by rw [List.length_map, couts_len]; exact HMB.out.2) hszz ?_
          intro v7 w7 hown7 hg7 hv7
          have HB7 : Hid (Below w.heap.size w w7) := Below.grown (hb.out.trans (HOB.out.mono hb.out.size)) hg7 hszz HOA.out.block
          have HO8 : Hid (Own w7 w.heap.size tN v7 ((couts M (r + 1)).map (.int .i64))) := by
            unfold Hid; rw [couts_next, List.map_append, ← HCVV.out]; exact hown7
          have HC7b : w7.cell? (ad.add r) = some (.slice A1 i c1) := by
            obtain ⟨ad2, e2, h2, h3, _⟩ := HL.out.row (k := r) (by have := HN.out; have := hrl.out; omega)
            injection e2 with e2
            subst e2
            have h4 : w.cell? (ad.add r) = some (.slice A1 i c1) := by rw [← HBW.out.cell (block_lt h3)]; exact hcr'
            exact (HB7.out.cell (block_lt h3)).trans h4
          clear hown7 hg7 hv7
          refine hK' _ _ HC7b ?_
          clear hK' K' HC7b hcr'
          iterate 1 ((refine plan0 (v := ?_) rfl rfl (by rfl) ?_ ?_); rotate_left; (intro w'; go_simp; with_reducible rfl))
          refine planEnd ?_
          clear i3 hwx hwx2
          go_wp2_with fail
          go_roundw
          case rel => exact ⟨r + 1, by have := HR.out; omega, by first | rfl | rw [ur.out], HO8, HB7⟩
          case measure => (try rw [ur.out]); have := HR.out; simp [intOf]; omega
    · obtain rfl : r = n := by omega
      have HCO : Hid (∀ x ∈ couts M r, 0 ≤ x ∧ x ≤ 9223372036854775807) := fun x hx => by
        obtain ⟨q, hq, rfl⟩ := List.mem_map.1 hx
        have := HCB.out q (List.mem_range.1 hq)
        omega
      have HO7c : Hid (Own wr w.heap.size tN (.slice A7 (couts M r).length c7) ((couts M r).map (.int .i64))) := by unfold Hid; rw [couts_len]; exact HO7.out
      have HLOW := Lib.hid (clow_any A7 (couts M r) c7 w.heap.size wr HO7c.out hb.out.size HCO.out (by rw [couts_len]; have := HN.out; omega))
      rw [couts_len] at HLOW
      clear hr hrl
      go_wp2_with fail
      refine HLOW.out.mono ?_
      rintro e w5 ⟨rfl, ho5, hb5⟩
      have HO5 := Lib.hid ho5
      have HB5 := Lib.hid hb5
      clear ho5 hb5
      go_wp2_with fail
      go_ret2
      have HL5 : (lowL (couts M r)).length = r := by rw [lowL_len, couts_len]
      exact ⟨A7, c7, by rw [HL5]; rfl, by rw [HL5]; have := HC7.out; omega, HO5.out.seg, hb.out.trans HB5.out⟩
end Go.Proofs.Ytkffakekakhgdaa
