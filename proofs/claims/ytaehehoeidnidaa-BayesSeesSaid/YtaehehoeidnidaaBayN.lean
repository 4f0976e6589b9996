/- Package bayes: Next, walked. No condition but the lists' own size. -/
import Derived.Test.YtaehehoeidnidaaBayS
namespace Go.Proofs.Ytaehehoeidnidaa
open Go.ChangeShapes Go.WideShapes Go.ChangeAt Go.RowKit
set_option linter.unusedVariables false

/-- Of the first k things together, at sign s. -/
def psum (p : List Int) (M : List (List Int)) (s : Nat) : Nat → Int
  | 0 => 0
  | k + 1 => psum p M s k + pat p k * pat (M.getD k []) s
def bsums (p : List Int) (M : List (List Int)) (n0 : Nat) : List Int := tab (fun s => psum p M s p.length) n0
def bnext (prior : List Int) (M : List (List Int)) (seen : List Int) : List Int × Int :=
  if (bsee prior M seen).2 ≠ 0 then ([], (bsee prior M seen).2) else (lowL (bsums (bsee prior M seen).1 M (M.headD []).length), 0)
/-- What is known where all is seen. -/
structure SOk (prior : List Int) (M : List (List Int)) (seen P : List Int) : Prop where
  ok : BOk prior M
  len : P.length = prior.length
  small : ∀ k, k < P.length → 0 ≤ pat P k ∧ pat P k ≤ 282429536481000
theorem sok_of {prior : List Int} {M : List (List Int)} {seen : List Int} (h : (bsee prior M seen).2 = 0) : SOk prior M seen (bsee prior M seen).1 := by
  unfold bsee at h ⊢
  by_cases h1 : bwrong prior M = 0
  · have hok := bok_of h1
    rw [if_neg (by omega)] at h ⊢
    by_cases h2 : 12 < seen.length
    · rw [if_pos h2] at h; cases h
    · rw [if_neg h2] at h ⊢
      by_cases h3 : seen.any (bbad (M.headD []).length) = true
      · rw [if_pos h3] at h; cases h
      · rw [if_neg h3] at h ⊢
        refine ⟨hok, by rw [lowL_len, bprod_len hok.len], fun k hk => ?_⟩
        have hk' : k < (lowL (bprod prior M seen)).length := hk
        show 0 ≤ pat (lowL (bprod prior M seen)) k ∧ pat (lowL (bprod prior M seen)) k ≤ 282429536481000
        rw [← bout_low] at hk' ⊢
        rw [pat_get hk']
        refine lowL_le (fun x hx => ?_) _ (List.getElem_mem hk')
        obtain ⟨q, hq, rfl⟩ := List.mem_iff_getElem.1 hx
        have := bout_small hok seen (by omega) (k := q) (by rw [bout_len hok.len] at hq; exact hq)
        rwa [pat_get hq] at this
  · rw [if_pos h1] at h
    exact absurd h h1
theorem getD_row {M : List (List Int)} {k : Nat} (h : k < M.length) : M.getD k [] = M[k] := by simp [List.getD, h]
theorem psum_le {prior : List Int} {M : List (List Int)} {seen P : List Int} (h : SOk prior M seen P) (s : Nat) : ∀ k, k ≤ P.length → 0 ≤ psum P M s k ∧ psum P M s k ≤ 2541865828329000 * k
  | 0, _ => by simp [psum]
  | k + 1, hk => by
    obtain ⟨h1, h2⟩ := psum_le h s k (by omega)
    obtain ⟨h3, h4⟩ := h.small k (by omega)
    have hk2 : k < M.length := by have := h.ok.len; have := h.len; omega
    have h5 : 0 ≤ pat M[k] s ∧ pat M[k] s ≤ 9 := by
      by_cases hj : s < M[k].length
      · rw [pat_get hj]; exact h.ok.num k hk2 _ (List.getElem_mem hj)
      · have : pat M[k] s = 0 := by unfold pat; simp [List.getD, show M[k].length ≤ s by omega]
        rw [this]; decide
    have h6 := mul_small h3 h4 h5.1 h5.2
    rw [psum, getD_row hk2]
    omega
theorem w64id {x : Int} (h1 : -9223372036854775808 ≤ x) (h2 : x ≤ 9223372036854775807) : wrap64 x = x := by unfold wrap64; omega
theorem upd_step {f g : Nat → Int} (s i : Nat) : updf (fun i => if i < s then g i else f i) s (g s) i = if i < s + 1 then g i else f i := by
  unfold updf
  by_cases h : i = s
  · subst h; rw [if_pos rfl, if_pos (Nat.lt_succ_self _)]
  · rw [if_neg h]
    show (if i < s then g i else f i) = _
    by_cases h2 : i < s
    · rw [if_pos h2, if_pos (by omega)]
    · rw [if_neg h2, if_neg (by omega)]
theorem own_zero (w : World) (e : TypeId) (n : Nat) (f : Nat → Int) (hn : n ≤ maxLen) (hf : ∀ i, f i = 0) : Own (w.alloc (.cells (madeCells #[.int .i64 0] n) e)) w.heap.size e (.slice (some ⟨w.heap.size, 0, none⟩) n n) ((tab f n).map (.int .i64)) := by
  have hs : (madeCells #[Value.int .i64 0] n).size = n := size_madeCells _ _
  refine ⟨by simp [tab_len], .inr ⟨w.heap.size, n, madeCells #[.int .i64 0] n, by simp [tab_len], Nat.le_refl _, Blk.new w e _, by simp [tab_len], hn, by rw [hs, Nat.mul_one], ?_⟩⟩
  rw [List.length_map, tab_len, Nat.mul_one]
  refine List.ext_getElem (by simp [tab_len, hs]) fun i h1 h2 => ?_
  have hi : i < n := by simpa [tab_len] using h2
  simp [tab, hf, madeCells, Nat.mod_one]
theorem tabz (n : Nat) (f : Nat → Int) (h : ∀ i, i < n → f i = 0) : tab f n = tab (fun _ => 0) n := tab_congr h
theorem next_bad (A C D : Option Addr) (prior : List Int) (l : List Rw) (seen : List Int) (c d f : Nat) (w : World) (hp : Seg w w.heap.size A (prior.map (.int .i64))) (hl : RowsOk w w.heap.size C l) (hs : Seg w w.heap.size D (seen.map (.int .i64)))
    (hm : prior.length ≤ 9223372036854775807) (hm2 : l.length ≤ 9223372036854775807) (hm3 : seen.length ≤ 9223372036854775807) (he : (bsee prior (nums l) seen).2 ≠ 0) :
    Calls Try.prog 35 #[.slice A prior.length c, .slice C l.length d, .slice D seen.length f] w fun e w' => e = .returned (.tuple #[.slice none 0 0, .int .i64 (bsee prior (nums l) seen).2]) ∧ Below w.heap.size w w' := by
  have HW := Lib.hid (see_any A C D prior l seen c d f w hp hl hs hm hm2 hm3)
  have b0 : ((bsee prior (nums l) seen).2 != 0) = true := by simp [he]
  generalize (bsee prior (nums l) seen).2 = z at *
  generalize (bsee prior (nums l) seen).1 = P at *
  clear hp hl hs
  go_enter Try.func35, Try.ntmps35
  go_wp2_with fail
  refine HW.out.mono ?_
  rintro e w1 ⟨A1, c1, rfl, hc1, hs1, hb⟩
  have HB := Lib.hid hb
  clear hc1 hs1 hb
  go_wp2_with fail
  go_ret2
  exact ⟨rfl, HB.out⟩
set_option maxRecDepth 20000 in
set_option maxHeartbeats 8000000 in
theorem next_ok (A C D : Option Addr) (prior : List Int) (l : List Rw) (seen : List Int) (c d f : Nat) (w : World) (hp : Seg w w.heap.size A (prior.map (.int .i64))) (hl : RowsOk w w.heap.size C l) (hs : Seg w w.heap.size D (seen.map (.int .i64)))
    (hm : prior.length ≤ 9223372036854775807) (hm2 : l.length ≤ 9223372036854775807) (hm3 : seen.length ≤ 9223372036854775807) (hz8 : RowsSz l) (he : (bsee prior (nums l) seen).2 = 0) :
    Calls Try.prog 35 #[.slice A prior.length c, .slice C l.length d, .slice D seen.length f] w fun e w' => SOut w w' e (lowL (bsums (bsee prior (nums l) seen).1 (nums l) ((nums l).headD []).length)) 0 := by
  have HW := Lib.hid (see_any A C D prior l seen c d f w hp hl hs hm hm2 hm3)
  have HSO := Lib.hid (sok_of he)
  rw [he] at HW
  generalize (bsee prior (nums l) seen).1 = P at *
  obtain ⟨n0, hn0⟩ : ∃ n, n = ((nums l).headD []).length := ⟨_, rfl⟩
  rw [← hn0]
  have hok := HSO.out.ok
  have hll : prior.length = l.length := by have := hok.len; simpa [nums] using this
  have hp1 := hok.pos
  have hp8 := hok.le
  obtain ⟨ad, rfl, had, hc0, hr0⟩ := hl.row (k := 0) (by omega)
  have hrow : Hid (∀ k (h : k < l.length), l[k].2.1.length = n0) := fun k h => by
    have := hok.row k (by simp [nums]; exact h)
    rw [hn0, ← this]; simp [nums]
  obtain ⟨⟨A0, z0, c0⟩, hx0⟩ : ∃ x : Rw, x = l[0] := ⟨_, rfl⟩
  have hz0 : z0.length = n0 := by have := hrow.out 0 (by omega); rw [← hx0] at this; exact this
  have hz8' := hz8 _ (List.getElem_mem (show 0 < l.length by omega))
  rw [← hx0] at hc0 hr0 hz8'
  have hcc : w.cell? ad = some (.slice A0 z0.length c0) := hc0
  rw [hz0] at hcc
  have hn0b : n0 ≤ 9223372036854775807 := by have h1 := hr0.2.1; have h2 := hr0.2.2.1; unfold maxLen at h2; rw [← hz0]; exact Nat.le_trans h1 h2
  have HC0 := Lib.hid hcc
  have HADB := Lib.hid had
  have HL := Lib.hid hl
  have HN0 := Lib.hid hn0b
  have HSZ := Lib.hid (And.intro hll (And.intro hp1 hp8))
  have i3 : (0 : Int) < (l.length : Int) := by omega
  have hcase : Hid (n0 * 8 ≤ 140737488355328) := by
    have h1 : z0.length ≤ c0 := hr0.2.1
    have h2 : c0 * 8 ≤ 140737488351232 := hz8'
    unfold Hid; omega
  have hmk := run_make_row' (P := Try.prog) 41 tN (.int .i64 0) 8 Try.underlying41 (by kernel_rfl) rfl .i64 .i64 n0 (by have := hcase.out; omega) (by have := hcase.out; omega)
  clear hp hl hs hok hll hp1 hp8 hc0 hr0 hx0 hz0 hcc hn0b had hn0 hz8 hz8'
  go_enter Try.func35, Try.ntmps35
  go_wp2_with fail
  refine HW.out.mono ?_
  rintro e w1 ⟨A1, c1, rfl, hc1, hs1, hb⟩
  have HB := Lib.hid hb
  have HPS := Lib.hid hs1
  have hc0 := (hb.cell (p := ad) HADB.out).trans HC0.out
  clear hc1 hs1 hb
  go_wp2_with fail
  --LOOK1
  clear hmk hc0 i3
  have HO0 : Hid (Own (w1.alloc (.cells (madeCells #[.int .i64 0] n0) tN)) w1.heap.size tN (.slice (some ⟨w1.heap.size, 0, none⟩) n0 n0) ((tab (fun s => psum P (nums l) s 0) n0).map (.int .i64))) := own_zero w1 tN n0 _ (by have := HN0.out; unfold maxLen; omega) (fun i => rfl)
  have HB0 : Hid (Below w1.heap.size w1 (w1.alloc (.cells (madeCells #[.int .i64 0] n0) tN))) := (Below.refl _ _).alloc (Nat.le_refl _) _
  go_loopw [32] (fun s32 wx => ∃ (k : Nat), k ≤ P.length ∧ s32 = .int .i64 k ∧ Hid (Own wx w1.heap.size tN (.slice (some ⟨w1.heap.size, 0, none⟩) n0 n0) ((tab (fun s => psum P (nums l) s k) n0).map (.int .i64))) ∧ Hid (Below w1.heap.size w1 wx)) (fun s32 _ => P.length - (intOf s32).toNat)
  case atStart => exact ⟨0, Nat.zero_le _, rfl, HO0, HB0⟩
  case round =>
    obtain ⟨k, hk, rfl, ho, hb⟩ := hrel
    clear HO0 HB0
    obtain ⟨wo, hwo⟩ : ∃ wo : World, wo = wr := ⟨_, rfl⟩
    subst hwo
    by_cases hkl : k < P.length
    · have hkl2 : k < l.length := by have := HSZ.out.1; have := HSO.out.len; omega
      have i1 : (k : Int) < (P.length : Int) := by omega
      have i2 : (k : Int) < (l.length : Int) := by omega
      obtain ⟨pd, rfl, _, hcp0⟩ := HPS.out.pat hkl
      have hcp := (hb.out.cell (block_lt hcp0)).trans hcp0
      have HBW : Hid (Below w.heap.size w wo) := HB.out.trans (hb.out.mono HB.out.size)
      obtain ⟨ad2, e2, _, hcr0, hrr⟩ := HL.out.row hkl2
      injection e2 with e2
      subst e2
      obtain ⟨⟨A9, z, c9⟩, hx1⟩ : ∃ x : Rw, x = l[k] := ⟨_, rfl⟩
      have hzl := hrow.out k hkl2
      have hM : (nums l).getD k [] = l[k].2.1 := by rw [getD_row (by simp [nums]; exact hkl2)]; simp [nums]
      rw [← hx1] at hcr0 hrr hzl hM
      have hzl' : z.length = n0 := hzl
      have hcr := (HBW.out.cell (block_lt hcr0)).trans hcr0
      have hcr' : wo.cell? (ad.add k) = some (.slice A9 z.length c9) := hcr
      rw [hzl'] at hcr'
      have HZS : Hid (Seg w w.heap.size A9 (z.map (.int .i64))) := hrr.1
      have HSU : Hid (∀ s, psum P (nums l) s (k + 1) = psum P (nums l) s k + pat P k * pat z s) := fun s => by rw [psum, hM]
      have HBD : Hid (∀ s, 0 ≤ psum P (nums l) s (k + 1) ∧ psum P (nums l) s (k + 1) ≤ 2541865828329000 * 8) := fun s => by
        have h1 := psum_le HSO.out s (k + 1) (by omega)
        have := HSZ.out; have := HSO.out.len; omega
      have HBD0 : Hid (∀ s, 0 ≤ psum P (nums l) s k ∧ psum P (nums l) s k ≤ 2541865828329000 * 8) := fun s => by
        have h1 := psum_le HSO.out s k (by omega)
        have := HSZ.out; have := HSO.out.len; omega
      have HZL := Lib.hid hzl'
      have HK := Lib.hid (And.intro hk hkl)
      have uk : Hid (wrap64 ((k : Int) + 1) = ((k + 1 : Nat) : Int)) := bl64 (by have := HSZ.out; have := HSO.out.len; omega)
      obtain ⟨p, hpp⟩ : ∃ p, p = pat P k := ⟨_, rfl⟩
      rw [← hpp] at hcp HSU
      clear hpp hcp0 hcr0 hcr hrr hzl hM hx1 hzl' hk hkl hkl2
      go_wp2_with fail
      clear hcp hcr' i1 i2
      --LOOK2
      go_loopw [42] (fun s42 wx => ∃ (s : Nat), s ≤ n0 ∧ s42 = .int .i64 s ∧ Hid (Own wx w1.heap.size tN (.slice (some ⟨w1.heap.size, 0, none⟩) n0 n0) ((tab (fun i => if i < s then psum P (nums l) i (k + 1) else psum P (nums l) i k) n0).map (.int .i64))) ∧ Hid (Below w1.heap.size w1 wx)) (fun s42 _ => n0 - (intOf s42).toNat)
      case atStart => exact ⟨0, Nat.zero_le _, rfl, by unfold Hid; rw [tab_congr (f := fun i => if i < 0 then psum P (nums l) i (k + 1) else psum P (nums l) i k) (g := fun s => psum P (nums l) s k) fun i _ => if_neg (Nat.not_lt_zero _)]; exact ho.out, hb⟩
      case round =>
        obtain ⟨s, hs, rfl, hos, hbs⟩ := hrel
        by_cases hsl : s < n0
        · have j1 : (s : Int) < (n0 : Int) := by omega
          obtain ⟨zd, rfl, _, hcz0⟩ := HZS.out.pat (k := s) (by have := HZL.out; omega)
          have HBX : Hid (Below w.heap.size w wr) := HB.out.trans (hbs.out.mono HB.out.size)
          have hcz := (HBX.out.cell (block_lt hcz0)).trans hcz0
          have hc := hos.out.cell (j := s) (u := .int .i64 (psum P (nums l) s k)) (by rw [List.getElem?_map, tab_get hsl]; simp)
          have hf := hos.out.frozen s
          have hst := hos.out.set s (.int .i64 (psum P (nums l) s (k + 1)))
          rw [← List.map_set, tab_set, tab_congr (g := fun i => if i < s + 1 then psum P (nums l) i (k + 1) else psum P (nums l) i k) fun i _ => upd_step s i] at hst
          have HST := Lib.hid hst
          have hsu := HSU.out s
          have hbd := HBD.out s
          have hbd0 := HBD0.out s
          obtain ⟨y, hy⟩ : ∃ y, y = psum P (nums l) s (k + 1) := ⟨_, rfl⟩
          obtain ⟨x, hx⟩ : ∃ x, x = psum P (nums l) s k := ⟨_, rfl⟩
          obtain ⟨v, hv⟩ : ∃ v, v = pat z s := ⟨_, rfl⟩
          rw [← hy, ← hx, ← hv] at hsu
          rw [← hy] at hbd HST
          rw [← hx] at hbd0 hc
          rw [← hv] at hcz
          have g1 : wrap64 (p * v) = p * v := w64id (by omega) (by omega)
          have g2 : x + p * v = y := hsu.symm
          have HS2 := Lib.hid (And.intro hs hsl)
          have us : Hid (wrap64 ((s : Int) + 1) = ((s + 1 : Nat) : Int)) := bl64 (by have := HN0.out; omega)
          have g3 : Hid (wrap64 y = y) := w64id (by omega) (by omega)
          have G3 := g3.out
          clear hst hcz0 hy hx hv hsu hbd hbd0 hs hsl
          go_wp2_with fail
          --LOOK3
          go_roundw
          case rel => exact ⟨s + 1, by have := HS2.out; omega, by first | rfl | rw [us.out], HST, hbs.out.setCell (Nat.le_refl _) _⟩
          case measure => (try rw [us.out]); have := HS2.out; simp [intOf]; omega
        · obtain rfl : s = n0 := by omega
          have hfin : Hid (Own wr w1.heap.size tN (.slice (some ⟨w1.heap.size, 0, none⟩) s s) ((tab (fun i => psum P (nums l) i (k + 1)) s).map (.int .i64))) := by
            have h := hos.out
            rw [tab_congr (f := fun i => if i < s then psum P (nums l) i (k + 1) else psum P (nums l) i k) (g := fun i => psum P (nums l) i (k + 1)) fun i hi => if_pos hi] at h
            exact h
          clear hs hsl hos
          go_wp2_with fail
          go_roundw
          case rel => exact ⟨k + 1, by have := HK.out; omega, by first | rfl | rw [uk.out], hfin, hbs⟩
          case measure => (try rw [uk.out]); have := HK.out; simp [intOf]; omega
    · obtain rfl : k = P.length := by omega
      have h2l : ∀ x ∈ bsums P (nums l) n0, 0 ≤ x ∧ x ≤ 9223372036854775807 := fun x hx => by
        obtain ⟨q, hq, rfl⟩ := List.mem_iff_getElem.1 hx
        have h1 := psum_le HSO.out q P.length (Nat.le_refl _)
        have h2 : (bsums P (nums l) n0)[q] = psum P (nums l) q P.length := by
          rw [← pat_get hq]; exact pat_tab (by unfold bsums at hq; rw [tab_len] at hq; exact hq)
        rw [h2]
        have := HSZ.out; have := HSO.out.len; omega
      have hlen : (bsums P (nums l) n0).length = n0 := by unfold bsums; rw [tab_len]
      have HLOW := low_any2 (some ⟨w1.heap.size, 0, none⟩) (bsums P (nums l) n0) n0 w1.heap.size wo (by rw [hlen]; exact ho.out) hb.out.size h2l (by rw [hlen]; exact HN0.out)
      rw [hlen] at HLOW
      have HLW := Lib.hid HLOW
      have HLE := Lib.hid hlen
      clear HLOW hlen h2l hk hkl ho
      go_wp2_with fail
      refine HLW.out.mono ?_
      rintro e w5 ⟨rfl, ho5, hb5⟩
      have HO5 := Lib.hid ho5
      have HB5 : Hid (Below w.heap.size w w5) := HB.out.trans ((hb.out.trans hb5).mono HB.out.size)
      clear ho5 hb5
      go_wp2_with fail
      go_ret2
      have e9 : (lowL (bsums P (nums l) n0)).length = n0 := by rw [lowL_len, HLE.out]
      obtain ⟨A8, c8, e7, hc8, hs8⟩ := HO5.out.res
      rw [List.length_map, e9] at e7
      rw [List.length_map] at hc8
      exact ⟨A8, c8, by rw [e7]; show _ = Ending.returned (.tuple #[.slice A8 (lowL (bsums P (nums l) n0)).length c8, _]); rw [e9]; rfl, hc8, hs8, HB5.out⟩
end Go.Proofs.Ytaehehoeidnidaa
