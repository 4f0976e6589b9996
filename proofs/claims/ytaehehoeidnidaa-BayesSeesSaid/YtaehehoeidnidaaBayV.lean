/- The reference's USee, walked. No condition but the lists' own size. -/
import Derived.Test.YtaehehoeidnidaaBayU
import Derived.Test.YtaehehoeidnidaaBayS
import Derived.Test.YtaehehoeidnidaaBigY
namespace Go.Proofs.Ytaehehoeidnidaa
open Go.ChangeShapes Go.WideShapes Go.ChangeAt Go.RowKit
set_option linter.unusedVariables false

abbrev tIP : TypeId := 59
theorem tIP_ne : tIP ≠ tU := by decide
theorem tIP_ne2 : tIP ≠ tI := by decide
theorem elem_iptr : Elem1 Try.prog 127 tIP 8 := elem_of (z := .pointer none) Try.underlying127 (by kernel_rfl) rfl
/-- A row of pointers to whole numbers that the call makes. -/
def IRowO (w : World) (base : Nat) (v : Value) (l : List Int) : Prop :=
  ∃ gs : List Nat, gs.length = l.length ∧ Own w base tIP v (gs.map ptrV) ∧ ∀ i, i < l.length → IntZ w (gs.getD i 0) 0 (pat l i) ∧ IntBlk w (gs.getD i 0)
theorem IRowO.below {w w' : World} {base : Nat} {v : Value} {l : List Int} (h : IRowO w base v l) (hb : Below w.heap.size w w') : IRowO w' base v l := by
  obtain ⟨gs, h1, h2, h3⟩ := h
  exact ⟨gs, h1, Own.below h2 hb (Nat.le_refl _), fun i hi => ⟨(h3 i hi).1.below hb, (h3 i hi).2.below hb⟩⟩
theorem IRowO.nil_ {w : World} {base : Nat} : IRowO w base (.slice none 0 0) [] := ⟨[], rfl, Own.none_, fun i hi => absurd hi (Nat.not_lt_zero _)⟩
theorem IRowO.open_ {w : World} {base : Nat} {v : Value} {l : List Int} (h : IRowO w base v l) : ∃ (A : Option Addr) (c : Nat) (gs : List Nat), v = .slice A l.length c ∧ l.length ≤ c ∧ gs.length = l.length ∧ Own w base tIP (.slice A l.length c) (gs.map ptrV) ∧ ∀ i, i < l.length → IntZ w (gs.getD i 0) 0 (pat l i) ∧ IntBlk w (gs.getD i 0) := by
  obtain ⟨gs, h1, h2, h3⟩ := h
  obtain ⟨A, c, e, hc, h4⟩ := h2.res2
  rw [List.length_map, h1] at e hc h4
  exact ⟨A, c, gs, e, hc, h1, h4, h3⟩
theorem pat_snoc_lt {l : List Int} {x : Int} {i : Nat} (h : i < l.length) : pat (l ++ [x]) i = pat l i := by
  rw [pat_get (by simp; omega), pat_get h, List.getElem_append_left h]
theorem pat_snoc_last (l : List Int) (x : Int) : pat (l ++ [x]) l.length = x := by
  rw [pat_get (by simp)]; simp
theorem IRowO.push {w w' : World} {base g : Nat} {v v' : Value} {l : List Int} {gs : List Nat} {x : Int} (h1 : gs.length = l.length) (h2 : Own w base tIP v (gs.map ptrV)) (h3 : ∀ i, i < l.length → IntZ w (gs.getD i 0) 0 (pat l i) ∧ IntBlk w (gs.getD i 0))
    (hx : IntZ w g 0 x) (hg : IntBlk w g) (ho : Own w' base tIP v' (gs.map ptrV ++ [ptrV g])) (hb : w.grownBy w' v.ownBlock) : IRowO w' base v' (l ++ [x]) := by
  refine ⟨gs ++ [g], by simp [h1], by simpa using ho, fun i hi => ?_⟩
  by_cases hl : i < l.length
  · have e : (gs ++ [g]).getD i 0 = gs.getD i 0 := by simp [List.getD, List.getElem?_append_left (show i < gs.length by omega)]
    rw [e, pat_snoc_lt hl]
    exact IntZ.push (h3 i hl).1 (h3 i hl).2 h2 tIP_ne tIP_ne2 hb
  · have e : i = l.length := by simp at hi; omega
    subst e
    have e2 : (gs ++ [g]).getD l.length 0 = g := by rw [← h1]; simp [List.getD]
    rw [e2, pat_snoc_last]
    exact IntZ.push hx hg h2 tIP_ne tIP_ne2 hb
theorem IRowO.row {w : World} {base : Nat} {A : Option Addr} {c : Nat} {l : List Int} {gs : List Nat} (h1 : gs.length = l.length) (h2 : Own w base tIP (.slice A l.length c) (gs.map ptrV)) (h3 : ∀ i, i < l.length → IntZ w (gs.getD i 0) 0 (pat l i) ∧ IntBlk w (gs.getD i 0)) : IRow w w.heap.size A gs l :=
  ⟨h1, h2.seg, fun i hi => (h3 i hi).1⟩
theorem bone_le {p : Int} {r : List Int} (hp : 0 ≤ p ∧ p ≤ 1000) (hr : ∀ t, 0 ≤ pat r t ∧ pat r t ≤ 9) (seen : List Int) : 0 ≤ bone p r seen ∧ bone p r seen ≤ 1000 * 9 ^ seen.length := by
  refine snoc_ind (P := fun seen => 0 ≤ bone p r seen ∧ bone p r seen ≤ 1000 * 9 ^ seen.length) (by simpa [bone] using hp) (fun l s ih => ?_) seen
  rw [bone_snoc, List.length_append, List.length_singleton, Int.pow_succ, ← Int.mul_assoc]
  obtain ⟨h1, h2⟩ := ih
  obtain ⟨h3, h4⟩ := hr s.toNat
  exact ⟨Int.mul_nonneg h1 h3, Int.mul_le_mul h2 h4 h3 (by omega)⟩
theorem bok_pat {prior : List Int} {M : List (List Int)} (h : BOk prior M) {k : Nat} (hk : k < M.length) (t : Nat) : 0 ≤ pat M[k] t ∧ pat M[k] t ≤ 9 := by
  by_cases hj : t < M[k].length
  · rw [pat_get hj]; exact h.num k hk _ (List.getElem_mem hj)
  · have : pat M[k] t = 0 := by unfold pat; simp [List.getD, show M[k].length ≤ t by omega]
    rw [this]; decide
theorem bone_small {prior : List Int} {M : List (List Int)} (h : BOk prior M) {k : Nat} (hk : k < M.length) (seen : List Int) (hs : seen.length ≤ 12) : 0 ≤ bone (pat prior k) M[k] seen ∧ bone (pat prior k) M[k] seen ≤ 282429536481000 := by
  have h1 := bone_le (h.p k (by have := h.len; omega)) (bok_pat h hk) seen
  have h2 := pow9 hs
  omega
set_option maxRecDepth 20000 in
set_option maxHeartbeats 8000000 in
theorem usee_any (A C D : Option Addr) (prior : List Int) (l : List Rw) (seen : List Int) (c d f : Nat) (w : World) (hp : Seg w w.heap.size A (prior.map (.int .i64))) (hl : RowsOk w w.heap.size C l) (hs : Seg w w.heap.size D (seen.map (.int .i64)))
    (hm : prior.length ≤ 9223372036854775807) (hm2 : l.length ≤ 9223372036854775807) (hm3 : seen.length ≤ 9223372036854775807) :
    Calls Try.prog 34 #[.slice A prior.length c, .slice C l.length d, .slice D seen.length f] w fun e w' => SOut w w' e (bsee prior (nums l) seen).1 (bsee prior (nums l) seen).2 := by
  have HW := Lib.hid (uwrong_any A C prior l c d w.heap.size w hp hl hm hm2)
  by_cases hbw : bwrong prior (nums l) = 0
  · have hok := bok_of hbw
    rw [hbw] at HW
    by_cases h12 : 12 < seen.length
    · have hf : bsee prior (nums l) seen = ([], 2) := by unfold bsee; rw [if_neg (by omega), if_pos h12]
      have i1 : (12 : Int) < (seen.length : Int) := by omega
      rw [hf]
      clear hf hp hl hs hbw hok h12
      go_enter Try.func34, Try.ntmps34
      go_wp2_with fail
      refine HW.out.mono ?_
      rintro e w1 ⟨rfl, m, rfl⟩
      go_wp2_with fail
      go_ret2
      exact SOut.nil_ (below_drewN (Below.refl _ _) m)
    have i1 : ¬ (12 : Int) < (seen.length : Int) := by omega
    obtain ⟨n0, hn0⟩ : ∃ n, n = ((nums l).headD []).length := ⟨_, rfl⟩
    have HF : Hid (bsee prior (nums l) seen = if seen.any (bbad n0) then ([], 3) else (lowL (bprod prior (nums l) seen), 0)) := by unfold Hid bsee; rw [if_neg (by omega), if_neg h12, hn0]
    have hll : prior.length = l.length := by have := hok.len; simpa [nums] using this
    have hp1 := hok.pos
    have hp8 := hok.le
    have HP := Lib.hid hp
    have HS := Lib.hid hs
    have HL := Lib.hid hl
    have HOK := Lib.hid hok
    have HN0 := Lib.hid hn0
    have HSZ := Lib.hid (And.intro hll (And.intro hp1 (And.intro hp8 (Nat.le_of_not_lt h12))))
    obtain ⟨L, hL⟩ : ∃ L, L = bprod prior (nums l) seen := ⟨_, rfl⟩
    have HLL : Hid (L.length = prior.length) := by rw [hL]; exact bprod_len hok.len seen
    have HLA : Hid (∀ k (h : k < l.length), pat L k = bone (pat prior k) l[k].2.1 seen) := fun k h => by
      have h1 := bprod_at hok.len seen (k := k) (by simp [nums]; exact h)
      have e1 : (nums l)[k]'(by simp [nums]; exact h) = l[k].2.1 := by simp [nums]
      rw [hL, h1, e1]
    rw [← hL] at HF
    clear hp hl hs hbw hok h12 hn0 hll hp1 hp8 hL
    go_enter Try.func34, Try.ntmps34
    go_wp2_with fail
    refine HW.out.mono ?_
    rintro e w1 ⟨rfl, m, rfl⟩
    go_wp2_with fail
    clear i1
    go_loopw [9, 26] (fun s9 s26 wx => ∃ (k : Nat), k ≤ prior.length ∧ s26 = .int .i64 k ∧ Hid (0 < k → ∀ i, i < seen.length → 0 ≤ pat seen i ∧ pat seen i < (n0 : Int)) ∧ Hid (IRowO wx w.heap.size s9 (L.take k)) ∧ Hid (Below w.heap.size w wx)) (fun _ s26 _ => prior.length - (intOf s26).toNat)
    case atStart => exact ⟨0, Nat.zero_le _, rfl, fun h => absurd h (Nat.not_lt_zero _), IRowO.nil_, below_drewN (Below.refl _ _) m⟩
    case round =>
      obtain ⟨k, hk, rfl, hnb, ho, hb⟩ := hrel
      obtain ⟨wo, hwo⟩ : ∃ wo : World, wo = wr := ⟨_, rfl⟩
      subst hwo
      obtain ⟨A9, c9, gs, rfl, hc9, hgl, hown, hgs⟩ := ho.out.open_
      have e9 : (L.take k).length = k := by rw [List.length_take]; have := HLL.out; omega
      rw [e9]
      by_cases hkl : k < prior.length
      · have hkl2 : k < l.length := by have := HSZ.out.1; omega
        have i2 : (k : Int) < (prior.length : Int) := by omega
        have i3 : (k : Int) < (l.length : Int) := by omega
        obtain ⟨pd, rfl, _, hcp0⟩ := HP.out.pat hkl
        have hcp := (hb.out.cell (block_lt hcp0)).trans hcp0
        obtain ⟨ad, rfl, _, hcr0, hrr⟩ := HL.out.row hkl2
        obtain ⟨⟨A1, z, c1⟩, hx1⟩ : ∃ x : Rw, x = l[k] := ⟨_, rfl⟩
        have hLk := HLA.out k hkl2
        have hk2 : k < (nums l).length := by simp [nums]; exact hkl2
        have eM : (nums l)[k] = l[k].2.1 := by simp [nums]
        have hzl : l[k].2.1.length = n0 := by rw [HN0.out, ← HOK.out.row k hk2, eM]
        have HBS : Hid (∀ j, j ≤ seen.length → 0 ≤ bone (pat prior k) l[k].2.1 (seen.take j) ∧ bone (pat prior k) l[k].2.1 (seen.take j) ≤ 282429536481000) := fun j hj => by
          have := bone_small HOK.out hk2 (seen.take j) (by have := HSZ.out; rw [List.length_take]; omega)
          rwa [eM] at this
        have HPT : Hid (∀ t, 0 ≤ pat l[k].2.1 t ∧ pat l[k].2.1 t ≤ 9) := fun t => by have := bok_pat HOK.out hk2 t; rwa [eM] at this
        have hpb := HOK.out.p k hkl
        rw [← hx1] at hcr0 hrr hLk hzl HBS HPT
        have hcr : w.cell? (ad.add k) = some (.slice A1 z.length c1) := hcr0
        have hLk' : pat L k = bone (pat prior k) z seen := hLk
        have hzl' : z.length = n0 := hzl
        have HBS' : Hid (∀ j, j ≤ seen.length → 0 ≤ bone (pat prior k) z (seen.take j) ∧ bone (pat prior k) z (seen.take j) ≤ 282429536481000) := HBS
        have HPT' : Hid (∀ t, 0 ≤ pat z t ∧ pat z t ≤ 9) := HPT
        have HZS : Hid (Seg w w.heap.size A1 (z.map (.int .i64))) := hrr.1
        have HCR := Lib.hid hcr
        have HTK : Hid (L.take (k + 1) = L.take k ++ [pat L k]) := pat_take (by have := HLL.out; omega)
        obtain ⟨p, hpp⟩ : ∃ p, p = pat prior k := ⟨_, rfl⟩
        rw [← hpp] at hcp hLk' HBS' hpb
        have HLK := Lib.hid hLk'
        have HK := Lib.hid (And.intro hk hkl)
        have HZL := Lib.hid hzl'
        have uk : Hid (wrap64 ((k : Int) + 1) = ((k + 1 : Nat) : Int)) := bl64 (by have := HSZ.out; omega)
        have HNI := Lib.hid (fun u => newInt_any p u (by omega) (by omega))
        have HROW := Lib.hid (And.intro hgl (And.intro hown hgs))
        have HC9 := Lib.hid hc9
        clear hpp hcp0 hcr0 hrr hLk hzl HBS HPT hx1 hcr hLk' hzl' hk hkl hk2 eM hgl hown hgs ho hpb hc9
        go_wp2_with fail
        refine (HNI.out wo).mono ?_
        rintro e w3 ⟨rfl, hp⟩
        have P3 := Lib.hid hp
        clear hp hcp i2
        go_wp2_with fail
        --LOOK1
        go_loopw [35] (fun s35 wx => ∃ (j : Nat), j ≤ seen.length ∧ s35 = .int .i64 j ∧ Hid (∀ i, i < j → 0 ≤ pat seen i ∧ pat seen i < (n0 : Int)) ∧ Hid (IntZ wx wo.heap.size 0 (bone p z (seen.take j)) ∧ IntBlk wx wo.heap.size) ∧ Hid (Below wo.heap.size wo wx)) (fun s35 _ => seen.length - (intOf s35).toNat)
        case atStart => exact ⟨0, Nat.zero_le _, rfl, fun i hi => absurd hi (Nat.not_lt_zero _), ⟨P3.out.1, P3.out.2.1⟩, P3.out.2.2.1⟩
        case round =>
          obtain ⟨j, hj, rfl, hnj, hx, hbj⟩ := hrel
          have HBW : Hid (Below w.heap.size w wr) := hb.out.trans (hbj.out.mono hb.out.size)
          clear P3
          by_cases hjl : j < seen.length
          · have j1 : (j : Int) < (seen.length : Int) := by omega
            obtain ⟨sd, rfl, _, hcs0⟩ := HS.out.pat hjl
            have hcs := (HBW.out.cell (block_lt hcs0)).trans hcs0
            have hcr := (HBW.out.cell (block_lt HCR.out)).trans HCR.out
            by_cases hbd : pat seen j < 0 ∨ (n0 : Int) ≤ pat seen j
            · have hf : Hid (bsee prior (nums l) seen = ([], 3)) := by unfold Hid; rw [HF.out, if_pos (bad_at hjl hbd)]
              rw [← HZL.out] at hbd
              obtain ⟨x, hx2⟩ : ∃ x, x = pat seen j := ⟨_, rfl⟩
              rw [← hx2] at hcs hbd
              clear hx2 hcs0 hnj hx hnb
              rcases (by omega : x < 0 ∨ (¬ x < 0 ∧ (z.length : Int) ≤ x)) with h3 | ⟨h4, h3⟩
              all_goals
                clear hbd
                go_wp2_with fail
                go_ret2
                rw [hf.out]
                exact SOut.nil_ HBW.out
            · have HNB : Hid (∀ i, i < j + 1 → 0 ≤ pat seen i ∧ pat seen i < (n0 : Int)) := fun i hi => by
                by_cases e : i = j
                · subst e; omega
                · exact hnj.out i (by omega)
              obtain ⟨t, ht⟩ : ∃ t : Nat, pat seen j = t := ⟨(pat seen j).toNat, by omega⟩
              have ht2 : t < z.length := by have := HZL.out; omega
              obtain ⟨zd, rfl, _, hcz0⟩ := HZS.out.pat ht2
              have hcz := (HBW.out.cell (block_lt hcz0)).trans hcz0
              obtain ⟨hp1, hp2⟩ := HPT'.out t
              obtain ⟨hq1, hq2⟩ := HBS'.out j hj
              have HST : Hid (bone p z (seen.take j) * pat z t = bone p z (seen.take (j + 1))) := by unfold Hid; rw [pat_take hjl, bone_snoc, ht]; rfl
              rw [ht] at hcs
              have ht0 : ¬ (t : Int) < 0 := by omega
              have ht1 : ¬ (z.length : Int) ≤ (t : Int) := by omega
              have ht3 : (t : Int) < (z.length : Int) := by omega
              have F1 := Lib.hid (fits_64 hq1 (by omega))
              have uj : Hid (wrap64 ((j : Int) + 1) = ((j + 1 : Nat) : Int)) := bl64 (by omega)
              have HJ := Lib.hid (And.intro hj hjl)
              obtain ⟨y, hy⟩ : ∃ y, y = pat z t := ⟨_, rfl⟩
              rw [← hy] at hcz hp1 hp2 HST
              have F2 := Lib.hid (fits_64 hp1 (by omega))
              have HNY := Lib.hid (fun u => newInt_any y u (by omega) (by omega))
              clear hbd ht hcs0 hcz0 hq1 hq2 hp1 hp2 hy hnj hj hjl ht2
              go_wp2_with fail
              refine (HNY.out wr).mono ?_
              rintro e w4 ⟨rfl, hp⟩
              have P4 := Lib.hid hp
              clear hp
              go_wp2_with fail
              refine (mul_any wo.heap.size wo.heap.size 0 wr.heap.size 0 _ _ 2 w4 (hx.out.2.below P4.out.2.2.1) (hx.out.1.below P4.out.2.2.1) P4.out.1 F1.out F2.out (by decide)).mono ?_
              rintro e w5 ⟨rfl, hp⟩
              rw [HST.out] at hp
              have P5 := Lib.hid hp
              clear hp hcs hcr hcz
              go_wp2_with fail
              go_roundw
              case rel => exact ⟨j + 1, by have := HJ.out; omega, by first | rfl | rw [uj.out], HNB, ⟨P5.out.1, P5.out.2.1⟩, rb_put (rb_go hbj.out P4.out.2.2.1) P5.out.2.2 (Nat.le_refl _)⟩
              case measure => (try rw [uj.out]); have := HJ.out; simp [intOf]; omega
          · obtain rfl : j = seen.length := by omega
            have hxx : Hid (IntZ wr wo.heap.size 0 (pat L k) ∧ IntBlk wr wo.heap.size) := by
              have h := hx.out
              rw [List.take_length, ← HLK.out] at h
              exact h
            have HO2 : Hid (Own wr w.heap.size tIP (.slice A9 (L.take k).length c9) (gs.map ptrV)) := HROW.out.2.1.below hbj.out (Nat.le_refl _)
            rw [e9] at HO2
            have HGS2 : Hid (∀ i, i < (L.take k).length → IntZ wr (gs.getD i 0) 0 (pat (L.take k) i) ∧ IntBlk wr (gs.getD i 0)) := fun i hi => ⟨(HROW.out.2.2 i hi).1.below hbj.out, (HROW.out.2.2 i hi).2.below hbj.out⟩
            have HPL : Hid (((gs.map ptrV).length + 1) * 8 ≤ 140737488355328 ∧ (gs.map ptrV).length + 1 ≤ maxLen) := by
              have h1 := HROW.out.1; have h2 := HSZ.out; have h3 := HK.out
              unfold Hid maxLen; rw [List.length_map, h1, e9]; omega
            have HLT : Hid (w.heap.size ≤ (wr.alloc (.cells #[ptrV wo.heap.size] tIP)).heap.size) := by have := HBW.out.size; unfold Hid; simp; omega
            clear hj hjl hx
            go_wp2_with (first
              | (at_builtin; go_must (refine wpList_pushG _ rfl _ _ 127 tIP 8 elem_iptr rfl w.heap.size _ _ rfl (Own.alloc' HO2.out _) (ptrV wo.heap.size) ⟨wr.heap.size, 0, none⟩ 1 rfl (cell_new1 _ _ _) rfl HPL.out.1 HPL.out.2 HLT.out ?_); intro v6 w6 hown6 hgb6; have HO6 := Lib.hid hown6; have HG6 := Lib.hid hgb6; clear hown6 hgb6)
              | fail)
            have HIR : Hid (IRowO w6 w.heap.size v6 (L.take (k + 1))) := by
              unfold Hid
              rw [HTK.out]
              have h1 := HROW.out.1
              have hh := IRowO.push (w := wr.alloc (.cells #[ptrV wo.heap.size] tIP)) (w' := w6) (g := wo.heap.size) (v := .slice A9 k c9) (v' := v6) (l := L.take k) (gs := gs) (x := pat L k) h1 (Own.alloc' HO2.out _) (fun i hi => ⟨(HGS2.out i hi).1.alloc _, (HGS2.out i hi).2.alloc _⟩) (hxx.out.1.alloc _) (hxx.out.2.alloc _) HO6.out HG6.out
              exact hh
            have HB6 : Hid (Below w.heap.size w w6) := Below.grown (rb_alloc HBW.out _) HG6.out HLT.out (fun q hq => HO2.out.block q hq)
            go_roundw
            case rel => exact ⟨k + 1, by have := HK.out; omega, by first | rfl | rw [uk.out], fun _ => hnj.out, HIR, HB6⟩
            case measure => (try rw [uk.out]); have := HK.out; simp [intOf]; omega
      · obtain rfl : k = prior.length := by omega
        have e8 : L.take prior.length = L := List.take_of_length_le (by have := HLL.out; omega)
        have hf : Hid (bsee prior (nums l) seen = (lowL L, 0)) := by
          unfold Hid
          rw [HF.out, if_neg (by rw [bad_none (hnb.out (by have := HSZ.out; omega))]; exact Bool.false_ne_true)]
        rw [e8] at hgl hown hgs
        have hir := IRowO.row hgl hown hgs
        have h2l : ∀ x ∈ L, 0 ≤ x ∧ x ≤ 9223372036854775807 := fun x hx => by
          obtain ⟨q, hq, rfl⟩ := List.mem_iff_getElem.1 hx
          have hq2 : q < l.length := by have := HLL.out; have := HSZ.out.1; omega
          have hk2 : q < (nums l).length := by simp [nums]; exact hq2
          have eM : (nums l)[q] = l[q].2.1 := by simp [nums]
          have h3 := bone_small HOK.out hk2 seen HSZ.out.2.2.2
          rw [eM, ← HLA.out q hq2, pat_get hq] at h3
          omega
        have HUL := ulow_any A9 gs L c9 wo hir h2l (by have := HLL.out; have := HSZ.out; omega)
        rw [HLL.out] at HUL
        have HU := Lib.hid HUL
        have hLl : (lowL L).length = prior.length := by rw [lowL_len, HLL.out]
        have HLE := Lib.hid hLl
        clear HUL hir h2l hgl hown hgs ho hk hkl e8 hLl
        go_wp2_with fail
        --LOOK9
        refine HU.out.mono ?_
        rintro e w5 ⟨A8, c8, rfl, hc8, hs8, hb8⟩
        have H8 := Lib.hid (And.intro hc8 (And.intro hs8 hb8))
        clear hc8 hs8 hb8
        go_wp2_with fail
        go_ret2
        rw [hf.out]
        exact ⟨A8, c8, rfl, H8.out.1, H8.out.2.1, hb.out.trans (H8.out.2.2.mono hb.out.size)⟩
  · have b0 : (bwrong prior (nums l) != 0) = true := by simp [hbw]
    have hf : bsee prior (nums l) seen = ([], bwrong prior (nums l)) := if_pos hbw
    rw [hf]
    obtain ⟨z, hz⟩ : ∃ z, z = bwrong prior (nums l) := ⟨_, rfl⟩
    rw [← hz] at HW b0 hbw ⊢
    clear hf hp hl hs hz
    go_enter Try.func34, Try.ntmps34
    go_wp2_with fail
    refine HW.out.mono ?_
    rintro e w1 ⟨rfl, m, rfl⟩
    go_wp2_with fail
    go_ret2
    exact SOut.nil_ (below_drewN (Below.refl _ _) m)
end Go.Proofs.Ytaehehoeidnidaa
