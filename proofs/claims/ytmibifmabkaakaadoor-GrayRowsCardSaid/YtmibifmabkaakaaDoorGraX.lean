/- Package gray's reference: Bits, XBruijn, walked. No condition. -/
import Derived.Test.YtmibifmabkaakaaDoorGraB
import Derived.Test.YtmibifmabkaakaaDoorHeld
import Derived.BigQuiet
import Derived.Deep.DeepCutAuto
namespace Go.Proofs.YtmibifmabkaakaaDoor
open Go.ChangeShapes Go.WideShapes Go.ChangeAt Go.RowKit
set_option linter.unusedVariables false

theorem bw_small {r : Nat} (h : r ≤ 4096) : wrap64 (r : Int) = (r : Int) ∧ IntKind.i64.wrap (r : Int) = (r : Int) :=
  ⟨by unfold wrap64; omega, IntWalk.i64_in _ (by omega)⟩
theorem beq_one (r : Nat) : ((r : Int) == 1) = decide (r = 1) := by
  by_cases h1 : r = 1
  · rw [h1]; rfl
  · rw [decide_eq_false h1, beq_eq_false_iff_ne]; omega
theorem yrot_lt {N y : Nat} (h : y < N) : y * 2 % N + y * 2 / N < N := by
  have hp : 0 < N := by omega
  have h5 := Nat.div_add_mod (y * 2) N
  have h7 := Nat.mod_lt (y * 2) hp
  have h4 : y * 2 / N < 2 := by rw [Nat.div_lt_iff_lt_mul hp]; omega
  obtain ⟨q, hq⟩ : ∃ q, q = y * 2 / N := ⟨_, rfl⟩
  obtain ⟨p, hpp⟩ : ∃ p, p = y * 2 % N := ⟨_, rfl⟩
  rw [← hq, ← hpp] at h5
  rw [← hq] at h4
  rw [← hpp] at h7
  rw [← hq, ← hpp]
  clear hq hpp
  rcases (by omega : q = 0 ∨ q = 1) with rfl | rfl
  · omega
  · rw [Nat.mul_one] at h5; omega
theorem bdiv2 (x k : Nat) : x / 2 ^ k / 2 = x / 2 ^ (k + 1) := by rw [Nat.div_div_eq_div_mul, ← Nat.pow_succ]
set_option maxRecDepth 20000 in
set_option maxHeartbeats 4000000 in
theorem bits_any (x n : Nat) (w : World) (hx : x ≤ 1024) (hn : n ≤ 10) :
    Calls Tryd.prog 86 #[.int .i64 x, .int .i64 n] w fun e w' => e = .returned (.slice (some ⟨w.heap.size, 0, none⟩) n n) ∧ Seg w' w'.heap.size (some ⟨w.heap.size, 0, none⟩) ((bitsL x n).map .bool) ∧ Below w.heap.size w w' := by
  have HN := Lib.hid (And.intro hx hn)
  have hmk := run_make_row' (P := Tryd.prog) 40 4 (.bool false) 1 Tryd.underlying40 (by kernel_rfl) rfl .i64 .i64 n (by omega) (by omega)
  have HR0 := Lib.hid (World.rowIs_made w (.bool false) n tBl)
  have HB0 : Hid (Below w.heap.size w (w.alloc (.cells (madeCells #[.bool false] n) tBl))) := (Below.refl _ _).alloc (Nat.le_refl _) _
  have HW1 : Hid (wrap64 ((n : Int) - 1) = (n : Int) - 1) := by unfold Hid wrap64; omega
  clear hx hn
  go_enter Tryd.func86, Tryd.ntmps86
  go_wp2_with fail
  clear hmk
  go_loopw [0, 6] (fun s0 s6 wx => ∃ k : Nat, k ≤ n ∧ s6 = .int .i64 ((n : Int) - 1 - k) ∧ s0 = .int .i64 ((x / 2 ^ k : Nat) : Int) ∧ Hid (wx.rowIs w.heap.size tBl n (fun i => .bool (if n ≤ i + k then decide (x / 2 ^ (n - 1 - i) % 2 = 1) else false))) ∧ Hid (Below w.heap.size w wx)) (fun _ s6 _ => (intOf s6 + 1).toNat)
  case atStart => exact ⟨0, Nat.zero_le _, by rw [HW1.out]; simp, by simp, HR0.out.congr (fun i hi => by rw [if_neg (by omega)]), HB0.out⟩
  case round =>
    clear HR0 HB0
    obtain ⟨k, hk, rfl, rfl, hrow, hb⟩ := hrel
    by_cases hkl : k < n
    · obtain ⟨i, hi⟩ : ∃ i : Nat, i = n - 1 - k := ⟨_, rfl⟩
      have ei : (n : Int) - 1 - k = (i : Int) := by omega
      rw [ei]
      have i1 : (0 : Int) ≤ (i : Int) := by omega
      have i2 : (i : Int) < (n : Int) := by omega
      have hci := hrow.out.cell (i := i) (by omega)
      have hfi := hrow.out.frozen i
      have hst := bdiv2 x k
      have hle : x / 2 ^ k ≤ 1024 := Nat.le_trans (Nat.div_le_self _ _) HN.out.1
      have HIK : Hid (i + 1 + k = n) := by unfold Hid; omega
      have HK := Lib.hid (And.intro hk hkl)
      obtain ⟨y, hy⟩ : ∃ y, y = x / 2 ^ k := ⟨_, rfl⟩
      rw [← hy] at hst hle ⊢
      have HST := Lib.hid hst
      have HY := Lib.hid hy
      clear hst hy
      have hm : Int.tmod (y : Int) 2 = ((y % 2 : Nat) : Int) := bmod (b := 2) (by decide)
      have hd : Int.tdiv (y : Int) 2 = ((y / 2 : Nat) : Int) := bdiv (b := 2)
      have hr2 : y % 2 ≤ 4096 := by have := Nat.mod_lt y (show 0 < 2 by decide); omega
      have hq2 : y / 2 ≤ 4096 := by have := Nat.div_le_self y 2; omega
      have HYQ : Hid (y / 2 = y / 2 ∧ y % 2 = y % 2) := ⟨rfl, rfl⟩
      obtain ⟨r, hr⟩ : ∃ r, r = y % 2 := ⟨_, rfl⟩
      obtain ⟨q, hq⟩ : ∃ q, q = y / 2 := ⟨_, rfl⟩
      rw [← hr] at hm hr2
      rw [← hq] at hd hq2
      have HYR : Hid (y = x / 2 ^ k ∧ r = y % 2 ∧ q = y / 2) := ⟨HY.out, hr, hq⟩
      clear hr hq HYQ
      have hwi : Hid (wrap64 ((i : Int) - 1) = (i : Int) - 1) := by clear hm hd hr2 hq2 hle; have := HN.out.2; unfold Hid wrap64; omega
      obtain ⟨hwm, hwm2⟩ := bw_small hr2
      obtain ⟨hwd, hwd2⟩ := bw_small hq2
      obtain ⟨bb, hbb⟩ : ∃ bb : Bool, bb = decide (r = 1) := ⟨_, rfl⟩
      have hbt : ((r : Int) == 1) = bb := by
        rw [hbb]
        exact beq_one r
      have HBB := Lib.hid hbb
      clear hle hr2 hq2 hbb ei hi hk hkl
      go_wp2_with fail
      clear hm hd hwm hwm2 hwd hwd2 hbt
      go_roundw
      case rel =>
        have h1 := HIK.out
        have h2 := HK.out
        have h3 := HYR.out
        refine ⟨k + 1, by omega, by (try rw [hwi.out]); congr 1; omega, by rw [← HST.out, ← h3.2.2], (hrow.out.set i (.bool bb)).congr (fun j hj => ?_), hb.out.setCell (Nat.le_refl _) _⟩
        by_cases e : j = i
        · subst e
          rw [if_pos rfl, if_pos (by omega), HBB.out, h3.2.1, h3.1, show n - 1 - j = k by omega]
        · rw [if_neg e]
          by_cases e2 : n ≤ j + k
          · rw [if_pos e2, if_pos (by omega)]
          · rw [if_neg e2, if_neg (by omega)]
      case measure => (try rw [hwi.out]); have := HIK.out; have := HK.out; simp [intOf]
    · obtain rfl : k = n := by omega
      have i1 : ¬ (0 : Int) ≤ (k : Int) - 1 - k := by omega
      have HRF : Hid (wr.rowIs w.heap.size tBl k (fun i => .bool (decide (x / 2 ^ (k - 1 - i) % 2 = 1)))) := hrow.out.congr (fun i hi => by rw [if_pos (by omega)])
      clear hrow hk hkl
      go_wp2_with fail
      go_ret
      exact ⟨rfl, rowIs_btab HRF.out (Nat.le_refl _), hb.out⟩
theorem xst_le (n x : Nat) (hx : x < 2 ^ n) (hn : 1 ≤ n) : ∀ k, k < n → (xst n x k).2.2 < 2 ^ n ∧ 1 ≤ (xst n x k).2.1 ∧ (xst n x k).2.1 ≤ n
  | 0, _ => ⟨hx, hn, Nat.le_refl _⟩
  | k + 1, hk => by
    obtain ⟨h1, h2, h3⟩ := xst_le n x hx hn k (by omega)
    refine ⟨?_, ?_, ?_⟩
    · exact yrot_lt h1
    · show 1 ≤ (if yrot n (xst n x k).2.2 = x ∧ (xst n x k).2.1 = n then k + 1 else (xst n x k).2.1)
      split <;> omega
    · show (if yrot n (xst n x k).2.2 = x ∧ (xst n x k).2.1 = n then k + 1 else (xst n x k).2.1) ≤ n
      split <;> omega
theorem xb_arith {N y z : Nat} (h1 : 2 ≤ N) (h2 : N ≤ 1024) (hy : y < N) (hz : z = y * 2 % N + y * 2 / N) (hzN : z < N) : ∃ y2 p q : Nat, wrap64 ((y : Int) * 2) = (y2 : Int) ∧ IntKind.i64.wrap ((y : Int) * 2) = (y2 : Int) ∧ Int.tmod (y2 : Int) (N : Int) = (p : Int) ∧ Int.tdiv (y2 : Int) (N : Int) = (q : Int) ∧
    wrap64 (p : Int) = (p : Int) ∧ IntKind.i64.wrap (p : Int) = (p : Int) ∧ wrap64 (q : Int) = (q : Int) ∧ IntKind.i64.wrap (q : Int) = (q : Int) ∧ wrap64 ((p : Int) + (q : Int)) = (z : Int) ∧ IntKind.i64.wrap ((p : Int) + (q : Int)) = (z : Int) := by
  have hpl : y * 2 % N < N := Nat.mod_lt _ (by omega)
  have hql : y * 2 / N ≤ y * 2 := Nat.div_le_self _ _
  refine ⟨y * 2, y * 2 % N, y * 2 / N, ?_, ?_, bmod (by omega), bdiv, ?_, ?_, ?_, ?_, ?_, ?_⟩
  all_goals
    generalize y * 2 % N = p at *
    generalize y * 2 / N = q at *
  · unfold wrap64; omega
  · rw [IntWalk.i64_in _ (by omega)]; omega
  · unfold wrap64; omega
  · exact IntWalk.i64_in _ (by omega)
  · unfold wrap64; omega
  · exact IntWalk.i64_in _ (by omega)
  · rw [hz]; unfold wrap64; omega
  · rw [IntWalk.i64_in _ (by omega), hz]; omega
theorem bitsL_len (x n : Nat) : (bitsL x n).length = n := btab_len _ _
theorem xrow_len (n : Nat) : ∀ x, (xrow n x).length ≤ x * n
  | 0 => Nat.zero_le _
  | x + 1 => by
    have := xrow_len n x
    rw [xrow, List.length_append, Nat.add_mul, Nat.one_mul]
    split
    · rw [List.length_take, bitsL_len]; omega
    · simp; omega
theorem xbru_zero (w : World) :
    Calls Tryd.prog 49 #[.int .i64 0] w fun e w' => ∃ A c, e = .returned (.slice A 1 c) ∧ 1 ≤ c ∧ Seg w' w'.heap.size A ([false].map .bool) ∧ Below w.heap.size w w' := by
  have HO : Hid (Seg (w.alloc (.cells #[.bool false] 4)) (w.alloc (.cells #[.bool false] 4)).heap.size (some ⟨w.heap.size, 0, none⟩) ([false].map .bool)) := by
    have : Own (w.alloc (.cells #[.bool false] 4)) w.heap.size 4 (.slice (some ⟨w.heap.size, 0, none⟩) 1 1) [.bool false] := ⟨rfl, .inr ⟨w.heap.size, 1, #[.bool false], rfl, Nat.le_refl _, Blk.new w _ _, Nat.le_refl _, by decide, rfl, rfl⟩⟩
    exact this.seg
  have HB : Hid (Below w.heap.size w (w.alloc (.cells #[.bool false] 4))) := (Below.refl _ _).alloc (Nat.le_refl _) _
  go_enter Tryd.func49, Tryd.ntmps49
  go_wp2_with fail
  go_ret
  exact ⟨some ⟨w.heap.size, 0, none⟩, 1, rfl, Nat.le_refl _, HO.out, HB.out⟩
set_option maxRecDepth 20000 in
set_option maxHeartbeats 8000000 in
theorem xbru_ok (n : Nat) (w : World) (h1 : 1 ≤ n) (h2 : n ≤ 10) :
    Calls Tryd.prog 49 #[.int .i64 n] w fun e w' => ∃ A c, e = .returned (.slice A (xrow n (2 ^ n)).length c) ∧ (xrow n (2 ^ n)).length ≤ c ∧ Seg w' w'.heap.size A ((xrow n (2 ^ n)).map .bool) ∧ Below w.heap.size w w' := by
  obtain ⟨N, hN⟩ : ∃ N, N = 2 ^ n := ⟨_, rfl⟩
  have hN2 : 2 ≤ N ∧ N ≤ 1024 := by
    rw [hN]
    rcases (by omega : n = 1 ∨ n = 2 ∨ n = 3 ∨ n = 4 ∨ n = 5 ∨ n = 6 ∨ n = 7 ∨ n = 8 ∨ n = 9 ∨ n = 10) with rfl | rfl | rfl | rfl | rfl | rfl | rfl | rfl | rfl | rfl <;> decide
  have hp : (2 : Int) ^ n = (N : Int) := by rw [hN, Int.natCast_pow]; rfl
  have hpw : wrap64 (N : Int) = (N : Int) := by clear hp; unfold wrap64; omega
  have hpw2 : IntKind.i64.wrap (N : Int) = (N : Int) := IntWalk.i64_in _ (by clear hp hpw; omega)
  have HP := Lib.hid hp
  have HPW := Lib.hid hpw
  have HPW2 := Lib.hid hpw2
  have HNN := Lib.hid (And.intro h1 (And.intro h2 hN2))
  have HYR : Hid (∀ y, yrot n y = y * 2 % N + y * 2 / N) := fun y => by rw [hN]; rfl
  have HXL : Hid (∀ x k, x < N → k < n → (xst n x k).2.2 < N ∧ 1 ≤ (xst n x k).2.1 ∧ (xst n x k).2.1 ≤ n) := fun x k hx hk => by rw [hN] at hx ⊢; exact xst_le n x hx h1 k hk
  have b0 : ((n : Int) == 0) = false := by rw [beq_eq_false_iff_ne]; omega
  have i0 : ¬ (n : Int) < 0 := by omega
  have i64 : (n : Int) < 64 := by omega
  rw [← hN]
  clear h1 h2 hN2 hN
  go_enter Tryd.func49, Tryd.ntmps49
  go_wp2_with fail
  clear b0 hp hpw hpw2
  --LOOK1
  go_loopw [3, 14] (fun s3 s14 wx => ∃ x : Nat, x ≤ N ∧ s14 = .int .i64 x ∧ Hid (Own wx w.heap.size tBl s3 ((xrow n x).map .bool)) ∧ Hid (Below w.heap.size w wx)) (fun _ s14 _ => N - (intOf s14).toNat)
  case atStart => exact ⟨0, Nat.zero_le _, rfl, Own.none_, Below.refl _ _⟩
  case round =>
    obtain ⟨x, hx, rfl, hown, hb⟩ := hrel
    obtain ⟨A3, c3, rfl, hc3, hown3⟩ := hown.out.res2
    rw [List.length_map] at hown3 hc3 ⊢
    have HO3 := Lib.hid hown3
    have HC3 := Lib.hid hc3
    clear hown hown3 hc3
    by_cases hxl : x < N
    · have i1 : (x : Int) < (N : Int) := by omega
      have ux : Hid (wrap64 ((x : Int) + 1) = ((x + 1 : Nat) : Int)) := by have := HNN.out; unfold Hid wrap64; omega
      have HX := Lib.hid (And.intro hx hxl)
      clear hx hxl
      obtain ⟨wo, hwo⟩ : ∃ wo : World, wo = wr := ⟨_, rfl⟩
      rw [← hwo] at HO3 hb ⊢
      clear hwo
      go_wp2_with fail
      clear i1
      --LOOK2
      go_loopw [5, 6, 7, 8] (fun s5 s6 s7 s8 wx => ∃ k : Nat, k + 1 ≤ n ∧ s8 = .int .i64 ((k + 1 : Nat) : Int) ∧ s5 = .bool (xst n x k).1 ∧ s6 = .int .i64 ((xst n x k).2.1 : Nat) ∧ s7 = .int .i64 ((xst n x k).2.2 : Nat) ∧ ∃ m, wx = wo.drewN m) (fun _ _ _ s8 _ => n - (intOf s8).toNat)
      case atStart => exact ⟨0, HNN.out.1, rfl, rfl, rfl, rfl, 0, rfl⟩
      case round =>
        obtain ⟨k, hk, rfl, rfl, rfl, rfl, m, hwm⟩ := hrel
        obtain ⟨hy1, hy2, hy3⟩ := HXL.out x k HX.out.2 (by omega)
        by_cases hkl : k + 1 < n
        · have i1 : ((k + 1 : Nat) : Int) < (n : Int) := by omega
          have HS1 : Hid ((xst n x (k + 1)).1 = ((xst n x k).1 && decide (x ≤ yrot n (xst n x k).2.2))) := rfl
          have HS2 : Hid ((xst n x (k + 1)).2.1 = if yrot n (xst n x k).2.2 = x ∧ (xst n x k).2.1 = n then k + 1 else (xst n x k).2.1) := rfl
          have HS3 : Hid ((xst n x (k + 1)).2.2 = yrot n (xst n x k).2.2) := rfl
          have hz := (HXL.out x (k + 1) HX.out.2 (by omega)).1
          rw [HS3.out] at hz
          have hyr := HYR.out (xst n x k).2.2
          have uk : Hid (wrap64 (((k + 1 : Nat) : Int) + 1) = ((k + 1 + 1 : Nat) : Int)) := by have := HNN.out; unfold Hid wrap64; omega
          have HK := Lib.hid (And.intro hk hkl)
          obtain ⟨l, hl⟩ : ∃ l, l = (xst n x k).1 := ⟨_, rfl⟩
          obtain ⟨r, hr⟩ : ∃ r, r = (xst n x k).2.1 := ⟨_, rfl⟩
          obtain ⟨y, hy⟩ : ∃ y, y = (xst n x k).2.2 := ⟨_, rfl⟩
          rw [← hl] at HS1 ⊢
          rw [← hr] at HS2 hy2 hy3 ⊢
          rw [← hy] at HS1 HS2 HS3 hz hyr hy1 ⊢
          obtain ⟨z, hzz⟩ : ∃ z, z = yrot n y := ⟨_, rfl⟩
          rw [← hzz] at HS1 HS2 HS3 hz hyr
          have hN1 := HNN.out.2.2
          have HAR := Lib.hid (xb_arith hN1.1 hN1.2 hy1 hyr hz)
          have dn : ¬ (N : Int) = 0 := by omega
          have dn2 : ¬ N = 0 := by omega
          obtain ⟨t1, ht1⟩ : ∃ t1 : Bool, t1 = decide (x ≤ z) := ⟨_, rfl⟩
          have e1 : decide ((x : Int) ≤ (z : Int)) = t1 := by rw [ht1]; exact decide_eq_decide.2 (by omega)
          have HT1 := Lib.hid ht1
          clear hy1 hy2 hy3 hz hyr hl hr hy hzz hN1 ht1 hk hkl
          by_cases ha : z = x
          · by_cases hrn : r = n
            · have hst : Hid ((xst n x (k + 1)).2.1 = k + 1) := by unfold Hid; rw [HS2.out, if_pos ⟨ha, hrn⟩]
              have f1 : ((z : Int) == (x : Int)) = true := by rw [ha]; simp
              have f2 : ((r : Int) == (n : Int)) = true := by rw [hrn]; simp
              clear ha hrn
              obtain ⟨y2, p, q, d1, d1b, d2, d3, d4, d4b, d5, d5b, d6, d6b⟩ := HAR.out
              have hp' := HP.out
              have hpw' := HPW.out
              have hpw2' := HPW2.out
              subst hwm
              cases l
              all_goals
                go_wp2_with fail
                refine wp_region_plan [(0, 0), (1, 0), (2, 0), (3, 0), (4, 0), (5, 0), (6, 0), (7, 0), (8, 0), (9, 0), (10, 0), (11, 0)] (fun _ => True) (by kernel_rfl) (by kernel_rfl) (fun _ d _ _ _ h => by cases d <;> exact h) trivial ?_
                iterate 12 ((refine plan0 (v := ?_) rfl rfl (by rfl) ?_ ?_); rotate_left; (intro w'; go_simp; with_reducible rfl); simp only [List.setIfInBounds_toArray, List.set_cons_zero, List.set_cons_succ])
                refine planEnd ?_
                go_wp2_with fail
                clear d1 d1b d2 d3 d4 d4b d5 d5b d6 d6b hp' hpw' hpw2'
                go_roundw
                case rel => exact ⟨k + 1, by have := HK.out; omega, by first | rfl | rw [uk.out], by rw [HS1.out, ← HT1.out]; first | rfl | simp, by rw [hst.out], by rw [HS3.out], m + 1, rfl⟩
                case measure => (try rw [uk.out]); have := HK.out; simp [intOf]; omega
            · have hst : Hid ((xst n x (k + 1)).2.1 = r) := by unfold Hid; rw [HS2.out, if_neg (fun h => hrn h.2)]
              have f1 : ((z : Int) == (x : Int)) = true := by rw [ha]; simp
              have f2 : ((r : Int) == (n : Int)) = false := by rw [beq_eq_false_iff_ne]; omega
              clear ha hrn
              obtain ⟨y2, p, q, d1, d1b, d2, d3, d4, d4b, d5, d5b, d6, d6b⟩ := HAR.out
              have hp' := HP.out
              have hpw' := HPW.out
              have hpw2' := HPW2.out
              subst hwm
              cases l
              all_goals
                go_wp2_with fail
                refine wp_region_plan [(0, 0), (1, 0), (2, 0), (3, 0), (4, 0), (5, 0), (6, 0), (7, 0), (8, 0), (9, 0), (10, 0), (11, 0)] (fun _ => True) (by kernel_rfl) (by kernel_rfl) (fun _ d _ _ _ h => by cases d <;> exact h) trivial ?_
                iterate 12 ((refine plan0 (v := ?_) rfl rfl (by rfl) ?_ ?_); rotate_left; (intro w'; go_simp; with_reducible rfl); simp only [List.setIfInBounds_toArray, List.set_cons_zero, List.set_cons_succ])
                refine planEnd ?_
                go_wp2_with fail
                clear d1 d1b d2 d3 d4 d4b d5 d5b d6 d6b hp' hpw' hpw2'
                go_roundw
                case rel => exact ⟨k + 1, by have := HK.out; omega, by first | rfl | rw [uk.out], by rw [HS1.out, ← HT1.out]; first | rfl | simp, by rw [hst.out], by rw [HS3.out], m + 1, rfl⟩
                case measure => (try rw [uk.out]); have := HK.out; simp [intOf]; omega
          · have hst : Hid ((xst n x (k + 1)).2.1 = r) := by unfold Hid; rw [HS2.out, if_neg (fun h => ha h.1)]
            have f1 : ((z : Int) == (x : Int)) = false := by rw [beq_eq_false_iff_ne]; omega
            clear ha
            obtain ⟨y2, p, q, d1, d1b, d2, d3, d4, d4b, d5, d5b, d6, d6b⟩ := HAR.out
            have hp' := HP.out
            have hpw' := HPW.out
            have hpw2' := HPW2.out
            subst hwm
            cases l
            all_goals
              go_wp2_with fail
              refine wp_region_plan [(0, 0), (1, 0), (2, 0), (3, 0), (4, 0), (5, 0), (6, 0), (7, 0), (8, 0), (9, 0), (10, 0), (11, 0)] (fun _ => True) (by kernel_rfl) (by kernel_rfl) (fun _ d _ _ _ h => by cases d <;> exact h) trivial ?_
              iterate 12 ((refine plan0 (v := ?_) rfl rfl (by rfl) ?_ ?_); rotate_left; (intro w'; go_simp; with_reducible rfl); simp only [List.setIfInBounds_toArray, List.set_cons_zero, List.set_cons_succ])
              refine planEnd ?_
              go_wp2_with fail
              clear d1 d1b d2 d3 d4 d4b d5 d5b d6 d6b hp' hpw' hpw2'
              go_roundw
              case rel => exact ⟨k + 1, by have := HK.out; omega, by first | rfl | rw [uk.out], by rw [HS1.out, ← HT1.out]; first | rfl | simp, by rw [hst.out], by rw [HS3.out], m + 1, rfl⟩
              case measure => (try rw [uk.out]); have := HK.out; simp [intOf]; omega
        · have i1 : ¬ ((k + 1 : Nat) : Int) < (n : Int) := by omega
          have ek : n - 1 = k := by omega
          have HXR : Hid (xrow n (x + 1) = xrow n x ++ (if (xst n x k).1 then (bitsL x n).take (xst n x k).2.1 else [])) := by unfold Hid; rw [xrow, ek]
          have hxn := xrow_len n x
          have HXN : Hid ((xrow n x).length ≤ 10240) := by
            have h1 := HX.out; have h2 := HNN.out
            have h3 : x * n ≤ 1024 * 10 := Nat.mul_le_mul (by omega) (by omega)
            unfold Hid; omega
          obtain ⟨l, hl⟩ : ∃ l, l = (xst n x k).1 := ⟨_, rfl⟩
          obtain ⟨r, hr⟩ : ∃ r, r = (xst n x k).2.1 := ⟨_, rfl⟩
          obtain ⟨y, hy⟩ : ∃ y, y = (xst n x k).2.2 := ⟨_, rfl⟩
          rw [← hl, ← hr] at HXR
          rw [← hr] at hy2 hy3
          rw [← hl, ← hr, ← hy]
          have HRN := Lib.hid (And.intro hy2 hy3)
          clear hl hr hy hy1 hy2 hy3 ek hk hkl hxn
          subst hwm
          have HBD : Hid (Below w.heap.size w (wo.drewN m)) := below_drewN hb.out m
          have HO4 : Hid (Own (wo.drewN m) w.heap.size tBl (.slice A3 (xrow n x).length c3) ((xrow n x).map .bool)) := Own.below HO3.out (below_drewN (Below.refl _ _) m) (Nat.le_refl _)
          cases l
          · have hst : Hid (xrow n (x + 1) = xrow n x) := by unfold Hid; rw [HXR.out]; simp
            go_wp2_with fail
            go_roundw
            case rel => exact ⟨x + 1, by have := HX.out; omega, by first | rfl | rw [ux.out], by unfold Hid; rw [hst.out]; exact HO4.out, HBD.out⟩
            case measure => (try rw [ux.out]); have := HX.out; simp [intOf]; omega
          · have hst : Hid (xrow n (x + 1) = xrow n x ++ (bitsL x n).take r) := by unfold Hid; rw [HXR.out]; simp
            have HBT := Lib.hid (bits_any x n (wo.drewN m) (by have h1 := HX.out; have h2 := HNN.out; omega) HNN.out.2.1)
            have hsl := fun (A : Option Addr) u => bslice_to (A := A) (n := n) (x := r) (c := n) (r : Int) rfl HRN.out.2 u
            have HMX : Hid (((xrow n x).map Value.bool).length + r ≤ maxLen ∧ (((xrow n x).map Value.bool).length + r) * 1 ≤ 140737488355328) := by
              have h1 := HXN.out; have h2 := HRN.out; have h3 := HNN.out
              unfold Hid maxLen; rw [List.length_map]; omega
            have HTL : Hid ((((bitsL x n).take r).map Value.bool).length = r) := by unfold Hid; rw [List.length_map, List.length_take, bitsL_len]; have := HRN.out; omega
            clear HXR
            go_wp2_with fail
            refine HBT.out.mono ?_
            rintro e w5 ⟨rfl, hsg, hb5⟩
            have HS5 : Hid (Seg w5 w5.heap.size (some ⟨(wo.drewN m).heap.size, 0, none⟩) (((bitsL x n).take r).map .bool)) := by unfold Hid; rw [List.map_take]; exact hsg.pre r
            have HB5 : Hid (Below w.heap.size w w5) := HBD.out.trans (hb5.mono HBD.out.size)
            have HO5 : Hid (Own w5 w.heap.size tBl (.slice A3 (xrow n x).length c3) ((xrow n x).map .bool)) := Own.below HO4.out hb5 (Nat.le_refl _)
            clear hsg hb5
            go_wp2_with (first
              | (at_builtin; go_must (refine wpList_append_seg _ rfl _ _ elem_bools rfl w.heap.size _ ((xrow n x).map .bool) rfl HO5.out n rfl HTL.out HS5.out (bools_one _) HMX.out.1 HMX.out.2 HB5.out.size ?_); intro v7 w7 hown7 hg7 hv7; have HO7 := Lib.hid hown7; have HG7 := Lib.hid hg7; clear hown7 hg7 hv7)
              | fail)
            have HB7 : Hid (Below w.heap.size w w7) := Below.grown HB5.out HG7.out HB5.out.size HO5.out.block
            clear hsl
            --LOOKE
            go_roundw
            case rel => exact ⟨x + 1, by have := HX.out; omega, by first | rfl | rw [ux.out], by unfold Hid; rw [hst.out, List.map_append]; exact HO7.out, HB7.out⟩
            case measure => (try rw [ux.out]); have := HX.out; simp [intOf]; omega
    · obtain rfl : x = N := by omega
      have HSO := Lib.hid (Own.seg HO3.out)
      clear hx hxl
      go_wp2_with fail
      go_ret
      exact ⟨A3, c3, rfl, HC3.out, HSO.out, hb.out⟩
end Go.Proofs.YtmibifmabkaakaaDoor
