/- Draws by places and levels: Make, walked. No condition. -/
import Derived.Test.YtmibifmabkaakaaDoorAliR
import Derived.Deep.LoopGhost
import Derived.Deep.RegionHeld3
import Derived.Test.YtmibifmabkaakaaDoorHeld
namespace Go.Proofs.YtmibifmabkaakaaDoor
open Go.ChangeShapes Go.WideShapes Go.ChangeAt Go.RowKit
set_option linter.unusedVariables false

theorem AS.start_cnt (l : List Int) (n : Nat) (S : Int) : ∀ j, (AS.start l n S).cnt j = 0
  | 0 => rfl
  | j + 1 => by rw [AS.cnt, AS.start_cnt l n S j]; rfl
theorem AS.start_ok {l : List Int} {S : Int} (h : ∀ j, j < l.length → 0 ≤ pat l j ∧ pat l j ≤ 1048576) (hn : l.length ≤ 400) (h0 : 0 ≤ S) (h1 : S ≤ 419430400) : (AS.start l l.length S).ok S l.length := by
  refine ⟨fun k hk => ?_, h0, h1⟩
  show 0 ≤ pat l k * l.length ∧ pat l k * l.length ≤ 419430400
  have h1 : pat l k * l.length ≤ 1048576 * l.length := Int.mul_le_mul_of_nonneg_right (h k hk).2 (by omega)
  exact ⟨Int.mul_nonneg (h k hk).1 (by omega), by omega⟩
set_option maxRecDepth 20000 in
set_option maxHeartbeats 2000000 in
theorem amake_any (l : List Int) (A : Option Addr) (c : Nat) (w : World) (hs : Seg w w.heap.size A (l.map (.int .i64))) (hm : l.length ≤ 9223372036854775807) :
    Calls Tryd.prog 23 #[.slice A l.length c] w fun e w' => POut w w' e (amakeL l) (asumR l).2 := by
  have HS := Lib.hid hs
  have HSUM := Lib.hid (asum_any l A c _ w hs hm)
  clear hs
  by_cases he : (asumR l).2 = 0
  · obtain ⟨hn1, hn2, hok, hS0, hS1⟩ := asum_good he
    have HL : Hid (amakeL l = ptab (amakeF l).V (amakeF l).T l.length) := if_pos he
    have hS2 := (asum_bd hok l.length (Nat.le_refl _)).2
    have HST : Hid (amakeF l = AS.run (asum l l.length) l.length l.length (AS.start l l.length (asum l l.length))) := rfl
    have HX : Hid (∀ j, j < l.length → 0 ≤ pat l j ∧ pat l j ≤ 1048576) := aokc_at hok
    have hmk1 := run_make_row' (P := Tryd.prog) 23 3 (.int .i64 0) 8 Tryd.underlying23 (by kernel_rfl) rfl .i64 .i64 l.length (by omega) (by omega)
    have hmk2 := run_make_pairs (n := l.length) (by omega)
    have hmk3 := run_make_row' (P := Tryd.prog) 40 4 (.bool false) 1 Tryd.underlying40 (by kernel_rfl) rfl .i64 .i64 l.length (by omega) (by omega)
    rw [he]
    rw [show asumR l = (asum l l.length, 0) from Prod.ext hS1 he] at HSUM
    have HE := Lib.hid he
    clear he hok hS1
    generalize asum l l.length = S at *
    go_enter Tryd.func23, Tryd.ntmps23
    go_wp2_with fail
    refine HSUM.out.mono ?_
    rintro e w1 ⟨rfl, rfl⟩
    go_wp2_with fail
    have HMO : Hid (PRow ((w.alloc (.cells (madeCells #[.int .i64 0] l.length) 3)).alloc (.cells (madeCells #[.int .i64 0, .int .i64 0] (l.length * 2)) 105)) (w.heap.size + 1) l.length (fun i => if i < 0 then S else 0) (fun i => if i < 0 then i else 0)) := by
      have h := PRow.made (w.alloc (.cells (madeCells #[.int .i64 0] l.length) 3)) l.length
      rw [show (w.alloc (.cells (madeCells #[.int .i64 0] l.length) 3)).heap.size = w.heap.size + 1 by simp] at h
      exact h.congr (fun i hi => by rw [if_neg (by omega)]) (fun i hi => by rw [if_neg (by omega)])
    go_loopw [32] (fun s32 wr => ∃ j : Nat, j ≤ l.length ∧ s32 = .int .i64 j ∧ wr.rowIs w.heap.size 3 l.length (fun i => .int .i64 (if i < j then pat l i * l.length else 0)) ∧ PRow wr (w.heap.size + 1) l.length (fun i => if i < j then S else 0) (fun i => if i < j then i else 0) ∧ Below w.heap.size w wr) (fun s32 _ => l.length - (intOf s32).toNat)
    case atStart => exact ⟨0, Nat.zero_le _, rfl, ((World.rowIs_made w (.int .i64 0) l.length 3).congr (fun i hi => by rw [if_neg (by omega)])).alloc _, HMO.out, ((Below.refl _ _).alloc (Nat.le_refl _) _).alloc (by simp) _⟩
    case round =>
      obtain ⟨j, hj, rfl, hleft, hout, hbel⟩ := hrel
      have HLF := Lib.hid hleft
      have HOU := Lib.hid hout
      have HB := Lib.hid hbel
      clear hleft hout hbel
      by_cases hlt : j < l.length
      · have i2 : (j : Int) < (l.length : Int) := by omega
        obtain ⟨ad, rfl, _, hcell⟩ := (HS.out.below HB.out).pat hlt
        have hx := HX.out j hlt
        obtain ⟨y, hy⟩ : ∃ y, pat l j * l.length = y := ⟨_, rfl⟩
        have hyb : 0 ≤ y ∧ y ≤ 419430400 := by
          rw [← hy]
          have h1 : pat l j * l.length ≤ 1048576 * l.length := Int.mul_le_mul_of_nonneg_right hx.2 (by omega)
          exact ⟨Int.mul_nonneg hx.1 (by omega), by omega⟩
        have HY := Lib.hid hy
        have c1 := HLF.out.cell hlt
        have f1 := HLF.out.frozen j
        rw [if_neg (by omega)] at c1
        have HPR : Hid (PRow (wr.setCell ⟨w.heap.size, j, none⟩ (.int .i64 y)) (w.heap.size + 1) l.length (fun i => if i < j then S else 0) (fun i => if i < j then i else 0)) := HOU.out.far (by simp) _
        have HRW : Hid ((wr.setCell ⟨w.heap.size, j, none⟩ (.int .i64 y)).rowIs w.heap.size 3 l.length (fun i => .int .i64 (if i < j + 1 then pat l i * l.length else 0))) :=
          (HLF.out.set j (.int .i64 y)).congr fun i hi => by
            by_cases e : i = j
            · subst e; rw [if_pos rfl, if_pos (by omega), HY.out]
            · rw [if_neg e]
              by_cases e2 : i < j
              · rw [if_pos e2, if_pos (by omega)]
              · rw [if_neg e2, if_neg (by omega)]
        have HB2 : Hid (Below w.heap.size w (wr.setCell ⟨w.heap.size, j, none⟩ (.int .i64 y))) := HB.out.setCell (Nat.le_refl _) _
        have HZ : Hid (w.heap.size + 1 < wr.heap.size) := HOU.out.lt
        clear hx
        generalize pat l j = x at *
        go_wp2_with (first | (refine wpList_store_pair rfl _ _ _ rfl HPR.out hlt S j rfl rfl (by kernel_rfl) ?_; intro w2 hp hg hz; have HP2 := Lib.hid hp; have HG2 := Lib.hid hg; have HZ2 := Lib.hid hz; clear hp hg hz) | fail)
        go_roundw
        case rel =>
          refine ⟨j + 1, by omega, by go_num, HRW.out.of_block (HG2.out.block _ (by simp; have := HZ.out; omega) (by simp)), HP2.out.congr (fun i hi => ?_) (fun i hi => ?_), HB2.out.grown HG2.out (by simp; have := HZ.out; omega) (fun q hq => by injection hq with hq; omega)⟩
          · show (if i = j then S else if i < j then S else 0) = if i < j + 1 then S else 0
            by_cases e : i = j
            · rw [if_pos e, if_pos (by omega)]
            · rw [if_neg e]
              by_cases e2 : i < j
              · rw [if_pos e2, if_pos (by omega)]
              · rw [if_neg e2, if_neg (by omega)]
          · show (if i = j then (j : Int) else if i < j then (i : Int) else 0) = if i < j + 1 then (i : Int) else 0
            by_cases e : i = j
            · rw [if_pos e, if_pos (by omega), e]
            · rw [if_neg e]
              by_cases e2 : i < j
              · rw [if_pos e2, if_pos (by omega)]
              · rw [if_neg e2, if_neg (by omega)]
        case measure => simp [intOf]; omega
      · have i2 : ¬ (j : Int) < (l.length : Int) := by omega
        obtain rfl : j = l.length := by omega
        have HLF2 : Hid (wr.rowIs w.heap.size 3 l.length (fun i => .int .i64 ((AS.start l l.length S).L i))) := HLF.out.congr fun i hi => by rw [if_pos hi]; rfl
        have HOU2 : Hid (PRow wr (w.heap.size + 1) l.length (AS.start l l.length S).V (AS.start l l.length S).T) := HOU.out.congr (fun i hi => if_pos hi) (fun i hi => if_pos hi)
        have HZ : Hid (w.heap.size + 1 < wr.heap.size) := HOU.out.lt
        have HC0 : Hid ((AS.start l l.length S).cnt l.length = 0) := AS.start_cnt _ _ _ _
        have HK0 : Hid ((AS.start l l.length S).ok S l.length) := AS.start_ok HX.out hn2 (by omega) (by omega)
        clear HLF HOU
        obtain ⟨wo, rfl⟩ : ∃ wo : World, wo = wr := ⟨_, rfl⟩
        go_wp2_with fail
        go_loopg [12] l.length (fun g s12 wr => ∃ s : AS, g + s.cnt l.length = l.length ∧ Hid (AS.run S l.length g s = amakeF l) ∧ Hid (s.ok S l.length) ∧ wr.rowIs w.heap.size 3 l.length (fun i => .int .i64 (s.L i)) ∧ PRow wr (w.heap.size + 1) l.length s.V s.T ∧ wr.rowIs wo.heap.size 4 l.length (fun i => .bool (s.D i)) ∧ Below w.heap.size w wr)
        case atStart => exact ⟨_, by rw [HC0.out]; rfl, HST.out.symm, HK0, HLF2.out.alloc _, HOU2.out.alloc _, World.rowIs_made wo (.bool false) l.length 4, HB.out.alloc (by have := HZ.out; omega) _⟩
        case round =>
          obtain ⟨s, hgc, hrun, hsok, hleft, hout, hdone, hbel⟩ := hrel
          have HL2 := Lib.hid hleft
          have HO2 := Lib.hid hout
          have HD2 := Lib.hid hdone
          have HB2 := Lib.hid hbel
          have HGC := Lib.hid hgc
          clear hleft hout hdone hbel hgc
          go_wp2_with fail
          go_loop [12, 13, 54] (fun s12 s13 s54 => ∃ k : Nat, k ≤ l.length ∧ s54 = .int .i64 k ∧ s12 = .int .i64 (lowf (s.low S) k) ∧ s13 = .int .i64 (lowf (s.high S) k)) (fun _ _ s54 => l.length - (intOf s54).toNat)
          case atStart => exact ⟨0, Nat.zero_le _, rfl, rfl, rfl⟩
          case round =>
            obtain ⟨k, hk, rfl, rfl, rfl⟩ := hrel
            by_cases hlt : k < l.length
            · have i3 : (k : Int) < (l.length : Int) := by omega
              have hDc := HD2.out.cell hlt
              have hLc := HL2.out.cell hlt
              have HLO : Hid (lowf (s.low S) (k + 1) = if lowf (s.low S) k < 0 ∧ (!s.D k && decide (s.L k < S)) = true then (k : Int) else lowf (s.low S) k) := rfl
              have HHI : Hid (lowf (s.high S) (k + 1) = if lowf (s.high S) k < 0 ∧ (!s.D k && decide (S < s.L k)) = true then (k : Int) else lowf (s.high S) k) := rfl
              generalize lowf (s.low S) k = lo at *
              generalize lowf (s.high S) k = hi at *
              generalize s.D k = d at *
              generalize s.L k = x at *
              rcases (by cases d <;> simp <;> omega : d = true ∨ (d = false ∧ x < S ∧ ¬ S < x ∧ lo < 0) ∨ (d = false ∧ x < S ∧ ¬ S < x ∧ ¬ lo < 0) ∨ (d = false ∧ ¬ x < S ∧ S < x ∧ hi < 0) ∨ (d = false ∧ ¬ x < S ∧ S < x ∧ ¬ hi < 0) ∨ (d = false ∧ ¬ x < S ∧ ¬ S < x)) with rfl | ⟨rfl, h1, h2, h3⟩ | ⟨rfl, h1, h2, h3⟩ | ⟨rfl, h1, h2, h3⟩ | ⟨rfl, h1, h2, h3⟩ | ⟨rfl, h1, h2⟩
              · have E1 : Hid (lowf (s.low S) (k + 1) = lo) := HLO.out.trans (if_neg (by simp))
                have E2 : Hid (lowf (s.high S) (k + 1) = hi) := HHI.out.trans (if_neg (by simp))
                go_wp2_with fail
                go_round
                case rel => exact ⟨k + 1, by omega, by go_num, by rw [E1.out], by rw [E2.out]⟩
                case measure => simp [intOf]; omega
              · have E1 : Hid (lowf (s.low S) (k + 1) = k) := HLO.out.trans (if_pos ⟨h3, by simpa using h1⟩)
                have E2 : Hid (lowf (s.high S) (k + 1) = hi) := HHI.out.trans (if_neg (by simp; omega))
                go_wp2_with fail
                go_round
                case rel => exact ⟨k + 1, by omega, by go_num, by rw [E1.out], by rw [E2.out]⟩
                case measure => simp [intOf]; omega
              · have E1 : Hid (lowf (s.low S) (k + 1) = lo) := HLO.out.trans (if_neg (by omega))
                have E2 : Hid (lowf (s.high S) (k + 1) = hi) := HHI.out.trans (if_neg (by simp; omega))
                go_wp2_with fail
                go_round
                case rel => exact ⟨k + 1, by omega, by go_num, by rw [E1.out], by rw [E2.out]⟩
                case measure => simp [intOf]; omega
              · have E1 : Hid (lowf (s.low S) (k + 1) = lo) := HLO.out.trans (if_neg (by simp; omega))
                have E2 : Hid (lowf (s.high S) (k + 1) = k) := HHI.out.trans (if_pos ⟨h3, by simpa using h2⟩)
                go_wp2_with fail
                go_round
                case rel => exact ⟨k + 1, by omega, by go_num, by rw [E1.out], by rw [E2.out]⟩
                case measure => simp [intOf]; omega
              · have E1 : Hid (lowf (s.low S) (k + 1) = lo) := HLO.out.trans (if_neg (by simp; omega))
                have E2 : Hid (lowf (s.high S) (k + 1) = hi) := HHI.out.trans (if_neg (by omega))
                go_wp2_with fail
                go_round
                case rel => exact ⟨k + 1, by omega, by go_num, by rw [E1.out], by rw [E2.out]⟩
                case measure => simp [intOf]; omega
              · have E1 : Hid (lowf (s.low S) (k + 1) = lo) := HLO.out.trans (if_neg (by simp; omega))
                have E2 : Hid (lowf (s.high S) (k + 1) = hi) := HHI.out.trans (if_neg (by simp; omega))
                go_wp2_with fail
                go_round
                case rel => exact ⟨k + 1, by omega, by go_num, by rw [E1.out], by rw [E2.out]⟩
                case measure => simp [intOf]; omega
            · have i3 : ¬ (k : Int) < (l.length : Int) := by omega
              obtain rfl : k = l.length := by omega
              have HSTOP : Hid (lowf (s.low S) l.length < 0 ∨ lowf (s.high S) l.length < 0 → amakeF l = s) := fun h => hrun.out.symm.trans (AS.run_stop h _)
              have HLI := Lib.hid (fun a => lowf_is (P := s.low S) l.length a)
              have HHJ := Lib.hid (fun a => lowf_is (P := s.high S) l.length a)
              have HNX : Hid (∀ (a b f : Nat), lowf (s.low S) l.length = a → lowf (s.high S) l.length = b → AS.run S l.length (f + 1) s = AS.run S l.length f (s.step S a b)) := fun a b f h1 h2 => AS.run_next h1 h2
              generalize lowf (s.low S) l.length = lo at *
              generalize lowf (s.high S) l.length = hi at *
              rcases (by omega : lo < 0 ∨ (¬ lo < 0 ∧ hi < 0) ∨ (¬ lo < 0 ∧ ¬ hi < 0)) with h1 | ⟨h1, h2⟩ | ⟨h1, h2⟩
              · have HF := Lib.hid (HSTOP.out (.inl h1))
                go_wp2_with fail
                go_ret2
                rw [HL.out, HF.out]
                exact POut.row HO2.out HB2.out
              · have HF := Lib.hid (HSTOP.out (.inr h2))
                go_wp2_with fail
                go_ret2
                rw [HL.out, HF.out]
                exact POut.row HO2.out HB2.out
              · obtain ⟨a, rfl⟩ : ∃ a : Nat, lo = a := ⟨lo.toNat, by omega⟩
                obtain ⟨b, rfl⟩ : ∃ b : Nat, hi = b := ⟨hi.toNat, by omega⟩
                obtain ⟨ha, ha2⟩ := HLI.out a rfl
                obtain ⟨hb, hb2⟩ := HHJ.out b rfl
                have ha3 : s.D a = false ∧ s.L a < S := by simpa [AS.low] using ha2
                have hb3 : s.D b = false ∧ S < s.L b := by simpa [AS.high] using hb2
                have hcl := AS.cnt_lt ha3.1 l.length ha
                obtain ⟨g', rfl⟩ : ∃ g', gk = g' + 1 := ⟨gk - 1, by have := HGC.out; omega⟩
                have HNX2 := Lib.hid (HNX.out a b g' rfl rfl)
                have HCT := Lib.hid (AS.cnt_step (S := S) (b := b) ha3.1 l.length)
                have HOK2 := Lib.hid (AS.step_ok hsok.out ha hb ha3.2 hb3.2)
                obtain ⟨xa, hxa⟩ : ∃ x, s.L a = x := ⟨_, rfl⟩
                obtain ⟨xb, hxb⟩ : ∃ x, s.L b = x := ⟨_, rfl⟩
                have ca := HL2.out.cell ha
                have cb := HL2.out.cell hb
                have q1 := hsok.out.1 a ha
                have q2 := hsok.out.1 b hb
                rw [hxa] at ca ha3 q1
                rw [hxb] at cb hb3 q2
                have HXA := Lib.hid hxa
                have HXB := Lib.hid hxb
                have ha4 := ha3.2
                have hb4 := hb3.2
                have hw1 : IntKind.i64.wrap (S - xa) = S - xa := IntWalk.i64_in _ ⟨by omega, by omega⟩
                have hw2 : IntKind.i64.wrap (xb - (S - xa)) = xb - (S - xa) := IntWalk.i64_in _ ⟨by omega, by omega⟩
                have i4 : (a : Int) < (l.length : Int) := by omega
                have i5 : (b : Int) < (l.length : Int) := by omega
                have HZR : Hid (wo.heap.size < wr.heap.size) := HD2.out.lt
                clear hxa hxb ha2 hb2 ha3 hb3 hcl h1 h2
                go_wp2_with (first | (refine wpList_store_pair rfl _ _ _ rfl HO2.out ha xa b rfl rfl (by kernel_rfl) ?_; intro w2 hp hg hz; have HP2 := Lib.hid hp; have HG2 := Lib.hid hg; have HZ2 := Lib.hid hz; clear hp hg hz; have HL3 := Lib.hid (HL2.out.of_block (HG2.out.block _ HL2.out.lt (by simp))); have HD3 := Lib.hid (HD2.out.of_block (HG2.out.block _ HD2.out.lt (by simp; have := HZ.out; omega))); have HB3 : Hid (Below w.heap.size w w2) := HB2.out.grown HG2.out HB2.out.size (fun q hq => by injection hq with hq; omega)) | fail)
                have c1 := HL3.out.cell ha
                have c2 := HL3.out.cell hb
                rw [HXA.out] at c1
                rw [HXB.out] at c2
                have f2 := HL3.out.frozen b
                clear ca cb
                refine wp_region_plan [(0, 0), (1, 0), (2, 0), (3, 1), (4, 0), (5, 0), (6, 0), (7, 0), (8, 1), (9, 0), (10, 0), (11, 0), (12, 3)] (fun w' => w'.cell? ⟨w.heap.size, a, none⟩ = some (.int .i64 xa) ∧ w'.cell? ⟨w.heap.size, b, none⟩ = some (.int .i64 xb)) (by kernel_rfl) (by kernel_rfl) (fun _ d _ _ _ h => by cases d <;> exact h) ⟨c1, c2⟩ ?_
                iterate 12 ((first | (refine plan0 (v := ?_) rfl rfl (by rfl) ?_ ?_) | (refine plan1 (v := ?_) rfl rfl (by rfl) ?_ ?_)); rotate_left; (first | (intro w'; go_simp; with_reducible rfl) | (intro w' hS; obtain ⟨h1, h2⟩ := hS; go_simp; with_reducible rfl)); simp only [List.setIfInBounds_toArray, List.set_cons_zero, List.set_cons_succ])
                refine plan3 rfl rfl fun K' hK' => ?_
                have HL4 := Lib.hid (rowIs_set_int (w := w2.drew) HL3.out b (xb - (S - xa)))
                have HB4 : Hid (Below w.heap.size w (w2.drew.setCell ⟨w.heap.size, b, none⟩ (.int .i64 (xb - (S - xa))))) := (Below.drew HB3.out).setCell (Nat.le_refl _) _
                have HP4 : Hid (PRow (w2.drew.setCell ⟨w.heap.size, b, none⟩ (.int .i64 (xb - (S - xa)))) (w.heap.size + 1) l.length (updf s.V a xa) (updf s.T a b)) := PRow.far (w := w2.drew) HP2.out (by simp) _
                have HD4 : Hid ((w2.drew.setCell ⟨w.heap.size, b, none⟩ (.int .i64 (xb - (S - xa)))).rowIs wo.heap.size 4 l.length (fun i => .bool (s.D i))) := World.rowIs.setOther (w := w2.drew) HD3.out (by show wo.heap.size ≠ w.heap.size; have := HZ.out; omega) _
                go_simp
                refine hK' _ _ ?_
                clear hK' K' c1 c2 f2
                simp only [World.setCell_drew] at *
                generalize hw3 : w2.setCell ⟨w.heap.size, b, none⟩ (.int .i64 (xb - (S - xa))) = w3 at *
                have c3 := HD4.out.cell ha
                have f3 := HD4.out.frozen a
                have HW3 := Lib.hid hw3
                clear hw3 hw1 hw2
                refine planEnd ?_
                go_wp2_with fail
                go_roundg g'
                case measure => omega
                case rel =>
                  refine ⟨s.step S a b, by rw [HCT.out, if_pos ha]; have := HGC.out; omega, HNX2.out.symm.trans hrun.out, HOK2, ?_, ?_, ?_, HB4.out.setCell (by show w.heap.size ≤ wo.heap.size; have := HZ.out; omega) _⟩
                  · have h := HL4.out
                    rw [← HXA.out, ← HXB.out] at h
                    exact World.rowIs.setOther h (by show w.heap.size ≠ wo.heap.size; have := HZ.out; omega) _
                  · have h := HP4.out
                    rw [← HXA.out] at h
                    exact PRow.far h (by show w.heap.size + 1 ≠ wo.heap.size; have := HZ.out; omega) _
                  · refine (HD4.out.set a (.bool true)).congr fun i hi => ?_
                    show (if i = a then Value.bool true else .bool (s.D i)) = .bool (if i = a then true else s.D i)
                    split <;> rfl
  · have HL : Hid (amakeL l = []) := if_neg he
    obtain ⟨er, hr⟩ : ∃ er, (asumR l).2 = er := ⟨_, rfl⟩
    rw [hr]
    have hne : (er != 0) = true := by rw [← hr]; simpa using he
    have HR : Hid (asumR l = ((asumR l).1, er)) := Prod.ext rfl hr
    rw [HR.out] at HSUM
    clear he hr HR
    generalize (asumR l).1 = S0 at *
    go_enter Tryd.func23, Tryd.ntmps23
    go_wp2_with fail
    refine HSUM.out.mono ?_
    rintro e w1 ⟨rfl, rfl⟩
    go_wp2_with fail
    go_ret2
    rw [HL.out]
    exact POut.nil_ (Below.refl _ _)
end Go.Proofs.YtmibifmabkaakaaDoor
