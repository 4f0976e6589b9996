/- Package gray and its reference: Least, XLess, walked. No condition but the slices' own size. -/
import Derived.Test.YtmibifmabkaakaaDoorGraP
import Derived.Test.YtmibifmabkaakaaDoorGraB
import Derived.Test.YtmibifmabkaakaaDoorHeld
import Derived.BigQuiet
namespace Go.Proofs.YtmibifmabkaakaaDoor
open Go.ChangeShapes Go.WideShapes Go.ChangeAt Go.RowKit
set_option linter.unusedVariables false

/-- Where two rows part first: what the first one has there. -/
def scan (f g : Nat → Bool) : Nat → Nat → Bool
  | _, 0 => false
  | i, m + 1 => if f i = g i then scan f g (i + 1) m else f i
theorem scan_congr {f g f' g' : Nat → Bool} {n : Nat} (hf : ∀ i, i < n → f i = f' i) (hg : ∀ i, i < n → g i = g' i) : ∀ m i, i + m ≤ n → scan f g i m = scan f' g' i m
  | 0, _, _ => rfl
  | m + 1, i, h => by
    rw [scan, scan, hf i (by omega), hg i (by omega), scan_congr hf hg m (i + 1) (by omega)]
theorem scan_self (f : Nat → Bool) : ∀ m i, scan f f i m = false
  | 0, _ => rfl
  | m + 1, i => by rw [scan, if_pos rfl]; exact scan_self f m (i + 1)
def rbit (w : List Bool) (b i : Nat) : Bool := bat w ((b + i) % w.length)
/-- Is w, turned to k, less than w, turned to b? -/
def lless (w : List Bool) (b k : Nat) : Bool := scan (rbit w b) (rbit w k) 0 w.length
def lbest (w : List Bool) : Nat → Nat
  | 0 => 0
  | k + 1 => if lless w (lbest w k) k then k else lbest w k
theorem lbest_lt (w : List Bool) : ∀ k, 0 < k → lbest w k < k
  | 0, h => absurd h (Nat.not_lt_zero _)
  | 1, _ => by
    rw [lbest]; split <;> exact Nat.zero_lt_one
  | k + 2, _ => by
    have := lbest_lt w (k + 1) (Nat.succ_pos k)
    rw [lbest]; split <;> omega
theorem lbest_one (w : List Bool) : lbest w 1 = 0 := by
  show (if lless w 0 0 then 0 else 0) = 0
  split <;> rfl
def rotL (w : List Bool) (k : Nat) : List Bool := w.drop k ++ w.take k
theorem rotL_len {w : List Bool} {k : Nat} (h : k ≤ w.length) : (rotL w k).length = w.length := by
  unfold rotL; rw [List.length_append, List.length_drop, List.length_take]; omega
theorem rotL_bit {w : List Bool} {k i : Nat} (hk : k < w.length) (hi : i < w.length) : bat (rotL w k) i = rbit w k i := by
  unfold rbit bat rotL
  rw [List.getD_eq_getElem?_getD, List.getD_eq_getElem?_getD]
  by_cases h : k + i < w.length
  · rw [List.getElem?_append_left (by rw [List.length_drop]; omega), List.getElem?_drop, Nat.mod_eq_of_lt h]
  · rw [List.getElem?_append_right (by rw [List.length_drop]; omega), List.length_drop, List.getElem?_take_of_lt (by omega)]
    have e : (k + i) % w.length = k + i - w.length := by
      rw [Nat.mod_eq_sub_mod (by omega), Nat.mod_eq_of_lt (by omega)]
    rw [e, show i - (w.length - k) = k + i - w.length by omega]
def leastL (w : List Bool) : Int × Int := if w.length < 1 ∨ 400 < w.length then (0, 2) else ((lbest w w.length : Nat), 0)
theorem least_bad (A : Option Addr) (l : List Bool) (c : Nat) (w : World) (h : l.length < 1 ∨ 400 < l.length) :
    Calls Tryd.prog 44 #[.slice A l.length c] w fun e w' => e = .returned (.tuple #[.int .i64 0, .int .i64 2]) ∧ w' = w := by
  rcases (by omega : l.length = 0 ∨ (¬ l.length = 0 ∧ 400 < l.length)) with h1 | ⟨h1, h2⟩
  · rw [h1]
    clear h
    go_enter Tryd.func44, Tryd.ntmps44
    go_wp2_with fail
    go_ret2
    exact ⟨rfl, rfl⟩
  · have i0 : ¬ (l.length : Int) < 1 := by omega
    have i1 : (400 : Int) < (l.length : Int) := by omega
    clear h h1
    go_enter Tryd.func44, Tryd.ntmps44
    go_wp2_with fail
    go_ret2
    exact ⟨rfl, rfl⟩
theorem lmod {b i n : Nat} (hb : b < 400) (hi : i < 400) (hn : 0 < n) (hn4 : n ≤ 400) : ∃ q s : Nat, q = (b + i) % n ∧ q < n ∧ wrap64 ((b : Int) + (i : Int)) = (s : Int) ∧ IntKind.i64.wrap ((b : Int) + (i : Int)) = (s : Int) ∧ Int.tmod (s : Int) (n : Int) = (q : Int) ∧ wrap64 (q : Int) = (q : Int) ∧ IntKind.i64.wrap (q : Int) = (q : Int) := by
  have hq := Nat.mod_lt (b + i) hn
  refine ⟨(b + i) % n, b + i, rfl, hq, ?_, ?_, bmod hn, ?_, ?_⟩
  · unfold wrap64; omega
  · rw [IntWalk.i64_in _ (by omega)]; omega
  · generalize (b + i) % n = q at *; unfold wrap64; omega
  · generalize (b + i) % n = q at *; exact IntWalk.i64_in _ (by omega)
set_option maxRecDepth 20000 in
set_option maxHeartbeats 8000000 in
theorem least_ok (A : Option Addr) (l : List Bool) (c B : Nat) (w : World) (hs : Seg w B A (l.map .bool)) (h1 : 1 ≤ l.length) (h4 : l.length ≤ 400) :
    Calls Tryd.prog 44 #[.slice A l.length c] w fun e w' => e = .returned (.tuple #[.int .i64 (lbest l l.length : Nat), .int .i64 0]) ∧ ∃ m, w' = w.drewN m := by
  have HS := Lib.hid hs
  obtain ⟨n, hn⟩ : ∃ n, n = l.length := ⟨_, rfl⟩
  have HN := Lib.hid (And.intro hn (And.intro (by omega : 1 ≤ n) (by omega : n ≤ 400)))
  rw [← hn]
  have i0 : ¬ (n : Int) < 1 := by omega
  have i1 : ¬ (400 : Int) < (n : Int) := by omega
  clear hs hn h1 h4
  go_enter Tryd.func44, Tryd.ntmps44
  go_wp2_with fail
  clear i0 i1
  go_loopw [4, 5] (fun s4 s5 wx => ∃ k m : Nat, 1 ≤ k ∧ k ≤ n ∧ s5 = .int .i64 k ∧ s4 = .int .i64 (lbest l k : Nat) ∧ wx = w.drewN m) (fun _ s5 _ => n - (intOf s5).toNat)
  case atStart => exact ⟨1, 0, Nat.le_refl _, HN.out.2.1, rfl, by rw [lbest_one]; rfl, rfl⟩
  case round =>
    obtain ⟨k, m, hk1, hk, rfl, rfl, rfl⟩ := hrel
    by_cases hkl : k < n
    · have i2 : (k : Int) < (n : Int) := by omega
      have uk : Hid (wrap64 ((k : Int) + 1) = ((k + 1 : Nat) : Int)) := gw64 (by have := HN.out; omega)
      have hbl := lbest_lt l k hk1
      have HST : Hid (lbest l (k + 1) = if lless l (lbest l k) k then k else lbest l k) := rfl
      have HLS : Hid (lless l (lbest l k) k = scan (rbit l (lbest l k)) (rbit l k) 0 n) := by unfold Hid lless; rw [← HN.out.1]
      obtain ⟨b, hb⟩ : ∃ b, b = lbest l k := ⟨_, rfl⟩
      rw [← hb] at hbl HST HLS ⊢
      have HB := Lib.hid (And.intro hbl (And.intro hk1 (And.intro hk hkl)))
      obtain ⟨lb, hlb⟩ : ∃ lb, lb = lless l b k := ⟨_, rfl⟩
      rw [← hlb] at HST HLS
      clear hb hbl hk1 hk hkl hlb
      go_wp2_with fail
      clear i2
      --LOOK1
      go_loopw [4, 25] (fun s4 s25 wx => ∃ i m2 : Nat, i ≤ n ∧ s25 = .int .i64 i ∧ s4 = .int .i64 (b : Nat) ∧ Hid (scan (rbit l b) (rbit l k) i (n - i) = lb) ∧ wx = w.drewN m2) (fun _ s25 _ => n - (intOf s25).toNat)
      case atStart => exact ⟨0, m, Nat.zero_le _, rfl, rfl, HLS.out.symm, rfl⟩
      case round =>
        obtain ⟨i, m2, hi, rfl, rfl, hsc, rfl⟩ := hrel
        by_cases hil : i < n
        · have i3 : (i : Int) < (n : Int) := by omega
          have ui : Hid (wrap64 ((i : Int) + 1) = ((i + 1 : Nat) : Int)) := gw64 (by have := HN.out; omega)
          have HST2 : Hid (lb = if rbit l b i = rbit l k i then scan (rbit l b) (rbit l k) (i + 1) (n - (i + 1)) else rbit l b i) := by
            unfold Hid
            rw [← hsc.out, show n - i = (n - (i + 1)) + 1 by omega, scan]
          obtain ⟨q1, s1, hq1, hq1l, a1, a2, a3, a4, a5⟩ := lmod (b := b) (i := i) (n := n) (by have := HB.out; have := HN.out; omega) (by have := HN.out; omega) (by omega) HN.out.2.2
          have HA1 := Lib.hid (And.intro a1 (And.intro a2 (And.intro a3 (And.intro a4 a5))))
          clear a1 a2 a3 a4 a5
          obtain ⟨q2, s2, hq2, hq2l, c1, c2, c3, c4, c5⟩ := lmod (b := k) (i := i) (n := n) (by have := HB.out; have := HN.out; omega) (by have := HN.out; omega) (by omega) HN.out.2.2
          have HC1 := Lib.hid (And.intro c1 (And.intro c2 (And.intro c3 (And.intro c4 c5))))
          clear c1 c2 c3 c4 c5
          have hr1 : Hid (rbit l b i = bat l q1) := by unfold Hid rbit; rw [hq1, ← HN.out.1]
          have hr2 : Hid (rbit l k i = bat l q2) := by unfold Hid rbit; rw [hq2, ← HN.out.1]
          obtain ⟨ad, rfl, _, hc1⟩ := HS.out.bat (k := q1) (by have := HN.out.1; omega)
          obtain ⟨ad2, e2, _, hc2⟩ := HS.out.bat (k := q2) (by have := HN.out.1; omega)
          injection e2 with e2
          subst e2
          rw [hr1.out, hr2.out] at HST2
          have j1 : (q1 : Int) < (n : Int) := Int.ofNat_lt.2 hq1l
          have j2 : (q2 : Int) < (n : Int) := Int.ofNat_lt.2 hq2l
          have j3 : ¬ n = 0 := Nat.ne_of_gt (Nat.lt_of_le_of_lt (Nat.zero_le _) hil)
          have j4 : ¬ (n : Int) = 0 := fun h => j3 (Int.ofNat.inj h)
          have HI := Lib.hid (And.intro hi hil)
          obtain ⟨x, hx⟩ : ∃ x, x = bat l q1 := ⟨_, rfl⟩
          obtain ⟨y, hy⟩ : ∃ y, y = bat l q2 := ⟨_, rfl⟩
          rw [← hx] at hc1 HST2
          rw [← hy] at hc2 HST2
          clear hq1 hq2 hq1l hq2l hx hy hi hil hsc hr1 hr2
          obtain ⟨a1, a2, a3, a4, a5⟩ := HA1.out
          obtain ⟨c1, c2, c3, c4, c5⟩ := HC1.out
          by_cases hxy : x = y
          · have hlb : Hid (scan (rbit l b) (rbit l k) (i + 1) (n - (i + 1)) = lb) := by unfold Hid; rw [HST2.out, if_pos hxy]
            have bt : (x != y) = false := by rw [hxy]; simp
            subst hxy
            go_wp2_with fail
            refine wp_region_plan [(0, 0), (1, 0), (2, 0), (3, 0), (4, 0), (5, 0), (6, 0), (7, 0), (8, 1), (9, 0), (10, 0), (11, 0), (12, 0), (13, 0), (14, 0), (15, 0), (16, 0), (17, 1), (18, 0), (19, 0)] (fun w' => w'.cell? (ad.add q1) = some (.bool x) ∧ w'.cell? (ad.add q2) = some (.bool x)) (by kernel_rfl) (by kernel_rfl) (fun _ d _ _ _ h => by cases d <;> exact h) ⟨hc1, hc2⟩ ?_
            iterate 20 ((first | (refine plan0 (v := ?_) rfl rfl (by rfl) ?_ ?_) | (refine plan1 (v := ?_) rfl rfl (by rfl) ?_ ?_)); rotate_left; (first | (intro w'; go_simp; with_reducible rfl) | (intro w' hS; obtain ⟨h1, h2⟩ := hS; go_simp; with_reducible rfl)); simp only [List.setIfInBounds_toArray, List.set_cons_zero, List.set_cons_succ])
            refine planEnd ?_
            clear a1 a2 a3 a4 a5 c1 c2 c3 c4 c5 hc1 hc2 j1 j2 j3 j4
            go_wp2_with fail
            go_roundw
            case rel => exact ⟨i + 1, m2 + 1, by have := HI.out; omega, by first | rfl | rw [ui.out], rfl, hlb, rfl⟩
            case measure => (try rw [ui.out]); have := HI.out; simp [intOf]; omega
          · have hlb : Hid (lb = x) := by unfold Hid; rw [HST2.out, if_neg hxy]
            have bt : (x != y) = true := by rw [bne_iff_ne]; exact hxy
            cases x
            · have hlk : Hid (lbest l (k + 1) = b) := by unfold Hid; rw [HST.out, hlb.out]; rfl
              obtain rfl : y = true := by cases y <;> simp_all
              clear hxy bt
              go_wp2_with fail
              refine wp_region_plan [(0, 0), (1, 0), (2, 0), (3, 0), (4, 0), (5, 0), (6, 0), (7, 0), (8, 1), (9, 0), (10, 0), (11, 0), (12, 0), (13, 0), (14, 0), (15, 0), (16, 0), (17, 1), (18, 0), (19, 0)] (fun w' => w'.cell? (ad.add q1) = some (.bool false) ∧ w'.cell? (ad.add q2) = some (.bool true)) (by kernel_rfl) (by kernel_rfl) (fun _ d _ _ _ h => by cases d <;> exact h) ⟨hc1, hc2⟩ ?_
              iterate 20 ((first | (refine plan0 (v := ?_) rfl rfl (by rfl) ?_ ?_) | (refine plan1 (v := ?_) rfl rfl (by rfl) ?_ ?_)); rotate_left; (first | (intro w'; go_simp; with_reducible rfl) | (intro w' hS; obtain ⟨h1, h2⟩ := hS; go_simp; with_reducible rfl)); simp only [List.setIfInBounds_toArray, List.set_cons_zero, List.set_cons_succ])
              refine planEnd ?_
              clear a1 a2 a3 a4 a5 c1 c2 c3 c4 c5 hc1 hc2 j1 j2 j3 j4
              go_wp2_with fail
              go_roundw
              case rel => exact ⟨k + 1, m2 + 1, by omega, by have := HB.out; omega, by first | rfl | rw [uk.out], by rw [hlk.out], rfl⟩
              case measure => (try rw [uk.out]); have := HB.out; simp [intOf]; omega
            · have hlk : Hid (lbest l (k + 1) = k) := by unfold Hid; rw [HST.out, hlb.out]; rfl
              obtain rfl : y = false := by cases y <;> simp_all
              clear hxy bt
              go_wp2_with fail
              refine wp_region_plan [(0, 0), (1, 0), (2, 0), (3, 0), (4, 0), (5, 0), (6, 0), (7, 0), (8, 1), (9, 0), (10, 0), (11, 0), (12, 0), (13, 0), (14, 0), (15, 0), (16, 0), (17, 1), (18, 0), (19, 0)] (fun w' => w'.cell? (ad.add q1) = some (.bool true) ∧ w'.cell? (ad.add q2) = some (.bool false)) (by kernel_rfl) (by kernel_rfl) (fun _ d _ _ _ h => by cases d <;> exact h) ⟨hc1, hc2⟩ ?_
              iterate 20 ((first | (refine plan0 (v := ?_) rfl rfl (by rfl) ?_ ?_) | (refine plan1 (v := ?_) rfl rfl (by rfl) ?_ ?_)); rotate_left; (first | (intro w'; go_simp; with_reducible rfl) | (intro w' hS; obtain ⟨h1, h2⟩ := hS; go_simp; with_reducible rfl)); simp only [List.setIfInBounds_toArray, List.set_cons_zero, List.set_cons_succ])
              refine planEnd ?_
              clear a1 a2 a3 a4 a5 c1 c2 c3 c4 c5 hc1 hc2 j1 j2 j3 j4
              go_wp2_with fail
              go_roundw
              case rel => exact ⟨k + 1, m2 + 1, by omega, by have := HB.out; omega, by first | rfl | rw [uk.out], by rw [hlk.out], rfl⟩
              case measure => (try rw [uk.out]); have := HB.out; simp [intOf]; omega
        · obtain rfl : i = n := by omega
          have hlb : Hid (lb = false) := by
            have h := hsc.out
            rw [Nat.sub_self] at h
            exact h.symm
          have hlk : Hid (lbest l (k + 1) = b) := by unfold Hid; rw [HST.out, hlb.out]; rfl
          clear hi hil hsc
          go_wp2_with fail
          go_roundw
          case rel => exact ⟨k + 1, m2, by omega, by have := HB.out; omega, by first | rfl | rw [uk.out], by rw [hlk.out], rfl⟩
          case measure => (try rw [uk.out]); have := HB.out; simp [intOf]; omega
    · obtain rfl : k = n := by omega
      go_wp2_with fail
      go_ret2
      exact ⟨rfl, m, rfl⟩
set_option maxRecDepth 20000 in
set_option maxHeartbeats 4000000 in
theorem xless_any (A C : Option Addr) (la lb : List Bool) (c d B D : Nat) (w : World) (ha : Seg w B A (la.map .bool)) (hb : Seg w D C (lb.map .bool)) (hn : la.length = lb.length) (hm : la.length ≤ 400) :
    Calls Tryd.prog 50 #[.slice A la.length c, .slice C lb.length d] w fun e w' => e = .returned (.bool (scan (bat lb) (bat la) 0 la.length)) ∧ ∃ m, w' = w.drewN m := by
  have HA := Lib.hid ha
  have HB := Lib.hid hb
  rw [← hn]
  obtain ⟨n, hnn⟩ : ∃ n, n = la.length := ⟨_, rfl⟩
  have HN := Lib.hid (And.intro hnn (And.intro hn hm))
  rw [← hnn]
  obtain ⟨R, hR⟩ : ∃ R, R = scan (bat lb) (bat la) 0 n := ⟨_, rfl⟩
  have HR := Lib.hid hR
  rw [← hR]
  clear ha hb hn hm hnn hR
  go_enter Tryd.func50, Tryd.ntmps50
  go_wp2_with fail
  go_loopw [8] (fun s8 wx => ∃ i m : Nat, i ≤ n ∧ s8 = .int .i64 i ∧ Hid (scan (bat lb) (bat la) i (n - i) = R) ∧ wx = w.drewN m) (fun s8 _ => n - (intOf s8).toNat)
  case atStart => exact ⟨0, 0, Nat.zero_le _, rfl, HR.out.symm, rfl⟩
  case round =>
    obtain ⟨i, m, hi, rfl, hsc, rfl⟩ := hrel
    by_cases hil : i < n
    · have i3 : (i : Int) < (n : Int) := by omega
      have ui : Hid (wrap64 ((i : Int) + 1) = ((i + 1 : Nat) : Int)) := gw64 (by have := HN.out; omega)
      have HST2 : Hid (R = if bat lb i = bat la i then scan (bat lb) (bat la) (i + 1) (n - (i + 1)) else bat lb i) := by
        unfold Hid
        rw [← hsc.out, show n - i = (n - (i + 1)) + 1 by omega, scan]
      obtain ⟨ad, rfl, _, hc1⟩ := HA.out.bat (k := i) (by have := HN.out.1; omega)
      obtain ⟨cd, rfl, _, hc2⟩ := HB.out.bat (k := i) (by have := HN.out; omega)
      have HI := Lib.hid (And.intro hi hil)
      obtain ⟨x, hx⟩ : ∃ x, x = bat la i := ⟨_, rfl⟩
      obtain ⟨y, hy⟩ : ∃ y, y = bat lb i := ⟨_, rfl⟩
      rw [← hx] at hc1 HST2
      rw [← hy] at hc2 HST2
      clear hx hy hi hil hsc
      by_cases hxy : x = y
      · have hlb : Hid (scan (bat lb) (bat la) (i + 1) (n - (i + 1)) = R) := by unfold Hid; rw [HST2.out, if_pos hxy.symm]
        subst hxy
        have bt : (x != x) = false := by simp
        go_wp2_with fail
        refine wp_region_plan [(0, 0), (1, 0), (2, 0), (3, 1), (4, 0), (5, 0), (6, 0), (7, 1), (8, 0)] (fun w' => w'.cell? (ad.add i) = some (.bool x) ∧ w'.cell? (cd.add i) = some (.bool x)) (by kernel_rfl) (by kernel_rfl) (fun _ d _ _ _ h => by cases d <;> exact h) ⟨hc1, hc2⟩ ?_
        iterate 9 ((first | (refine plan0 (v := ?_) rfl rfl (by rfl) ?_ ?_) | (refine plan1 (v := ?_) rfl rfl (by rfl) ?_ ?_)); rotate_left; (first | (intro w'; go_simp; with_reducible rfl) | (intro w' hS; obtain ⟨h1, h2⟩ := hS; go_simp; with_reducible rfl)); simp only [List.setIfInBounds_toArray, List.set_cons_zero, List.set_cons_succ])
        refine planEnd ?_
        clear hc1 hc2
        go_wp2_with fail
        go_roundw
        case rel => exact ⟨i + 1, m + 1, by have := HI.out; omega, by first | rfl | rw [ui.out], hlb, rfl⟩
        case measure => (try rw [ui.out]); have := HI.out; simp [intOf]; omega
      · have hlb : Hid (R = y) := by unfold Hid; rw [HST2.out, if_neg (fun h => hxy h.symm)]
        have bt : (x != y) = true := by rw [bne_iff_ne]; exact hxy
        have bt2 : (x == y) = false := by rw [beq_eq_false_iff_ne]; exact hxy
        have hxy2 := hxy
        clear hxy
        go_wp2_with fail
        refine wp_region_plan [(0, 0), (1, 0), (2, 0), (3, 1), (4, 0), (5, 0), (6, 0), (7, 1), (8, 0)] (fun w' => w'.cell? (ad.add i) = some (.bool x) ∧ w'.cell? (cd.add i) = some (.bool y)) (by kernel_rfl) (by kernel_rfl) (fun _ d _ _ _ h => by cases d <;> exact h) ⟨hc1, hc2⟩ ?_
        iterate 9 ((first | (refine plan0 (v := ?_) rfl rfl (by rfl) ?_ ?_) | (refine plan1 (v := ?_) rfl rfl (by rfl) ?_ ?_)); rotate_left; (first | (intro w'; go_simp; with_reducible rfl) | (intro w' hS; obtain ⟨h1, h2⟩ := hS; go_simp; with_reducible rfl)); simp only [List.setIfInBounds_toArray, List.set_cons_zero, List.set_cons_succ])
        refine planEnd ?_
        have hc2' : ((w.drewN m).drew).cell? (cd.add i) = some (.bool y) := hc2
        clear hc1
        go_wp2_with fail
        go_ret
        exact ⟨by rw [hlb.out]; rfl, m + 1, rfl⟩
    · obtain rfl : i = n := by omega
      have hlb : Hid (R = false) := by
        have h := hsc.out
        rw [Nat.sub_self] at h
        exact h.symm
      go_wp2_with fail
      go_ret
      exact ⟨by rw [hlb.out]; rfl, m, rfl⟩
end Go.Proofs.YtmibifmabkaakaaDoor
