/- The reference's TAll with the law's first closure, walked. No condition but that both lists may be. -/
import Derived.Test.YtaehehoeidnidaaDicD
import Derived.StillTailTactics
namespace Go.Proofs.Ytaehehoeidnidaa
open Go.ChangeShapes Go.WideShapes Go.ChangeAt Go.RowKit Go.Maps
set_option linter.unusedVariables false

/-- A map reads as G, at numbers from 0 on, below lim. -/
def ValK (F : Int → Option Int) (G : Nat → Int) (lim : Nat) : Prop := (∀ k : Int, (F k).getD 0 = if 0 ≤ k then G k.toNat else 0) ∧ ∀ k v, F k = some v → 0 ≤ k ∧ k < lim
theorem ValK.none_ (lim : Nat) : ValK (fun _ => none) (fun _ => 0) lim := ⟨fun k => by simp, fun k v h => by cases h⟩
theorem ValK.upd {F : Int → Option Int} {G G' : Nat → Int} {lim K : Nat} {p : Int} (h : ValK F G lim) (hK : K < lim) (e : ∀ k, G' k = G k + if k = K then p else 0) : ValK (updK F (K : Int) p) G' lim := by
  refine ⟨fun k => ?_, fun k v hk => ?_⟩
  · unfold updK
    by_cases h1 : k = (K : Int)
    · subst h1
      rw [if_pos rfl, if_pos (by omega), Int.toNat_natCast, e K, if_pos rfl, Option.getD_some, h.1 (K : Int), if_pos (by omega), Int.toNat_natCast]
    · rw [if_neg h1, h.1 k]
      by_cases h2 : 0 ≤ k
      · rw [if_pos h2, if_pos h2, e, if_neg (by omega)]; omega
      · rw [if_neg h2, if_neg h2]
  · unfold updK at hk
    by_cases h1 : k = (K : Int)
    · subst h1; omega
    · rw [if_neg h1] at hk; exact h.2 k v hk
theorem ValK.at {F : Int → Option Int} {G : Nat → Int} {lim : Nat} (h : ValK F G lim) (k : Nat) : (F (k : Int)).getD 0 = G k := by
  rw [h.1 (k : Int), if_pos (by omega), Int.toNat_natCast]
theorem clo_any (x y : Nat) (n : Int) (h : Nat) (FS FM : Int → Option Int) (U L : Int) (n1 n2 : Nat) (w : World) (s : DSt w h FS FM U L n1 n2) (hx : x ≤ 200) (hy : y ≤ 200) (hn : 0 ≤ n ∧ n ≤ 1099511627776)
    (hS : 0 ≤ (FS ((x + y : Nat) : Int)).getD 0 ∧ (FS ((x + y : Nat) : Int)).getD 0 ≤ 99999999999999999) (hM : 0 ≤ (FM ((max x y : Nat) : Int)).getD 0 ∧ (FM ((max x y : Nat) : Int)).getD 0 ≤ 99999999999999999) (hU : 0 ≤ U ∧ U ≤ 99999999999999999) (hL : 0 ≤ L ∧ L ≤ 99999999999999999) (h1 : n1 ≤ 100000) (h2 : n2 ≤ 100000) :
    Calls Try.prog 79 #[.int .i64 x, .int .i64 y, .int .i64 n, .pointer (some ⟨h + 2, 0, none⟩), .pointer (some ⟨h + 3, 0, none⟩), .pointer (some ⟨h + 4, 0, none⟩), .pointer (some ⟨h + 5, 0, none⟩)] w
      (CloOut h (updK FS ((x + y : Nat) : Int) n) (updK FM ((max x y : Nat) : Int) n) (U + if hUp x y then n else 0) (L + if hLike x y then n else 0) (n1 + 1) (n2 + 1) w) := by
  rw [Int.natCast_add] at hS ⊢
  unfold hUp hLike
  rcases (by omega : y < x ∨ x = y ∨ x < y) with hc | hc | hc
  · rw [Nat.max_eq_left (by omega)] at hM ⊢
    rw [if_pos (by simp; omega), if_neg (by simp; omega), Int.add_zero]
    exact clo_up x y n h FS FM U L n1 n2 w s hc hx hy hn hS hM hU hL h1 h2
  · subst hc
    rw [Nat.max_self] at hM ⊢
    rw [if_neg (by simp), if_pos (by simp), Int.add_zero]
    exact clo_like x n h FS FM U L n1 n2 w s hx hn hS hM hU hL h1 h2
  · rw [Nat.max_eq_right (by omega)] at hM ⊢
    rw [if_neg (by simp; omega), if_neg (by simp; omega), Int.add_zero, Int.add_zero]
    exact clo_no x y n h FS FM U L n1 n2 w s hc hx hy hn hS hM hU hL h1 h2
/-- Where the reference stands. -/
def TSt (a b : List Int) (h i j : Nat) (w : World) : Prop :=
  ∃ FS FM n1 n2, DSt w h FS FM (acc hUp a b i j) (acc hLike a b i j) n1 n2 ∧ n1 ≤ i * 200 + j ∧ n2 ≤ i * 200 + j ∧ ValK FS (fun k => acc (hSum k) a b i j) (a.length + b.length - 1) ∧ ValK FM (fun k => acc (hMost k) a b i j) (max a.length b.length)
theorem TSt.row {a b : List Int} {h i : Nat} {w : World} (s : TSt a b h i b.length w) (hb : b.length ≤ 200) : TSt a b h (i + 1) 0 w := by
  obtain ⟨FS, FM, n1, n2, s1, h1, h2, v1, v2⟩ := s
  refine ⟨FS, FM, n1, n2, ?_, by omega, by omega, ?_, ?_⟩
  · rw [acc_row, acc_row]; exact s1
  · have : (fun k => acc (hSum k) a b (i + 1) 0) = fun k => acc (hSum k) a b i b.length := funext fun k => acc_row _ _ _ _
    rw [this]; exact v1
  · have : (fun k => acc (hMost k) a b (i + 1) 0) = fun k => acc (hMost k) a b i b.length := funext fun k => acc_row _ _ _ _
    rw [this]; exact v2
theorem TSt.below {a b : List Int} {h i j B : Nat} {w w' : World} (s : TSt a b h i j w) (hb : Below B w w') (hB : h + 5 < B) : TSt a b h i j w' := by
  obtain ⟨FS, FM, n1, n2, s1, r⟩ := s
  exact ⟨FS, FM, n1, n2, s1.below hb hB, r⟩
theorem TSt.drew {a b : List Int} {h i j : Nat} {w : World} (s : TSt a b h i j w) : TSt a b h i j w.drew := by
  obtain ⟨FS, FM, n1, n2, s1, r⟩ := s
  exact ⟨FS, FM, n1, n2, s1.drew, r⟩
/-- One call more. -/
theorem tst_call {a b : List Int} (ha : DOk a) (hb : DOk b) {h i j : Nat} {w : World} (s : TSt a b h i j w) (hi : i < a.length) (hj : j < b.length) {n : Int} (hn : n = dk a i * dk b j) :
    Calls Try.prog 79 #[.int .i64 i, .int .i64 j, .int .i64 n, .pointer (some ⟨h + 2, 0, none⟩), .pointer (some ⟨h + 3, 0, none⟩), .pointer (some ⟨h + 4, 0, none⟩), .pointer (some ⟨h + 5, 0, none⟩)] w
      (fun e w' => e = .returned (.tuple #[]) ∧ TSt a b h i (j + 1) w' ∧ Below h w w') := by
  obtain ⟨FS, FM, n1, n2, s1, h1, h2, v1, v2⟩ := s
  have la := ha.len
  have lb := hb.len
  have hp := prod_b ha hb i j
  rw [← hn] at hp
  refine (clo_any i j n h FS FM _ _ n1 n2 w s1 (by omega) (by omega) hp ?_ ?_ ?_ ?_ (by omega) (by omega)).mono ?_
  · rw [v1.at]; have := acc_b ha hb (hSum (i + j)) i j (by omega) (by omega); omega
  · rw [v2.at]; have := acc_b ha hb (hMost (max i j)) i j (by omega) (by omega); omega
  · have := acc_b ha hb hUp i j (by omega) (by omega); omega
  · have := acc_b ha hb hLike i j (by omega) (by omega); omega
  · rintro e w' ⟨rfl, s2, hb2⟩
    refine ⟨rfl, ⟨_, _, n1 + 1, n2 + 1, ?_, by omega, by omega, v1.upd (K := i + j) (p := n) (by omega) (fun k => ?_), v2.upd (K := max i j) (p := n) (by omega) (fun k => ?_)⟩, hb2⟩
    · rw [acc_step, acc_step, ← hn]; exact s2
    · rw [acc_step, ← hn]
      congr 1
      unfold hSum
      by_cases e : i + j = k
      · rw [if_pos (by simpa using e), if_pos e.symm]
      · rw [if_neg (by simpa using e), if_neg (fun h => e h.symm)]
    · rw [acc_step, ← hn]
      congr 1
      unfold hMost
      by_cases e : max i j = k
      · rw [if_pos (by simpa using e), if_pos e.symm]
      · rw [if_neg (by simpa using e), if_neg (fun h => e h.symm)]
/-- The closure as a value. -/
abbrev cloV (h : Nat) : Value := .func (.func 79) #[] #[.pointer (some ⟨h + 2, 0, none⟩), .pointer (some ⟨h + 3, 0, none⟩), .pointer (some ⟨h + 4, 0, none⟩), .pointer (some ⟨h + 5, 0, none⟩)]
set_option maxRecDepth 20000 in
set_option maxHeartbeats 4000000 in
theorem tall_any (A B : Option Addr) (a b : List Int) (c d h : Nat) (w : World) (ha : DOk a) (hb : DOk b) (hs : Seg w h A (a.map (.int .i64))) (ht : Seg w h B (b.map (.int .i64))) (s : TSt a b h 0 0 w) :
    Calls Try.prog 78 #[.slice A a.length c, .slice B b.length d, cloV h] w fun e w' => e = .returned (.tuple #[]) ∧ TSt a b h a.length 0 w' ∧ Below h w w' := by
  have HS := Lib.hid hs
  have HT := Lib.hid ht
  have HST := Lib.hid s
  have HA := Lib.hid ha
  have HB := Lib.hid hb
  have la : a.length ≤ 200 := ha.len
  have lb : b.length ≤ 200 := hb.len
  clear hs ht s ha hb
  go_enter Try.func78, Try.ntmps78
  go_wp2_with fail
  go_loopw [10] (fun s10 wx => ∃ i : Nat, i ≤ a.length ∧ s10 = .int .i64 i ∧ Hid (TSt a b h i 0 wx) ∧ Hid (Below h w wx)) (fun s10 _ => a.length - (intOf s10).toNat)
  case atStart => exact ⟨0, Nat.zero_le _, rfl, HST.out, Below.refl _ _⟩
  case round =>
    obtain ⟨i, hi, rfl, hst, hbl⟩ := hrel
    by_cases hli : i < a.length
    · have i0 : (i : Int) < (a.length : Int) := by omega
      obtain ⟨ad, rfl, _, c0⟩ := HS.out.dk hli
      have HI := Lib.hid (And.intro hi hli)
      have ui : Hid (wrap64 ((i : Int) + 1) = ((i + 1 : Nat) : Int)) := dk64 (by omega)
      obtain ⟨wo, rfl⟩ : ∃ wo : World, wo = wr := ⟨_, rfl⟩
      obtain ⟨x, hx⟩ : ∃ x, x = dk a i := ⟨_, rfl⟩
      rw [← hx] at c0
      have HX := Lib.hid hx
      have HC0 := Lib.hid c0
      clear hi hli hx c0
      go_wp2_with fail
      go_loopw [15] (fun s15 wx => ∃ j : Nat, j ≤ b.length ∧ s15 = .int .i64 j ∧ Hid (TSt a b h i j wx) ∧ Hid (Below h w wx)) (fun s15 _ => b.length - (intOf s15).toNat)
      case atStart => exact ⟨0, Nat.zero_le _, rfl, hst, hbl⟩
      case round =>
        obtain ⟨j, hk, rfl, hst2, hbl2⟩ := hrel
        by_cases hlt : j < b.length
        · have i1 : (j : Int) < (b.length : Int) := by omega
          obtain ⟨ae, rfl, _, c1⟩ := HT.out.dk hlt
          have hblk := HS.out.dk (show i < a.length from HI.out.2)
          obtain ⟨ad2, e2, hb2, _⟩ := hblk
          injection e2 with e2
          subst e2
          obtain ⟨ae2, e3, hb3, _⟩ := HT.out.dk hlt
          injection e3 with e3
          subst e3
          have d0 : wr.cell? (ad.add i) = some (.int .i64 x) := (hbl2.out.cell (by rw [addr_block]; exact hb2)).trans HC0.out
          obtain ⟨y, hy⟩ : ∃ y, y = dk b j := ⟨_, rfl⟩
          rw [← hy] at c1
          have d1 : wr.cell? (ae.add j) = some (.int .i64 y) := (hbl2.out.cell (by rw [addr_block]; exact hb3)).trans c1
          have hp := prod_b HA.out HB.out i j
          rw [← HX.out, ← hy] at hp
          have uk : Hid (wrap64 ((j : Int) + 1) = ((j + 1 : Nat) : Int)) := dk64 (by omega)
          have HK := Lib.hid (And.intro hk hlt)
          have HP : Hid (x * y = dk a i * dk b j) := by unfold Hid; rw [HX.out, hy]
          have m1 : IntKind.i64.wrap (x * y) = x * y := IntWalk.i64_in _ (by omega)
          have hcall := tst_call HA.out HB.out (w := wr.drew) (h := h) (i := i) (j := j) hst2.out.drew HI.out.2 hlt HP.out
          have HCALL := Lib.hid hcall
          clear c1 hy hp hk hlt hb2 hb3 hcall
          go_wp2_with fail
          go_still_tail 12, (by kernel_rfl)
          change wpList _ _ _ _ _ wr.drew
          go_wp2_with fail
          refine HCALL.out.mono ?_
          rintro e w1 ⟨rfl, hs1, hb1⟩
          have HS1 := Lib.hid hs1
          have HB1 := Lib.hid (hbl2.out.drew.trans hb1)
          clear hs1 hb1 m1 d0 d1
          go_wp2_with fail
          go_roundw
          case rel => exact ⟨j + 1, HK.out.2, by first | rfl | rw [uk.out], HS1.out, HB1.out⟩
          case measure => (try rw [uk.out]); have := HK.out; simp [intOf]; omega
        · obtain rfl : j = b.length := by omega
          go_wp2_with fail
          go_roundw
          case rel => exact ⟨i + 1, HI.out.2, by first | rfl | rw [ui.out], hst2.out.row lb, hbl2.out⟩
          case measure => (try rw [ui.out]); have := HI.out; simp [intOf]; omega
    · obtain rfl : i = a.length := by omega
      go_wp2_with fail
      go_end0
      exact ⟨rfl, hst.out, hbl.out⟩
end Go.Proofs.Ytaehehoeidnidaa
