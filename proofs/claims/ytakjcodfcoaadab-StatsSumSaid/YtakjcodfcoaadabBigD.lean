/- Whole numbers in memory: compared; their lowest 64 bits. No condition. -/
import Derived.Test.YtakjcodfcoaadabBigC
namespace Go.Proofs.Ytakjcodfcoaadab
open Go.ChangeShapes Go.WideShapes Go.ChangeAt Go.RowKit

/-- -1, 0 or 1. -/
def cmpN (a b : Nat) : Int := if a < b then -1 else if b < a then 1 else 0
def cmpZ (a b : Int) : Int := if a < b then -1 else if b < a then 1 else 0
theorem cmpN_lt {a b : Nat} (h : a < b) : cmpN a b = -1 := if_pos h
theorem cmpN_gt {a b : Nat} (h : b < a) : cmpN a b = 1 := by unfold cmpN; rw [if_neg (by omega), if_pos h]
theorem cmpN_eq {a b : Nat} (h : a = b) : cmpN a b = 0 := by unfold cmpN; rw [if_neg (by omega), if_neg (by omega)]
theorem dr2 (w : World) (a b : Nat) : ∃ m, (w.drewN a).drewN b = w.drewN m := ⟨a + b, by simp⟩
theorem dr3 (w : World) (a b c : Nat) : ∃ m, ((w.drewN a).drewN b).drewN c = w.drewN m := ⟨a + (b + c), by simp [Nat.add_assoc]⟩
theorem ret_bi {a b : Int} (h : a = b) : Ending.returned (.int .i64 a) = .returned (.int .i64 b) := by rw [h]

set_option maxRecDepth 20000 in
set_option maxHeartbeats 4000000 in
theorem cmpAbs_any (gx ox gy oy : Nat) (bx by_ : Bool) (xs ys : List Nat) (w : World) (hx : IntAt w gx ox bx xs) (hy : IntAt w gy oy by_ ys) (kx : dok xs) (nx : dnorm xs) (ky : dok ys) (ny : dnorm ys) :
    Calls Try.prog 48 #[.pointer (some ⟨gx, ox, none⟩), .pointer (some ⟨gy, oy, none⟩)] w fun e w' => e = .returned (.int .i64 (cmpN (dv xs) (dv ys))) ∧ ∃ m, w' = w.drewN m := by
  obtain ⟨tx, cx, Ax, capx, hbx, _, _, hx1, hcx, hmx, hdx⟩ := hx
  obtain ⟨ty, cy, Ay, capy, hby, _, _, hy1, hcy, hmy, hdy⟩ := hy
  have c1 := hbx.cell (ox + 1) hx1
  have c2 := hby.cell (oy + 1) hy1
  have lx : xs.length ≤ 17592186044416 := hmx
  have ly : ys.length ≤ 17592186044416 := hmy
  have HDX := Lib.hid hdx
  have HDY := Lib.hid hdy
  clear hbx hx1 hcx hmx hdx hby hy1 hcy hmy hdy
  by_cases hlt : xs.length < ys.length
  · have hf : Hid (cmpN (dv xs) (dv ys) = -1) := cmpN_lt (dv_len_lt kx ny hlt)
    have d1 : ((xs.length : Int) == (ys.length : Int)) = false := by simp; omega
    have d2 : decide ((xs.length : Int) < (ys.length : Int)) = true := decide_eq_true (by omega)
    have d3 : decide (xs.length < ys.length) = true := decide_eq_true hlt
    clear kx nx ky ny
    go_enter Try.func48, Try.ntmps48
    go_wp2_with fail
    go_quiet (fail)
    go_wp2_with fail
    go_quiet (fail)
    go_wp2_with fail
    go_ret
    exact ⟨ret_bi hf.out.symm, dr2 _ _ _⟩
  by_cases hgt : ys.length < xs.length
  · have hf : Hid (cmpN (dv xs) (dv ys) = 1) := cmpN_gt (dv_len_lt ky nx hgt)
    have d1 : ((xs.length : Int) == (ys.length : Int)) = false := by simp; omega
    have d2 : decide ((xs.length : Int) < (ys.length : Int)) = false := decide_eq_false (by omega)
    have d3 : decide (xs.length < ys.length) = false := decide_eq_false hlt
    clear kx nx ky ny
    go_enter Try.func48, Try.ntmps48
    go_wp2_with fail
    go_quiet (fail)
    go_wp2_with fail
    go_quiet (fail)
    go_wp2_with fail
    go_ret
    exact ⟨ret_bi hf.out.symm, dr2 _ _ _⟩
  have hl : xs.length = ys.length := by omega
  have HL := Lib.hid hl
  have d1 : ((xs.length : Int) == (ys.length : Int)) = true := by simp; omega
  clear hlt hgt hl nx ny
  go_enter Try.func48, Try.ntmps48
  go_wp2_with fail
  go_quiet (fail)
  go_wp2_with fail
  clear d1
  go_loopw [5] (fun s5 wr => ∃ (n m : Nat), n ≤ xs.length ∧ s5 = .int .i64 ((n : Int) - 1) ∧ wr = w.drewN m ∧ Hid (∀ i, n ≤ i → i < xs.length → gd xs i = gd ys i)) (fun s5 _ => (intOf s5 + 1).toNat)
  case atStart => exact ⟨xs.length, _, Nat.le_refl _, rfl, rfl, fun i h1 h2 => by omega⟩
  case round =>
    obtain ⟨n, m, hn, rfl, rfl, he⟩ := hrel
    by_cases h0 : n = 0
    · subst h0
      have hf : Hid (cmpN (dv xs) (dv ys) = 0) := cmpN_eq (by
        unfold dv; rw [← HL.out]; exact fv_congr fun i hi => he.out i (Nat.zero_le _) hi)
      go_wp2_with fail
      go_ret
      exact ⟨ret_bi hf.out.symm, _, rfl⟩
    · obtain ⟨k, rfl⟩ : ∃ k, n = k + 1 := ⟨n - 1, by omega⟩
      obtain ⟨ax, hax, vx⟩ := HDX.out.cell (u32s_get (show k < xs.length by omega))
      obtain ⟨ay, hay, vy⟩ := HDY.out.cell (u32s_get (show k < ys.length by rw [← HL.out]; omega))
      have ik : ((k + 1 : Nat) : Int) - 1 = (k : Int) := by omega
      rw [ik]
      have i1 : (k : Int) < (xs.length : Int) := by omega
      have i2 : (k : Int) < (ys.length : Int) := by have := HL.out; omega
      have d0 : decide (0 ≤ (k : Int)) = true := decide_eq_true (by omega)
      have HX := Lib.hid (kx k (by omega))
      have HE : Hid (gd xs k < gd ys k → cmpN (dv xs) (dv ys) = -1) := fun h => cmpN_lt (by
        unfold dv; rw [← HL.out]; exact fv_less (show k < xs.length by omega) kx (fun i h1 h2 => he.out i h1 h2) h)
      have HE2 : Hid (gd ys k < gd xs k → cmpN (dv xs) (dv ys) = 1) := fun h => cmpN_gt (by
        unfold dv; rw [← HL.out]; exact fv_less (show k < xs.length by omega) (by rw [HL.out]; exact ky) (fun i h1 h2 => (he.out i h1 h2).symm) h)
      have HN : Hid (gd xs k = gd ys k → ∀ i, k ≤ i → i < xs.length → gd xs i = gd ys i) := fun h i h1 h2 => by
        by_cases hi : i = k
        · subst hi; exact h
        · exact he.out i (by omega) h2
      subst hax
      subst hay
      generalize gd xs k = x at *
      generalize gd ys k = y at *
      by_cases hxy : x = y
      · have HK := Lib.hid (HN.out hxy)
        subst hxy
        have d1 : ((x : Int) == (x : Int)) = true := by simp
        clear HE HE2 HN
        go_wp2_with fail
        go_quiet (fail)
        go_wp2_with fail
        go_roundw
        case rel => exact ⟨k, _, by omega, rfl, rfl, HK.out⟩
        case measure => simp [intOf]
      · have d1 : ((x : Int) == (y : Int)) = false := by simp; omega
        by_cases hl : x < y
        · have hf := Lib.hid (HE.out hl)
          have d2 : decide ((x : Int) < (y : Int)) = true := decide_eq_true (by omega)
          have d3 : decide (x < y) = true := decide_eq_true hl
          clear HE HE2 HN hxy
          go_wp2_with fail
          go_quiet (fail)
          go_wp2_with fail
          go_quiet (fail)
          go_wp2_with fail
          go_ret
          exact ⟨ret_bi hf.out.symm, dr3 _ _ _ _⟩
        · have hf := Lib.hid (HE2.out (by omega))
          have d2 : decide ((x : Int) < (y : Int)) = false := decide_eq_false (by omega)
          have d3 : decide (x < y) = false := decide_eq_false hl
          clear HE HE2 HN hxy
          go_wp2_with fail
          go_quiet (fail)
          go_wp2_with fail
          go_quiet (fail)
          go_wp2_with fail
          go_ret
          exact ⟨ret_bi hf.out.symm, dr3 _ _ _ _⟩

/-- The sign. -/
def sgn (z : Int) : Int := if z = 0 then 0 else if z < 0 then -1 else 1
set_option maxRecDepth 20000 in
set_option maxHeartbeats 2000000 in
theorem sign_any (gx ox : Nat) (z : Int) (w : World) (hx : IntZ w gx ox z) :
    Calls Try.prog 49 #[.pointer (some ⟨gx, ox, none⟩)] w fun e w' => e = .returned (.int .i64 (sgn z)) ∧ w = w' := by
  obtain ⟨b, ds, ⟨tx, cx, Ax, capx, hbx, _, hx0, hx1, hcx, hmx, hdx⟩, hz⟩ := hx
  have c0 := hbx.cell ox hx0
  have c1 := hbx.cell (ox + 1) hx1
  have l0 := dv_zero hz.2.1
  have l1 := hz.abs
  have l2 := hz.neg_iff
  by_cases h0 : ds.length = 0
  · have hf : Hid (sgn z = 0) := if_pos (by have := l0.2 h0; omega)
    have d1 : ((ds.length : Int) == 0) = true := by rw [h0]; rfl
    clear hbx hx0 hx1 hcx hmx hdx hz l0 l1 l2 h0
    go_enter Try.func49, Try.ntmps49
    go_wp2_with fail
    go_ret
    exact ⟨ret_bi hf.out.symm, rfl⟩
  · have d1 : ((ds.length : Int) == 0) = false := by rw [beq_eq_false_iff_ne]; omega
    have hz0 : z ≠ 0 := fun h => h0 (l0.1 (by omega))
    cases b with
    | true =>
      have hf : Hid (sgn z = -1) := by unfold Hid sgn; rw [if_neg hz0, if_pos (of_decide_eq_true l2.symm)]
      clear hbx hx0 hx1 hcx hmx hdx hz l0 l1 l2 h0 hz0
      go_enter Try.func49, Try.ntmps49
      go_wp2_with fail
      go_ret
      exact ⟨ret_bi hf.out.symm, rfl⟩
    | false =>
      have hf : Hid (sgn z = 1) := by unfold Hid sgn; rw [if_neg hz0, if_neg (of_decide_eq_false l2.symm)]
      clear hbx hx0 hx1 hcx hmx hdx hz l0 l1 l2 h0 hz0
      go_enter Try.func49, Try.ntmps49
      go_wp2_with fail
      go_ret
      exact ⟨ret_bi hf.out.symm, rfl⟩

theorem cmpZ_of {bx by_ : Bool} {xs ys : List Nat} {x y : Int} (hx : IsZ bx xs x) (hy : IsZ by_ ys y) : cmpZ x y = if bx = by_ then (if bx = true then cmpN (dv ys) (dv xs) else cmpN (dv xs) (dv ys)) else if bx = true then -1 else 1 := by
  have h1 := hx.2.2.2
  have h2 := hy.2.2.2
  have n1 := hx.neg_iff
  have n2 := hy.neg_iff
  unfold cmpZ cmpN
  cases bx <;> cases by_ <;> simp only [if_true, if_false, reduceCtorEq, Bool.false_eq_true] at h1 h2 ⊢
  · repeat' split
    all_goals omega
  · have := of_decide_eq_false n1.symm; have := of_decide_eq_true n2.symm; repeat' split
    all_goals omega
  · have := of_decide_eq_true n1.symm; have := of_decide_eq_false n2.symm; repeat' split
    all_goals omega
  · repeat' split
    all_goals omega
set_option maxRecDepth 20000 in
set_option maxHeartbeats 2000000 in
theorem cmp_any (gx ox gy oy : Nat) (x y : Int) (w : World) (hx : IntZ w gx ox x) (hy : IntZ w gy oy y) :
    Calls Try.prog 50 #[.pointer (some ⟨gx, ox, none⟩), .pointer (some ⟨gy, oy, none⟩)] w fun e w' => e = .returned (.int .i64 (cmpZ x y)) ∧ ∃ m, w' = w.drewN m := by
  obtain ⟨bx, xs, ax, zx⟩ := hx
  obtain ⟨by_, ys, ay, zy⟩ := hy
  have HE := Lib.hid (cmpZ_of zx zy)
  have AX := Lib.hid ax
  have AY := Lib.hid ay
  obtain ⟨tx, cx, Ax, capx, hbx, _, hx0, hx1, hcx, hmx, hdx⟩ := ax
  obtain ⟨ty, cy, Ay, capy, hby, _, hy0, hy1, hcy, hmy, hdy⟩ := ay
  have c0 := hbx.cell ox hx0
  have c1 := hby.cell oy hy0
  have HZ : Hid (dok xs ∧ dnorm xs ∧ dok ys ∧ dnorm ys) := ⟨zx.1, zx.2.1, zy.1, zy.2.1⟩
  clear hbx hx0 hx1 hcx hmx hdx hby hy0 hy1 hcy hmy hdy zx zy
  cases bx <;> cases by_
  · have hf : Hid (cmpZ x y = cmpN (dv xs) (dv ys)) := HE.out
    clear HE
    go_enter Try.func50, Try.ntmps50
    go_wp2_with fail
    go_quiet (fail)
    go_wp2_with fail
    refine (cmpAbs_any _ _ _ _ _ _ xs ys _ (AX.out.drewN _) (AY.out.drewN _) HZ.out.1 HZ.out.2.1 HZ.out.2.2.1 HZ.out.2.2.2).mono ?_
    rintro e w1 ⟨rfl, m, rfl⟩
    go_wp2_with fail
    go_ret
    exact ⟨ret_bi hf.out.symm, _, rfl⟩
  · have hf : Hid (cmpZ x y = 1) := HE.out
    clear HE
    go_enter Try.func50, Try.ntmps50
    go_wp2_with fail
    go_quiet (fail)
    go_wp2_with fail
    go_ret
    exact ⟨ret_bi hf.out.symm, _, rfl⟩
  · have hf : Hid (cmpZ x y = -1) := HE.out
    clear HE
    go_enter Try.func50, Try.ntmps50
    go_wp2_with fail
    go_quiet (fail)
    go_wp2_with fail
    go_ret
    exact ⟨ret_bi hf.out.symm, _, rfl⟩
  · have hf : Hid (cmpZ x y = cmpN (dv ys) (dv xs)) := HE.out
    clear HE
    go_enter Try.func50, Try.ntmps50
    go_wp2_with fail
    go_quiet (fail)
    go_wp2_with fail
    refine (cmpAbs_any _ _ _ _ _ _ ys xs _ (AY.out.drewN _) (AX.out.drewN _) HZ.out.2.2.1 HZ.out.2.2.2 HZ.out.1 HZ.out.2.1).mono ?_
    rintro e w1 ⟨rfl, m, rfl⟩
    go_wp2_with fail
    go_ret
    exact ⟨ret_bi hf.out.symm, _, rfl⟩
end Go.Proofs.Ytakjcodfcoaadab
