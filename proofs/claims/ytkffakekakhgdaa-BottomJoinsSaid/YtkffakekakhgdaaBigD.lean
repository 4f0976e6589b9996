/- Whole numbers in memory: compared; their lowest 64 bits. No condition. -/
import Derived.Test.YtkffakekakhgdaaBigC
namespace Go.Proofs.Ytkffakekakhgdaa
open Go.ChangeShapes Go.WideShapes Go.ChangeAt Go.RowKit

/-- -1, 0 or 1. -/
def cmpN (a b : Nat) : Int := if a < b then -1 else if b < a then 1 else 0
def cmpZ (a b : Int) : Int := if a < b then -1 else if b < a then 1 else 0
theorem cmpN_lt {a b : Nat} (h : a < b) : cmpN a b = -1 := if_pos h
theorem cmpN_gt {a b : Nat} (h : b < a) : cmpN a b = 1 := by unfold cmpN; rw [if_neg (by omega), if_pos h]
theorem cmpN_eq {a b : Nat} (h : a = b) : cmpN a b = 0 := by unfold cmpN; rw [if_neg (by omega), if_neg (by omega)]
theorem dr2 (w : World) (a b : Nat) : ∃ m, (w.drewN a).drewN b = w.drewN m := ⟨a + b, by simp⟩
theorem dr3 (w : World) (a b c : Nat) : ∃ m, ((w.drewN a).drewN b).drewN c = w.drewN m := ⟨a + (b + c), by simp [Nat.add_assoc]⟩
theorem ret_bi {a b : Int} (h : a = b) : Ending.returned (.int .i64 a) = .returned (.int .i64 b) := by rw [h]

set_option maxRecDepth 20000 in
set_option maxHeartbeats 4000000 in
theorem cmpAbs_any (gx ox gy oy : Nat) (bx by_ : Bool) (xs ys : List Nat) (w : World) (hx : IntAt w gx ox bx xs) (hy : IntAt w gy oy by_ ys) (kx : dok xs) (nx : dnorm xs) (ky : dok ys) (ny : dnorm ys) :
    Calls Try.prog 87 #[.pointer (some ⟨gx, ox, none⟩), .pointer (some ⟨gy, oy, none⟩)] w fun e w' => e = .returned (.int .i64 (cmpN (dv xs) (dv ys))) ∧ ∃ m, w' = w.drewN m := by
  obtain ⟨tx, cx, Ax, capx, hbx, _, _, hx1, hcx, hmx, hdx⟩ := hx
  obtain ⟨ty, cy, Ay, capy, hby, _, _, hy1, hcy, hmy, hdy⟩ := hy
  have c1 := hbx.cell (ox + 1) hx1
  have c2 := hby.cell (oy + 1) hy1
  have lx : xs.length ≤ 17592186044416 := hmx
  have ly : ys.length ≤ 17592186044416 := hmy
  have HDX := Lib.hid hdx
  have HDY := Lib.hid hdy
  clear hbx hx1 hcx hmx hdx hby hy1 hcy hmy hdy
  by_cases hlt : xs.length < ys.length
  · have hf : Hid (cmpN (dv xs) (dv ys) = -1) := cmpN_lt (dv_len_lt kx ny hlt)
    have d1 : ((xs.length : Int) == (ys.length : Int)) = false := by simp; omega
    have d2 : decide ((xs.length : Int) < (ys.length : Int)) = true := decide_eq_true (by omega)
    have d3 : decide (xs.length < ys.length) = true := decide_eq_true hlt
    clear kx nx ky ny
    go_enter Try.func87, Try.ntmps87
    go_wp2_with fail
    go_quiet (fail)
    go_wp2_with fail
    go_quiet (fail)
    go_wp2_with fail
    go_ret
    exact ⟨ret_bi hf.out.symm, dr2 _ _ _⟩
  by_cases hgt : ys.length < xs.length
  · have hf : Hid (cmpN (dv xs) (dv ys) = 1) := cmpN_gt (dv_len_lt ky nx hgt)
    have d1 : ((xs.length : Int) == (ys.length : Int)) = false := by simp; omega
    have d2 : decide ((xs.length : Int) < (ys.length : Int)) = false := decide_eq_false (by omega)
    have d3 : decide (xs.length < ys.length) = false := decide_eq_false hlt
    clear kx nx ky ny
    go_enter Try.func87, Try.ntmps87
    go_wp2_with fail
    go_quiet (fail)
    go_wp2_with fail
    go_quiet (fail)
    go_wp2_with fail
    go_ret
    exact ⟨ret_bi hf.out.symm, dr2 _ _ _⟩
  have hl : xs.length = ys.length := by omega
  have HL := Lib.hid hl
  have d1 : ((xs.length : Int) == (ys.length : Int)) = true := by simp; omega
  clear hlt hgt hl nx ny
  go_enter Try.func87, Try.ntmps87
  go_wp2_with fail
  go_quiet (fail)
  go_wp2_with fail
  clear d1
  go_loopw [5] (fun s5 wr => ∃ (n m : Nat), n ≤ xs.length ∧ s5 = .int .i64 ((n : Int) - 1) ∧ wr = w.drewN m ∧ Hid (∀ i, n ≤ i → i < xs.length → gd xs i = gd ys i)) (fun s5 _ => (intOf s5 + 1).toNat)
  case atStart => exact ⟨xs.length, _, Nat.le_refl _, rfl, rfl, fun i h1 h2 => by omega⟩
  case round =>
    obtain ⟨n, m, hn, rfl, rfl, he⟩ := hrel
    by_cases h0 : n = 0
    · subst h0
      have hf : Hid (cmpN (dv xs) (dv ys) = 0) := cmpN_eq (by
        unfold dv; rw [← HL.out]; exact fv_congr fun i hi => he.out i (Nat.zero_le _) hi)
      go_wp2_with fail
      go_ret
      exact ⟨ret_bi hf.out.symm, _, rfl⟩
    · obtain ⟨k, rfl⟩ : ∃ k, n = k + 1 := ⟨n - 1, by omega⟩
      obtain ⟨ax, hax, vx⟩ := HDX.out.cell (u32s_get (show k < xs.length by omega))
      obtain ⟨ay, hay, vy⟩ := HDY.out.cell (u32s_get (show k < ys.length by rw [← HL.out]; omega))
      have ik : ((k + 1 : Nat) : Int) - 1 = (k : Int) := by omega
      rw [ik]
      have i1 : (k : Int) < (xs.length : Int) := by omega
      have i2 : (k : Int) < (ys.length : Int) := by have := HL.out; omega
      have d0 : decide (0 ≤ (k : Int)) = true := decide_eq_true (by omega)
      have HX := Lib.hid (kx k (by omega))
      have HE : Hid (gd xs k < gd ys k → cmpN (dv xs) (dv ys) = -1) := fun h => cmpN_lt (by
        unfold dv; rw [← HL.out]; exact fv_less (show k < xs.length by omega) kx (fun i h1 h2 => he.out i h1 h2) h)
      have HE2 : Hid (gd ys k < gd xs k → cmpN (dv xs) (dv ys) = 1) := fun h => cmpN_gt (by
        unfold dv; rw [← HL.out]; exact fv_less (show k < xs.length by omega) (by rw [HL.out]; exact ky) (fun i h1 h2 => (he.out i h1 h2).symm) h)
      have HN : Hid (gd xs k = gd ys k → ∀ i, k ≤ i → i < xs.length → gd xs i = gd ys i) := fun h i h1 h2 => by
        by_cases hi : i = k
        · subst hi; exact h
        · exact he.out i (by omega) h2
      subst hax
      subst hay
      generalize gd xs k = x at *
      generalize gd ys k = y at *
      by_cases hxy : x = y
      · have HK := Lib.hid (HN.out hxy)
        subst hxy
        have d1 : ((x : Int) == (x : Int)) = true := by simp
        clear HE HE2 HN
        go_wp2_with fail
        go_quiet (fail)
        go_wp2_with fail
        go_roundw
        case rel => exact ⟨k, _, by omega, rfl, rfl, HK.out⟩
        case measure => simp [intOf]
      · have d1 : ((x : Int) == (y : Int)) = false := by simp; omega
        by_cases hl : x < y
        · have hf := Lib.hid (HE.out hl)
          have d2 : decide ((x : Int) < (y : Int)) = true := decide_eq_true (by omega)
          have d3 : decide (x < y) = true := decide_eq_true hl
          clear HE HE2 HN hxy
          go_wp2_with fail
          go_quiet (fail)
          go_wp2_with fail
          go_quiet (fail)
          go_wp2_with fail
          go_ret
          exact ⟨ret_bi hf.out.symm, dr3 _ _ _ _⟩
        · have hf := Lib.hid (HE2.out (by omega))
          have d2 : decide ((x : Int) < (y : Int)) = false := decide_eq_false (by omega)
          have d3 : decide (x < y) = false := decide_eq_false hl
          clear HE HE2 HN hxy
          go_wp2_with fail
          go_quiet (fail)
          go_wp2_with fail
          go_quiet (fail)
          go_wp2_with fail
          go_ret
          exact ⟨ret_bi hf.out.symm, dr3 _ _ _ _⟩
end Go.Proofs.Ytkffakekakhgdaa
