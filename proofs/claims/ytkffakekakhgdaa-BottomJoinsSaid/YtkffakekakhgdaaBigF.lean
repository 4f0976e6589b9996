/- Digits added, and taken away, walked. No condition. -/
import Derived.Test.YtkffakekakhgdaaBigE
import Derived.Test.YtkffakekakhgdaaBigA
namespace Go.Proofs.Ytkffakekakhgdaa
open Go.ChangeShapes Go.WideShapes Go.ChangeAt Go.RowKit

/-- The call hands back new digits. -/
def NewDigs (w : World) (e : Ending) (w' : World) (P : List Nat → Prop) : Prop :=
  ∃ A c ds, e = .returned (.slice A ds.length c) ∧ ds.length ≤ c ∧ Digs w' A ds ∧ dok ds ∧ P ds ∧ Below w.heap.size w w'
theorem digs_of_row {w : World} {g n : Nat} {f : Nat → Value} {h : Nat → Nat} (hr : w.rowIs g tU n f) (hf : ∀ i, i < n → f i = dgt (h i)) : Digs w (some ⟨g, 0, none⟩) (fl h n) := by
  obtain ⟨cs, hb, hs, hc⟩ := hr
  refine tseg_of_blk (cs := cs) hb fun k u hk => ?_
  rw [u32s_fl] at hk
  have hkn : k < n := by
    have := (List.getElem?_eq_some_iff.1 hk).1
    simpa using this
  rw [hc k hkn, hf k hkn]
  simp [hkn] at hk
  rw [← hk]

theorem NewDigs.mk_ {w w' : World} {e : Ending} {g n : Nat} {h : Nat → Nat} {P : List Nat → Prop} (he : e = .returned (.slice (some ⟨g, 0, none⟩) n n)) (hd : Digs w' (some ⟨g, 0, none⟩) (fl h n)) (hok : fok h n) (hp : P (fl h n)) (hb : Below w.heap.size w w') : NewDigs w e w' P :=
  ⟨_, n, fl h n, by rw [fl_len]; exact he, by rw [fl_len]; exact Nat.le_refl _, hd, dok_fl hok, hp, hb⟩

set_option maxRecDepth 20000 in
set_option maxHeartbeats 2000000 in
theorem sum_ge (Ax Ay : Option Addr) (xs ys : List Nat) (cx cy : Nat) (w : World) (hx : Digs w Ax xs) (hy : Digs w Ay ys) (kx : dok xs) (ky : dok ys) (lx : xs.length < capMax) (hle : ys.length ≤ xs.length) :
    Calls Try.prog 108 #[.slice Ax xs.length cx, .slice Ay ys.length cy] w fun e w' => NewDigs w e w' fun ds => ds.length = xs.length + 1 ∧ dv ds = dv xs + dv ys := by
  have lx' : xs.length < 17592186044416 := lx
  have hmk := run_make_row' (P := Try.prog) 71 tU (.int .u32 0) 4 Try.underlying71 (by kernel_rfl) rfl .i64 .i64 (xs.length + 1) (by omega) (by omega)
  rw [show ((xs.length + 1 : Nat) : Int) = (xs.length : Int) + 1 by omega] at hmk
  have d1 : decide ((xs.length : Int) < (ys.length : Int)) = false := decide_eq_false (by omega)
  have d2 : decide (xs.length < ys.length) = false := decide_eq_false (by omega)
  have HX := Lib.hid hx
  have HY := Lib.hid hy
  have KX : Hid (fok (gd xs) xs.length) := kx
  have KY : Hid (fok (gd ys) xs.length) := fun i _ => gd_lt32 ky i
  have HV : Hid (fv (gd ys) xs.length = dv ys) := dv_fv (by omega)
  clear hx hy kx
  go_enter Try.func108, Try.ntmps108
  go_wp2_with fail
  clear hmk d1 d2
  go_loopw [22, 6] (fun s22 s6 wr => ∃ k : Nat, k ≤ xs.length ∧ s22 = .int .i64 k ∧ s6 = .int .u64 (carry (gd xs) (gd ys) k : Nat) ∧ wr.rowIs w.heap.size tU (xs.length + 1) (fun i => if i < k then dgt (sdig (gd xs) (gd ys) i) else .int .u32 0) ∧ Below w.heap.size w wr) (fun s22 _ _ => xs.length - (intOf s22).toNat)
  case atStart => exact ⟨0, Nat.zero_le _, rfl, rfl, (World.rowIs_made w (.int .u32 0) (xs.length + 1) tU).congr (fun i _ => by rw [if_neg (by omega)]), (Below.refl _ _).alloc (Nat.le_refl _) _⟩
  case round =>
    obtain ⟨k, hk, rfl, rfl, hrow, hbel⟩ := hrel
    have HR := Lib.hid hrow
    have HB := Lib.hid hbel
    have b1 := carry_le KX.out KY.out k hk
    by_cases hlt : k < xs.length
    · obtain ⟨ad, rfl, hca⟩ := (HX.out.below hbel).cell (u32s_get hlt)
      have hc := hrow.cell (show k < xs.length + 1 by omega)
      rw [if_neg (by omega)] at hc
      have hf := hrow.frozen k
      have ha := KX.out k hlt
      have i1 : (k : Int) < (xs.length : Int) + 1 := by omega
      clear hrow hbel
      by_cases hy : k < ys.length
      · obtain ⟨ae, rfl, hcb⟩ := (HY.out.below HB.out).cell (u32s_get hy)
        have hb := KY.out k hlt
        have i2 : (k : Int) < (ys.length : Int) := by omega
        have d2 : decide (k < ys.length) = true := decide_eq_true hy
        have HS : Hid (sdig (gd xs) (gd ys) k = (carry (gd xs) (gd ys) k + gd xs k + gd ys k) % 4294967296) := rfl
        have HC : Hid (carry (gd xs) (gd ys) (k + 1) = (carry (gd xs) (gd ys) k + gd xs k + gd ys k) / 4294967296) := rfl
        generalize carry (gd xs) (gd ys) k = cc at *
        generalize gd xs k = a at *
        generalize gd ys k = b at *
        go_wp2_with fail
        go_roundw
        case rel =>
          refine ⟨k + 1, by omega, by go_num, ?_, (HR.out.set k _).congr (fun i _ => ?_), HB.out.setCell (Nat.le_refl _) _⟩
          · rw [HC.out]; simp
          · by_cases h1 : i = k
            · subst h1; rw [if_pos rfl, if_pos (by omega), dgt, HS.out]; simp
            · rw [if_neg h1]
              by_cases h2 : i < k
              · rw [if_pos h2, if_pos (by omega)]
              · rw [if_neg h2, if_neg (by omega)]
        case measure => simp [intOf]; omega
      · have i2 : ¬ (k : Int) < (ys.length : Int) := by omega
        have d2 : decide (k < ys.length) = false := decide_eq_false hy
        have hz : gd ys k = 0 := gd_ge (by omega)
        have HS : Hid (sdig (gd xs) (gd ys) k = (carry (gd xs) (gd ys) k + gd xs k) % 4294967296) := by unfold Hid sdig; rw [hz, Nat.add_zero]
        have HC : Hid (carry (gd xs) (gd ys) (k + 1) = (carry (gd xs) (gd ys) k + gd xs k) / 4294967296) := by show (_ + _ + _) / _ = _; rw [hz, Nat.add_zero]
        clear hz
        generalize carry (gd xs) (gd ys) k = cc at *
        generalize gd xs k = a at *
        go_wp2_with fail
        go_roundw
        case rel =>
          refine ⟨k + 1, by omega, by go_num, ?_, (HR.out.set k _).congr (fun i _ => ?_), HB.out.setCell (Nat.le_refl _) _⟩
          · rw [HC.out]; simp
          · by_cases h1 : i = k
            · subst h1; rw [if_pos rfl, if_pos (by omega), dgt, HS.out]; simp
            · rw [if_neg h1]
              by_cases h2 : i < k
              · rw [if_pos h2, if_pos (by omega)]
              · rw [if_neg h2, if_neg (by omega)]
        case measure => simp [intOf]; omega
    · obtain rfl : k = xs.length := by omega
      have hc := hrow.cell (show xs.length < xs.length + 1 by omega)
      have hf := hrow.frozen xs.length
      clear hrow hbel
      have HD : Hid (∀ v : Value, v = dgt (carry (gd xs) (gd ys) xs.length) → Digs (wr.setCell ⟨w.heap.size, xs.length, none⟩ v) (some ⟨w.heap.size, 0, none⟩) (fl (sfun (gd xs) (gd ys) xs.length) (xs.length + 1))) := fun v hv => digs_of_row (HR.out.set xs.length v) (fun i hi => by
        by_cases h1 : i = xs.length
        · subst h1; rw [if_pos rfl, hv]; unfold sfun; rw [if_neg (by omega)]
        · rw [if_neg h1, if_pos (by omega)]; unfold sfun; rw [if_pos (by omega)])
      have HK := Lib.hid (sfun_ok KX.out KY.out)
      have HW : Hid (dv (fl (sfun (gd xs) (gd ys) xs.length) (xs.length + 1)) = dv xs + dv ys) := by unfold Hid; rw [dv_fl, sfun_dv, HV.out]; rfl
      generalize carry (gd xs) (gd ys) xs.length = cc at *
      go_wp2_with fail
      go_ret
      exact NewDigs.mk_ rfl (HD.out _ rfl) HK.out ⟨fl_len _ _, HW.out⟩ (HB.out.setCell (Nat.le_refl _) _)
set_option maxRecDepth 20000 in
set_option maxHeartbeats 2000000 in
theorem sum_lt (Ax Ay : Option Addr) (xs ys : List Nat) (cx cy : Nat) (w : World) (hx : Digs w Ax xs) (hy : Digs w Ay ys) (kx : dok xs) (ky : dok ys) (lx : xs.length < capMax) (hlt : ys.length < xs.length) :
    Calls Try.prog 108 #[.slice Ay ys.length cy, .slice Ax xs.length cx] w fun e w' => NewDigs w e w' fun ds => ds.length = xs.length + 1 ∧ dv ds = dv xs + dv ys := by
  have lx' : xs.length < 17592186044416 := lx
  have hmk := run_make_row' (P := Try.prog) 71 tU (.int .u32 0) 4 Try.underlying71 (by kernel_rfl) rfl .i64 .i64 (xs.length + 1) (by omega) (by omega)
  rw [show ((xs.length + 1 : Nat) : Int) = (xs.length : Int) + 1 by omega] at hmk
  have d1 : decide ((ys.length : Int) < (xs.length : Int)) = true := decide_eq_true (by omega)
  have d2 : decide (ys.length < xs.length) = true := decide_eq_true (by omega)
  have HX := Lib.hid hx
  have HY := Lib.hid hy
  have KX : Hid (fok (gd xs) xs.length) := kx
  have KY : Hid (fok (gd ys) xs.length) := fun i _ => gd_lt32 ky i
  have HV : Hid (fv (gd ys) xs.length = dv ys) := dv_fv (by omega)
  clear hx hy kx
  go_enter Try.func108, Try.ntmps108
  go_wp2_with fail
  clear hmk d1 d2
  go_loopw [22, 6] (fun s22 s6 wr => ∃ k : Nat, k ≤ xs.length ∧ s22 = .int .i64 k ∧ s6 = .int .u64 (carry (gd xs) (gd ys) k : Nat) ∧ wr.rowIs w.heap.size tU (xs.length + 1) (fun i => if i < k then dgt (sdig (gd xs) (gd ys) i) else .int .u32 0) ∧ Below w.heap.size w wr) (fun s22 _ _ => xs.length - (intOf s22).toNat)
  case atStart => exact ⟨0, Nat.zero_le _, rfl, rfl, (World.rowIs_made w (.int .u32 0) (xs.length + 1) tU).congr (fun i _ => by rw [if_neg (by omega)]), (Below.refl _ _).alloc (Nat.le_refl _) _⟩
  case round =>
    obtain ⟨k, hk, rfl, rfl, hrow, hbel⟩ := hrel
    have HR := Lib.hid hrow
    have HB := Lib.hid hbel
    have b1 := carry_le KX.out KY.out k hk
    by_cases hlt : k < xs.length
    · obtain ⟨ad, rfl, hca⟩ := (HX.out.below hbel).cell (u32s_get hlt)
      have hc := hrow.cell (show k < xs.length + 1 by omega)
      rw [if_neg (by omega)] at hc
      have hf := hrow.frozen k
      have ha := KX.out k hlt
      have i1 : (k : Int) < (xs.length : Int) + 1 := by omega
      clear hrow hbel
      by_cases hy : k < ys.length
      · obtain ⟨ae, rfl, hcb⟩ := (HY.out.below HB.out).cell (u32s_get hy)
        have hb := KY.out k hlt
        have i2 : (k : Int) < (ys.length : Int) := by omega
        have d2 : decide (k < ys.length) = true := decide_eq_true hy
        have HS : Hid (sdig (gd xs) (gd ys) k = (carry (gd xs) (gd ys) k + gd xs k + gd ys k) % 4294967296) := rfl
        have HC : Hid (carry (gd xs) (gd ys) (k + 1) = (carry (gd xs) (gd ys) k + gd xs k + gd ys k) / 4294967296) := rfl
        generalize carry (gd xs) (gd ys) k = cc at *
        generalize gd xs k = a at *
        generalize gd ys k = b at *
        go_wp2_with fail
        go_roundw
        case rel =>
          refine ⟨k + 1, by omega, by go_num, ?_, (HR.out.set k _).congr (fun i _ => ?_), HB.out.setCell (Nat.le_refl _) _⟩
          · rw [HC.out]; simp
          · by_cases h1 : i = k
            · subst h1; rw [if_pos rfl, if_pos (by omega), dgt, HS.out]; simp
            · rw [if_neg h1]
              by_cases h2 : i < k
              · rw [if_pos h2, if_pos (by omega)]
              · rw [if_neg h2, if_neg (by omega)]
        case measure => simp [intOf]; omega
      · have i2 : ¬ (k : Int) < (ys.length : Int) := by omega
        have d2 : decide (k < ys.length) = false := decide_eq_false hy
        have hz : gd ys k = 0 := gd_ge (by omega)
        have HS : Hid (sdig (gd xs) (gd ys) k = (carry (gd xs) (gd ys) k + gd xs k) % 4294967296) := by unfold Hid sdig; rw [hz, Nat.add_zero]
        have HC : Hid (carry (gd xs) (gd ys) (k + 1) = (carry (gd xs) (gd ys) k + gd xs k) / 4294967296) := by show (_ + _ + _) / _ = _; rw [hz, Nat.add_zero]
        clear hz
        generalize carry (gd xs) (gd ys) k = cc at *
        generalize gd xs k = a at *
        go_wp2_with fail
        go_roundw
        case rel =>
          refine ⟨k + 1, by omega, by go_num, ?_, (HR.out.set k _).congr (fun i _ => ?_), HB.out.setCell (Nat.le_refl _) _⟩
          · rw [HC.out]; simp
          · by_cases h1 : i = k
            · subst h1; rw [if_pos rfl, if_pos (by omega), dgt, HS.out]; simp
            · rw [if_neg h1]
              by_cases h2 : i < k
              · rw [if_pos h2, if_pos (by omega)]
              · rw [if_neg h2, if_neg (by omega)]
        case measure => simp [intOf]; omega
    · obtain rfl : k = xs.length := by omega
      have hc := hrow.cell (show xs.length < xs.length + 1 by omega)
      have hf := hrow.frozen xs.length
      clear hrow hbel
      have HD : Hid (∀ v : Value, v = dgt (carry (gd xs) (gd ys) xs.length) → Digs (wr.setCell ⟨w.heap.size, xs.length, none⟩ v) (some ⟨w.heap.size, 0, none⟩) (fl (sfun (gd xs) (gd ys) xs.length) (xs.length + 1))) := fun v hv => digs_of_row (HR.out.set xs.length v) (fun i hi => by
        by_cases h1 : i = xs.length
        · subst h1; rw [if_pos rfl, hv]; unfold sfun; rw [if_neg (by omega)]
        · rw [if_neg h1, if_pos (by omega)]; unfold sfun; rw [if_pos (by omega)])
      have HK := Lib.hid (sfun_ok KX.out KY.out)
      have HW : Hid (dv (fl (sfun (gd xs) (gd ys) xs.length) (xs.length + 1)) = dv xs + dv ys) := by unfold Hid; rw [dv_fl, sfun_dv, HV.out]; rfl
      generalize carry (gd xs) (gd ys) xs.length = cc at *
      go_wp2_with fail
      go_ret
      exact NewDigs.mk_ rfl (HD.out _ rfl) HK.out ⟨fl_len _ _, HW.out⟩ (HB.out.setCell (Nat.le_refl _) _)
theorem sum_any (Ax Ay : Option Addr) (xs ys : List Nat) (cx cy : Nat) (w : World) (hx : Digs w Ax xs) (hy : Digs w Ay ys) (kx : dok xs) (ky : dok ys) (lx : xs.length < capMax) (ly : ys.length < capMax) :
    Calls Try.prog 108 #[.slice Ax xs.length cx, .slice Ay ys.length cy] w fun e w' => NewDigs w e w' fun ds => ds.length = max xs.length ys.length + 1 ∧ dv ds = dv xs + dv ys := by
  by_cases h : xs.length < ys.length
  · refine (sum_lt Ay Ax ys xs cy cx w hy hx ky kx ly h).mono ?_
    rintro e w' ⟨A, c, ds, h1, h2, h3, h4, ⟨h5, h6⟩, h7⟩
    exact ⟨A, c, ds, h1, h2, h3, h4, ⟨by rw [h5]; omega, by rw [h6]; omega⟩, h7⟩
  · refine (sum_ge Ax Ay xs ys cx cy w hx hy kx ky lx (by omega)).mono ?_
    rintro e w' ⟨A, c, ds, h1, h2, h3, h4, ⟨h5, h6⟩, h7⟩
    exact ⟨A, c, ds, h1, h2, h3, h4, ⟨by rw [h5]; omega, h6⟩, h7⟩

theorem less_words {a b c : Nat} (ha : a < 4294967296) (hb : b < 4294967296) (hc : c ≤ 1) : ∃ v1 v2 : Nat, IntKind.u64.wrap ((a : Int) - (c : Int)) = (v1 : Int) ∧ IntKind.u64.wrap ((v1 : Int) - (b : Int)) = (v2 : Int) ∧ (v1 : Int) < 18446744073709551616 ∧ (v2 : Int) < 18446744073709551616 ∧
    v2 % 4294967296 = a + (if a < b + c then 4294967296 else 0) - b - c ∧ v2 / 9223372036854775808 = if a < b + c then 1 else 0 := by
  refine ⟨(a + 18446744073709551616 - c) % 18446744073709551616, (a + 18446744073709551616 - c - b) % 18446744073709551616, ?_, ?_, ?_, ?_, ?_, ?_⟩
  · simp [IntKind.wrap, IntKind.bits, IntKind.signed]; omega
  · simp [IntKind.wrap, IntKind.bits, IntKind.signed]; omega
  · omega
  · omega
  · split <;> omega
  · split <;> omega

set_option maxRecDepth 20000 in
set_option maxHeartbeats 2000000 in
theorem less_any (Ax Ay : Option Addr) (xs ys : List Nat) (cx cy : Nat) (w : World) (hx : Digs w Ax xs) (hy : Digs w Ay ys) (kx : dok xs) (ky : dok ys) (lx : xs.length ≤ capMax) (hle : ys.length ≤ xs.length) (hv : dv ys ≤ dv xs) :
    Calls Try.prog 109 #[.slice Ax xs.length cx, .slice Ay ys.length cy] w fun e w' => NewDigs w e w' fun ds => ds.length = xs.length ∧ dv ds = dv xs - dv ys := by
  have lx' : xs.length ≤ 17592186044416 := lx
  have hmk := run_make_row' (P := Try.prog) 71 tU (.int .u32 0) 4 Try.underlying71 (by kernel_rfl) rfl .i64 .i64 xs.length (by omega) (by omega)
  have HX := Lib.hid hx
  have HY := Lib.hid hy
  have KX : Hid (fok (gd xs) xs.length) := kx
  have KY : Hid (fok (gd ys) xs.length) := fun i _ => gd_lt32 ky i
  have HW : Hid (dv (fl (ddig (gd xs) (gd ys)) xs.length) = dv xs - dv ys) := by
    have e : fv (gd ys) xs.length = dv ys := dv_fv hle
    unfold Hid; rw [dv_fl, ddig_dv kx KY.out (by rw [e]; exact hv), e]; rfl
  clear hx hy kx hv
  go_enter Try.func109, Try.ntmps109
  go_wp2_with fail
  clear hmk
  go_loopw [15, 6] (fun s15 s6 wr => ∃ k : Nat, k ≤ xs.length ∧ s15 = .int .i64 k ∧ s6 = .int .u64 (bor (gd xs) (gd ys) k : Nat) ∧ wr.rowIs w.heap.size tU xs.length (fun i => if i < k then dgt (ddig (gd xs) (gd ys) i) else .int .u32 0) ∧ Below w.heap.size w wr) (fun s15 _ _ => xs.length - (intOf s15).toNat)
  case atStart => exact ⟨0, Nat.zero_le _, rfl, rfl, (World.rowIs_made w (.int .u32 0) xs.length tU).congr (fun i _ => by rw [if_neg (by omega)]), (Below.refl _ _).alloc (Nat.le_refl _) _⟩
  case round =>
    obtain ⟨k, hk, rfl, rfl, hrow, hbel⟩ := hrel
    have HR := Lib.hid hrow
    have HB := Lib.hid hbel
    have b1 := bor_le (gd xs) (gd ys) k
    by_cases hlt : k < xs.length
    · obtain ⟨ad, rfl, hca⟩ := (HX.out.below hbel).cell (u32s_get hlt)
      have hc := hrow.cell hlt
      rw [if_neg (by omega)] at hc
      have hf := hrow.frozen k
      have ha := KX.out k hlt
      have i1 : (k : Int) < (xs.length : Int) := by omega
      clear hrow hbel
      obtain ⟨v1, v2, e1, e2, e3, e4, e5, e6⟩ := less_words ha (KY.out k hlt) b1
      have HS : Hid (ddig (gd xs) (gd ys) k = v2 % 4294967296) := by rw [e5]; rfl
      have HC : Hid (bor (gd xs) (gd ys) (k + 1) = v2 / 9223372036854775808) := by rw [e6]; rfl
      clear e5 e6
      by_cases hy : k < ys.length
      · obtain ⟨ae, rfl, hcb⟩ := (HY.out.below HB.out).cell (u32s_get hy)
        have hb := KY.out k hlt
        have i2 : (k : Int) < (ys.length : Int) := by omega
        have d2 : decide (k < ys.length) = true := decide_eq_true hy
        generalize bor (gd xs) (gd ys) k = cc at *
        generalize gd xs k = a at *
        generalize gd ys k = b at *
        go_wp2_with fail
        go_roundw
        case rel =>
          refine ⟨k + 1, by omega, by go_num, ?_, (HR.out.set k _).congr (fun i _ => ?_), HB.out.setCell (Nat.le_refl _) _⟩
          · rw [HC.out]; simp
          · by_cases h1 : i = k
            · subst h1; rw [if_pos rfl, if_pos (by omega), dgt, HS.out]; simp
            · rw [if_neg h1]
              by_cases h2 : i < k
              · rw [if_pos h2, if_pos (by omega)]
              · rw [if_neg h2, if_neg (by omega)]
        case measure => simp [intOf]; omega
      · have i2 : ¬ (k : Int) < (ys.length : Int) := by omega
        have d2 : decide (k < ys.length) = false := decide_eq_false hy
        have hz : gd ys k = 0 := gd_ge (by omega)
        have hv : v1 = v2 := by rw [hz] at e2; simp [IntKind.wrap, IntKind.bits, IntKind.signed] at e2; omega
        subst hv
        clear hz e2
        generalize bor (gd xs) (gd ys) k = cc at *
        generalize gd xs k = a at *
        go_wp2_with fail
        go_roundw
        case rel =>
          refine ⟨k + 1, by omega, by go_num, ?_, (HR.out.set k _).congr (fun i _ => ?_), HB.out.setCell (Nat.le_refl _) _⟩
          · rw [HC.out]; simp
          · by_cases h1 : i = k
            · subst h1; rw [if_pos rfl, if_pos (by omega), dgt, HS.out]; simp
            · rw [if_neg h1]
              by_cases h2 : i < k
              · rw [if_pos h2, if_pos (by omega)]
              · rw [if_neg h2, if_neg (by omega)]
        case measure => simp [intOf]; omega
    · obtain rfl : k = xs.length := by omega
      have HD : Hid (Digs wr (some ⟨w.heap.size, 0, none⟩) (fl (ddig (gd xs) (gd ys)) xs.length)) := digs_of_row hrow (fun i hi => if_pos hi)
      have HK := Lib.hid (ddig_ok KX.out KY.out)
      clear hrow hbel
      go_wp2_with fail
      go_ret
      exact NewDigs.mk_ rfl HD.out HK.out ⟨fl_len _ _, HW.out⟩ HB.out
end Go.Proofs.Ytkffakekakhgdaa
