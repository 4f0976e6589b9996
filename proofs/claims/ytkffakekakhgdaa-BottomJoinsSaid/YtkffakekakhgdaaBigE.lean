/- Whole numbers in memory: their lowest 64 bits, one bit, the other sign. No condition. -/
import Derived.Test.YtkffakekakhgdaaBigD
namespace Go.Proofs.Ytkffakekakhgdaa
open Go.ChangeShapes Go.WideShapes Go.ChangeAt Go.RowKit

theorem or32 (a d : Nat) (ha : a < 4294967296) (hd : d < 4294967296) : bits .or .u64 (IntKind.u64.wrap ((a : Int) * 4294967296)) (d : Int) = ((a * 4294967296 + d : Nat) : Int) := by
  have e : IntKind.u64.wrap ((a : Int) * 4294967296) = ((a * 4294967296 : Nat) : Int) := by simp [IntKind.wrap, IntKind.bits, IntKind.signed]; omega
  rw [e, u64_or_nat _ _ (by omega) (by omega), nat_join 32 _ _ (by omega) (by omega)]
/-- What the topmost j of the lowest M digits are, M no more than 2. -/
def uval (ds : List Nat) (M j : Nat) : Nat := if j = 0 then 0 else if j = 1 then gd ds (M - 1) else gd ds (M - 1) * 4294967296 + gd ds (M - 2)
theorem uval_all {ds : List Nat} (h : dok ds) : uval ds (min ds.length 2) (min ds.length 2) = dv ds % 18446744073709551616 := by
  have h0 := gd_lt32 h 0
  have h1 := gd_lt32 h 1
  by_cases c0 : ds.length = 0
  · rw [show min ds.length 2 = 0 by omega]
    have : dv ds = 0 := by unfold dv; rw [c0]; rfl
    rw [this]; rfl
  by_cases c1 : ds.length = 1
  · rw [show min ds.length 2 = 1 by omega]
    have : dv ds = gd ds 0 := by unfold dv; rw [c1]; show 0 + gd ds 0 * bp 0 = _; rw [bp_zero]; omega
    rw [this]; show gd ds 0 = _; omega
  · rw [show min ds.length 2 = 2 by omega]
    obtain ⟨m, hm⟩ : ∃ m, ds.length = 2 + m := ⟨ds.length - 2, by omega⟩
    have e : dv ds = (0 + gd ds 0 * bp 0 + gd ds 1 * bp 1) + bp 2 * fv (fun i => gd ds (2 + i)) m := by unfold dv; rw [hm, fv_add]; rfl
    have b2 : bp 2 = 18446744073709551616 := rfl
    rw [e, bp_zero, bp_one, b2, Nat.add_mul_mod_self_left]
    show gd ds 1 * 4294967296 + gd ds 0 = _
    omega

theorem ret_bu {a b : Nat} (h : a = b) : Ending.returned (.int .u64 (a : Int)) = .returned (.int .u64 (b : Int)) := by rw [h]
theorem val_u {a b : Int} (h : a = b) : Value.int .u64 a = .int .u64 b := by rw [h]
set_option maxRecDepth 20000 in
set_option maxHeartbeats 2000000 in
theorem uint64_any (gx ox : Nat) (z : Int) (w : World) (hx : IntZ w gx ox z) :
    Calls Try.prog 76 #[.pointer (some ⟨gx, ox, none⟩)] w fun e w' => e = .returned (.int .u64 (z.natAbs % 18446744073709551616 : Nat)) ∧ w = w' := by
  obtain ⟨b, ds, ⟨tx, cx, Ax, capx, hbx, _, hx0, hx1, hcx, hmx, hdx⟩, hz⟩ := hx
  have c1 := hbx.cell (ox + 1) hx1
  have lx : ds.length ≤ 17592186044416 := hmx
  have HF : Hid (uval ds (min ds.length 2) (min ds.length 2) = z.natAbs % 18446744073709551616) := by unfold Hid; rw [uval_all hz.1, hz.abs]
  have HK := Lib.hid (gd_lt32 hz.1)
  have HD := Lib.hid hdx
  clear hbx hx0 hx1 hcx hmx hdx hz
  by_cases h2 : 2 < ds.length
  · have HM : Hid (min ds.length 2 = 2) := by unfold Hid; omega
    rw [HM.out] at HF
    have m1 : (2 : Int) < (ds.length : Int) := by omega
    have m3 : min (ds.length : Int) 2 = 2 := by omega
    go_enter Try.func76, Try.ntmps76
    go_wp2_with fail
    go_loop [4, 3] (fun s4 s3 => ∃ i j : Nat, i + j = 2 ∧ s4 = .int .i64 ((i : Int) - 1) ∧ s3 = .int .u64 (uval ds 2 j : Nat)) (fun s4 _ => (intOf s4 + 1).toNat)
    case atStart => exact ⟨2, 0, by omega, by go_num, rfl⟩
    case round =>
      obtain ⟨i, j, hij, rfl, rfl⟩ := hrel
      by_cases h0 : i = 0
      · subst h0
        obtain rfl : j = 2 := by omega
        go_wp2_with fail
        go_ret
        exact ⟨ret_bu HF.out, rfl⟩
      · obtain ⟨k, rfl⟩ : ∃ k, i = k + 1 := ⟨i - 1, by omega⟩
        obtain ⟨ad, rfl, hcell⟩ := HD.out.cell (u32s_get (show k < ds.length by omega))
        have ik : ((k + 1 : Nat) : Int) - 1 = (k : Int) := by omega
        rw [ik]
        have i1 : (k : Int) < (ds.length : Int) := by omega
        have d0 : decide (0 ≤ (k : Int)) = true := decide_eq_true (by omega)
        have hd := HK.out k
        have ha : uval ds 2 j < 4294967296 := by
          have : j = 0 ∨ j = 1 := by omega
          rcases this with rfl | rfl
          · show 0 < _; omega
          · exact HK.out _
        have HN : Hid (uval ds 2 j * 4294967296 + gd ds k = uval ds 2 (j + 1)) := by
          have : j = 0 ∨ j = 1 := by omega
          unfold Hid
          rcases this with rfl | rfl
          · show 0 * 4294967296 + gd ds k = gd ds (2 - 1); rw [show 2 - 1 = k by omega, Nat.zero_mul, Nat.zero_add]
          · show gd ds (2 - 1) * 4294967296 + gd ds k = gd ds (2 - 1) * 4294967296 + gd ds (2 - 2); rw [show 2 - 2 = k by omega]
        have o1 := or32 _ _ ha hd
        rw [HN.out, show IntKind.u64.wrap (((uval ds 2 j : Nat) : Int) * 4294967296) = ((uval ds 2 j : Nat) : Int) * 4294967296 by simp [IntKind.wrap, IntKind.bits, IntKind.signed]; omega] at o1
        have O1 := Lib.hid o1
        clear o1 HN
        generalize uval ds 2 j = x at *
        generalize gd ds k = d at *
        go_wp2_with fail
        go_round
        case rel => exact ⟨k, j + 1, by omega, rfl, val_u O1.out⟩
        case measure => simp [intOf]
  · have HM : Hid (min ds.length 2 = ds.length) := by unfold Hid; omega
    rw [HM.out] at HF
    have m1 : (ds.length : Int) ≤ 2 := by omega
    have m3 : min (ds.length : Int) 2 = (ds.length : Int) := by omega
    go_enter Try.func76, Try.ntmps76
    go_wp2_with fail
    go_loop [4, 3] (fun s4 s3 => ∃ i j : Nat, i + j = ds.length ∧ s4 = .int .i64 ((i : Int) - 1) ∧ s3 = .int .u64 (uval ds ds.length j : Nat)) (fun s4 _ => (intOf s4 + 1).toNat)
    case atStart => exact ⟨ds.length, 0, by omega, by go_num, rfl⟩
    case round =>
      obtain ⟨i, j, hij, rfl, rfl⟩ := hrel
      by_cases h0 : i = 0
      · subst h0
        obtain rfl : j = ds.length := by omega
        go_wp2_with fail
        go_ret
        exact ⟨ret_bu HF.out, rfl⟩
      · obtain ⟨k, rfl⟩ : ∃ k, i = k + 1 := ⟨i - 1, by omega⟩
        obtain ⟨ad, rfl, hcell⟩ := HD.out.cell (u32s_get (show k < ds.length by omega))
        have ik : ((k + 1 : Nat) : Int) - 1 = (k : Int) := by omega
        rw [ik]
        have i1 : (k : Int) < (ds.length : Int) := by omega
        have d0 : decide (0 ≤ (k : Int)) = true := decide_eq_true (by omega)
        have hd := HK.out k
        have ha : uval ds ds.length j < 4294967296 := by
          have : j = 0 ∨ j = 1 := by omega
          rcases this with rfl | rfl
          · show 0 < _; omega
          · exact HK.out _
        have HN : Hid (uval ds ds.length j * 4294967296 + gd ds k = uval ds ds.length (j + 1)) := by
          have : j = 0 ∨ j = 1 := by omega
          unfold Hid
          rcases this with rfl | rfl
          · show 0 * 4294967296 + gd ds k = gd ds (ds.length - 1); rw [show ds.length - 1 = k by omega, Nat.zero_mul, Nat.zero_add]
          · show gd ds (ds.length - 1) * 4294967296 + gd ds k = gd ds (ds.length - 1) * 4294967296 + gd ds (ds.length - 2); rw [show ds.length - 2 = k by omega]
        have o1 := or32 _ _ ha hd
        rw [HN.out, show IntKind.u64.wrap (((uval ds ds.length j : Nat) : Int) * 4294967296) = ((uval ds ds.length j : Nat) : Int) * 4294967296 by simp [IntKind.wrap, IntKind.bits, IntKind.signed]; omega] at o1
        have O1 := Lib.hid o1
        clear o1 HN
        generalize uval ds ds.length j = x at *
        generalize gd ds k = d at *
        go_wp2_with fail
        go_round
        case rel => exact ⟨k, j + 1, by omega, rfl, val_u O1.out⟩
        case measure => simp [intOf]
end Go.Proofs.Ytkffakekakhgdaa
