/- Whole numbers in memory: the lowest bit. No condition. -/
import Derived.Test.YtakjcodfcoaadabBigE
namespace Go.Proofs.Ytakjcodfcoaadab
open Go.ChangeShapes Go.WideShapes Go.ChangeAt Go.RowKit

theorem dv_even (ds : List Nat) : dv ds % 2 = gd ds 0 % 2 := by
  by_cases h : ds.length = 0
  · have : dv ds = 0 := by unfold dv; rw [h]; rfl
    rw [this, gd_ge (by omega)]
  · obtain ⟨m, hm⟩ : ∃ m, ds.length = 1 + m := ⟨ds.length - 1, by omega⟩
    have e : dv ds = (0 + gd ds 0 * bp 0) + bp 1 * fv (fun i => gd ds (1 + i)) m := by unfold dv; rw [hm, fv_add]; rfl
    rw [e, bp_zero, bp_one]
    omega
theorem ret_bw {a b : Int} (h : a = b) : Ending.returned (.int .u64 a) = .returned (.int .u64 b) := by rw [h]
set_option maxRecDepth 20000 in
set_option maxHeartbeats 2000000 in
theorem bit0_any (gx ox : Nat) (z : Int) (w : World) (hx : IntZ w gx ox z) :
    Calls Try.prog 53 #[.pointer (some ⟨gx, ox, none⟩), .int .i64 0] w fun e w' => e = .returned (.int .u64 (z.natAbs % 2 : Nat)) ∧ w = w' := by
  obtain ⟨b, ds, ⟨tx, cx, Ax, capx, hbx, _, hx0, hx1, hcx, hmx, hdx⟩, hz⟩ := hx
  have c1 := hbx.cell (ox + 1) hx1
  have HF : Hid ((gd ds 0 % 2 : Nat) = z.natAbs % 2) := by unfold Hid; rw [hz.abs, dv_even]
  have HK := Lib.hid (gd_lt32 hz.1 0)
  have HD := Lib.hid hdx
  clear hbx hx0 hx1 hcx hmx hdx hz
  by_cases h0 : ds.length = 0
  · have hg : gd ds 0 = 0 := gd_ge (by omega)
    rw [hg] at HF
    rw [h0] at c1
    clear h0
    go_enter Try.func53, Try.ntmps53
    go_wp2
    go_ret
    exact ⟨ret_bw (by rw [← HF.out]; rfl), rfl⟩
  · obtain ⟨ad, rfl, hcell⟩ := HD.out.cell (u32s_get (show 0 < ds.length by omega))
    have hk := HK.out
    rw [show ad.add 0 = ad from rfl] at hcell
    obtain ⟨m, hm⟩ : ∃ m : Nat, ds.length = m + 1 := ⟨ds.length - 1, by omega⟩
    rw [hm] at c1
    clear h0 hm
    generalize gd ds 0 = d at *
    have e1 : bits .and .u32 (d : Int) 1 = ((d % 2 : Nat) : Int) := by
      have := u32_and_nat d 1 hk (by decide)
      rw [show ((1 : Nat) : Int) = 1 from rfl] at this
      rw [this, Nat.and_one_is_mod]
    have HE := Lib.hid e1
    clear e1
    go_enter Try.func53, Try.ntmps53
    have e1 := HE.out
    go_wp2
    go_ret
    exact ⟨ret_bw (by rw [← HF.out]; simp), rfl⟩
end Go.Proofs.Ytakjcodfcoaadab
