/- Whole numbers in memory, not below 0: divided by a power of 2. No condition. -/
import Derived.Test.YtkffakekakhgdaaBigR
import Derived.Test.YtkffakekakhgdaaBigS
namespace Go.Proofs.Ytkffakekakhgdaa
open Go.ChangeShapes Go.WideShapes Go.ChangeAt Go.RowKit
set_option linter.unusedVariables false

set_option maxRecDepth 20000 in
set_option maxHeartbeats 4000000 in
theorem rsh_any (g gx ox n x : Nat) (w : World) (hg : IntBlk w g) (hx : IntZ w gx ox x) (ln : n < 140737488355328) :
    Calls Try.prog 73 #[.pointer (some ⟨g, 0, none⟩), .pointer (some ⟨gx, ox, none⟩), .int .u64 n] w fun e w' => e = .returned (.pointer (some ⟨g, 0, none⟩)) ∧ PutZ w w' g ((x / 2 ^ n : Nat) : Int) := by
  obtain ⟨bx, xs, ⟨tx, cx, Ax, capx, hbx, _, hx0, hx1, hcx, hmx, hdx⟩, sx⟩ := hx
  obtain rfl : bx = false := by rw [sx.neg_iff, decide_eq_false (by omega)]
  have HV : Hid (dv xs = x) := by have := sx.2.2.2; unfold Hid; rw [if_neg (by decide)] at this; omega
  obtain ⟨zx, zy, hzb⟩ := hg
  have c0 := hbx.cell ox hx0
  have c1 := hbx.cell (ox + 1) hx1
  have HZB := Lib.hid hzb
  have HDX := Lib.hid hdx
  have HMX := Lib.hid hmx
  have LX := Lib.hid hbx.lt
  have KX := Lib.hid sx.1
  have HCX := Lib.hid hcx
  have e1 : IntKind.i64.wrap (n : Int) = (n : Int) := IntWalk.i64_in _ (by omega)
  clear hbx hx0 hx1 hcx hmx hdx hzb sx
  go_enter Try.func73, Try.ntmps73
  go_wp2_with fail
  refine (shr_any Ax xs capx n _ HDX.out KX.out HCX.out HMX.out ln).mono ?_
  rintro e w1 ⟨A, c, ds, rfl, hc, hd, hok, ⟨hlen, hval⟩, hbel⟩
  have hz1 := HZB.out.below hbel HZB.out.lt
  have HV2 : Hid (((x / 2 ^ n : Nat) : Int) = if false then -(dv ds : Int) else (dv ds : Int)) := by unfold Hid; rw [hval, HV.out]; rfl
  have HL : Hid (ds.length ≤ capMax) := Nat.le_trans (by omega) HMX.out
  have z0 := hz1.cell 0 rfl
  have z1 := hz1.cell 1 rfl
  have f0 := hz1.frozen 0
  have f1 := hz1.frozen 1
  have H2 := Lib.hid hd
  have HW := Lib.hid hz1
  have HB := Lib.hid hbel
  have HOK := Lib.hid hok
  clear hlen hval e1 hd hz1 hbel hok c0 c1
  go_wp2_with fail
  have HB2 : Hid (Blk ((w1.setCell ⟨g, 0, none⟩ (.bool false)).setCell ⟨g, 1, none⟩ (.slice A ds.length c)) g tI #[.bool false, .slice A ds.length c]) := (HW.out.set_ 0 _).set_ 1 _
  have HD2 : Hid (Digs ((w1.setCell ⟨g, 0, none⟩ (.bool false)).setCell ⟨g, 1, none⟩ (.slice A ds.length c)) A ds) := (H2.out.far HW.out tI_ne 0 _).far (HW.out.set_ 0 _) tI_ne 1 _
  have HG : Hid (w.grownBy ((w1.setCell ⟨g, 0, none⟩ (.bool false)).setCell ⟨g, 1, none⟩ (.slice A ds.length c)) (some g)) := (grown_of_below HB.out (some g)).trans ((setCell_grown w1 g 0 (.bool false)).trans (setCell_grown _ g 1 (.slice A ds.length c)))
  refine (trim_any g false A c ds _ HB2.out HD2.out hc HL.out).mono ?_
  rintro e w3 ⟨rfl, ht⟩
  have HT := Lib.hid ht
  clear ht
  go_wp2_with fail
  go_ret
  exact ⟨rfl, put_of_trim HG.out HB2.out HD2.out HOK.out hc HL.out HT.out HV2.out⟩
end Go.Proofs.Ytkffakekakhgdaa
