/- Whole numbers in memory: made of a machine's number. No condition. -/
import Derived.Test.YtkffakekakhgdaaBigB
namespace Go.Proofs.Ytkffakekakhgdaa
open Go.ChangeShapes Go.WideShapes Go.ChangeAt Go.RowKit

theorem two_digits (n : Nat) (h : n < 18446744073709551616) : dok [n % 4294967296, n / 4294967296] ∧ dv [n % 4294967296, n / 4294967296] = n := by
  constructor
  · intro i hi
    have : i = 0 ∨ i = 1 := by simp at hi; omega
    rcases this with rfl | rfl
    · show n % 4294967296 < 4294967296; omega
    · show n / 4294967296 < 4294967296; omega
  · show 0 + n % 4294967296 * bp 0 + n / 4294967296 * bp 1 = n
    rw [bp_zero, bp_one]; omega

set_option maxRecDepth 20000 in
set_option maxHeartbeats 2000000 in
theorem setU_any (g n : Nat) (w : World) (hg : IntBlk w g) (hn : n < 18446744073709551616) :
    Calls Try.prog 71 #[.pointer (some ⟨g, 0, none⟩), .int .u64 n] w fun e w' => e = .returned (.pointer (some ⟨g, 0, none⟩)) ∧ PutZ w w' g n := by
  obtain ⟨x, y, hb⟩ := hg
  have c0 := hb.cell 0 (u := x) rfl
  have c1 := hb.cell 1 (u := y) rfl
  have f0 := hb.frozen 0
  have f1 := hb.frozen 1
  have hl := hb.lt
  have HB := Lib.hid hb
  clear hb
  go_enter Try.func71, Try.ntmps71
  go_wp2_with fail
  have hw : ((w.setCell ⟨g, 0, none⟩ (.bool false)).setCell ⟨g, 1, none⟩ (.slice (some ⟨w.heap.size, 0, none⟩) 2 2)).heap.size = w.heap.size := by simp
  have D := Blk.new ((w.setCell ⟨g, 0, none⟩ (.bool false)).setCell ⟨g, 1, none⟩ (.slice (some ⟨w.heap.size, 0, none⟩) 2 2)) tU #[.int .u32 ((n : Int) % 4294967296), .int .u32 ((n : Int) / 4294967296)]
  rw [hw] at D
  have HDD : Hid (Digs _ (some ⟨w.heap.size, 0, none⟩) [n % 4294967296, n / 4294967296]) := digs_of_blk D (by simp [u32s, dgt])
  have HBB : Hid (Blk (((w.setCell ⟨g, 0, none⟩ (.bool false)).setCell ⟨g, 1, none⟩ (.slice (some ⟨w.heap.size, 0, none⟩) 2 2)).alloc (.cells #[.int .u32 ((n : Int) % 4294967296), .int .u32 ((n : Int) / 4294967296)] tU)) g tI #[.bool false, .slice (some ⟨w.heap.size, 0, none⟩) 2 2]) :=
    ((HB.out.set_ 0 _).set_ 1 _).alloc _
  have HG : Hid (w.grownBy _ (some g)) := ((setCell_grown w g 0 (.bool false)).trans (setCell_grown _ g 1 (.slice (some ⟨w.heap.size, 0, none⟩) 2 2))).trans (World.grownBy_alloc _ (.cells #[.int .u32 ((n : Int) % 4294967296), .int .u32 ((n : Int) / 4294967296)] tU) _)
  clear D hw
  refine (trim_any g false _ 2 [n % 4294967296, n / 4294967296] _ HBB.out HDD.out (Nat.le_refl 2) (show 2 ≤ capMax by decide)).mono ?_
  rintro e w2 ⟨rfl, ht⟩
  have HT := Lib.hid ht
  clear ht
  go_wp2_with fail
  go_ret
  exact ⟨rfl, put_of_trim HG.out HBB.out HDD.out (two_digits n hn).1 (Nat.le_refl 2) (show 2 ≤ capMax by decide) HT.out (by rw [(two_digits n hn).2]; rfl)⟩

set_option maxRecDepth 20000 in
set_option maxHeartbeats 2000000 in
theorem setI_any (g : Nat) (n : Int) (w : World) (hg : IntBlk w g) (h1 : -9223372036854775808 ≤ n) (h2 : n ≤ 9223372036854775807) :
    Calls Try.prog 86 #[.pointer (some ⟨g, 0, none⟩), .int .i64 n] w fun e w' => e = .returned (.pointer (some ⟨g, 0, none⟩)) ∧ PutZ w w' g n := by
  have HG := Lib.hid hg
  by_cases hn : n < 0
  · clear hg
    go_enter Try.func86, Try.ntmps86
    go_wp2_with fail
    obtain ⟨m, hm⟩ : ∃ m : Nat, -n = m := ⟨(-n).toNat, by omega⟩
    have e1 : IntKind.u64.wrap (-IntKind.u64.wrap n) = (m : Int) := by simp [IntKind.wrap, IntKind.bits, IntKind.signed]; omega
    rw [e1]
    refine (setU_any g m _ HG.out (by omega)).mono ?_
    rintro e w1 ⟨rfl, hz, hgb, hgr⟩
    obtain ⟨b, ds, A, c, hb, hc, hm, hd, hz⟩ := hz.open_ hgb
    have hbf : b = false := by rw [hz.neg_iff, decide_eq_false (by omega)]
    subst hbf
    have c0 := hb.cell 0 (u := .bool false) rfl
    have f0 := hb.frozen 0
    have HB := Lib.hid hb
    have HR := Lib.hid hgr
    have HD := Lib.hid hd
    have HZ := Lib.hid hz
    have HM := Lib.hid hm
    have HN : Hid (n = -(dv ds : Int)) := by have := hz.2.2.2; unfold Hid; rw [if_neg (by decide)] at this; omega
    clear hb hgr hgb hd hz e1 hm
    go_wp2_with fail
    go_ret
    have hb2 : Blk (w1.setCell ⟨g, 0, none⟩ (.bool true)) g tI #[.bool true, .slice A ds.length c] := HB.out.set_ 0 _
    refine ⟨rfl, IntZ.shut hb2 hc HM.out (HD.out.far HB.out tI_ne 0 _) ⟨HZ.out.1, HZ.out.2.1, fun _ h0 => ?_, by rw [if_pos rfl]; exact HN.out⟩, ⟨_, _, hb2⟩, HR.out.trans (setCell_grown _ _ _ _)⟩
    have := (dv_zero HZ.out.2.1).2 h0
    have := HN.out
    omega
  · clear hg
    obtain ⟨m, rfl⟩ : ∃ m : Nat, n = m := ⟨n.toNat, by omega⟩
    have e1 : IntKind.u64.wrap (m : Int) = (m : Int) := by simp [IntKind.wrap, IntKind.bits, IntKind.signed]; omega
    go_enter Try.func86, Try.ntmps86
    go_wp2_with fail
    refine (setU_any g m _ HG.out (by omega)).mono ?_
    rintro e w1 ⟨rfl, hp⟩
    have HP := Lib.hid hp
    clear hp
    go_wp2_with fail
    go_ret
    exact ⟨rfl, HP.out⟩

theorem newBlk (w : World) (x y : Value) : IntBlk (w.alloc (.cells #[x, y] tI)) w.heap.size := ⟨_, _, Blk.new w tI _⟩
/-- A new number: nothing that was there has changed. -/
def NewZ (w w' : World) (g : Nat) (z : Int) : Prop := IntZ w' g 0 z ∧ IntBlk w' g ∧ Below w.heap.size w w' ∧ w.heap.size ≤ g
theorem below_of_grown {w w' : World} {g : Nat} (h : w.grownBy w' (some g)) (B : Nat) (hB : B ≤ w.heap.size) (hg : B ≤ g) : Below B w w' := (Below.refl _ _).grown h hB (fun k hk => by injection hk with hk; omega)
theorem PutZ.new {w w' : World} {z : Int} {o : Obj} (h : PutZ (w.alloc o) w' w.heap.size z) : NewZ w w' w.heap.size z :=
  ⟨h.1, h.2.1, ((Below.refl _ _).alloc (Nat.le_refl _) o).trans (below_of_grown h.2.2 _ (by simp) (Nat.le_refl _)), Nat.le_refl _⟩

set_option maxRecDepth 20000 in
set_option maxHeartbeats 2000000 in
theorem newInt_any (n : Int) (w : World) (h1 : -9223372036854775808 ≤ n) (h2 : n ≤ 9223372036854775807) :
    Calls Try.prog 54 #[.int .i64 n] w fun e w' => e = .returned (.pointer (some ⟨w.heap.size, 0, none⟩)) ∧ NewZ w w' w.heap.size n := by
  go_enter Try.func54, Try.ntmps54
  go_wp2_with fail
  refine (setI_any w.heap.size n _ (newBlk _ _ _) h1 h2).mono ?_
  rintro e w1 ⟨rfl, hp⟩
  have HP := Lib.hid hp.new
  clear hp
  go_wp2_with fail
  go_ret
  exact ⟨rfl, HP.out⟩
end Go.Proofs.Ytkffakekakhgdaa
