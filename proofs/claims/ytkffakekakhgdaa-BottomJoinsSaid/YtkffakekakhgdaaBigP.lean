/- Whole numbers in memory: digits divided by one digit. No condition. -/
import Derived.Test.YtkffakekakhgdaaBigR
import Derived.Test.YtkffakekakhgdaaBigO
namespace Go.Proofs.Ytkffakekakhgdaa
open Go.ChangeShapes Go.WideShapes Go.ChangeAt Go.RowKit
set_option linter.unusedVariables false

/-- Two new lists of digits are the answer. -/
def TwoDigs (w : World) (e : Ending) (w' : World) (P : List Nat → List Nat → Prop) : Prop :=
  ∃ A c ds B d es, e = .returned (.tuple #[.slice A ds.length c, .slice B es.length d]) ∧ ds.length ≤ c ∧ es.length ≤ d ∧ Digs w' A ds ∧ Digs w' B es ∧ dok ds ∧ dok es ∧ P ds es ∧ Below w.heap.size w w'
theorem or32' (a d : Nat) (ha : a < 4294967296) (hd : d < 4294967296) : bits .or .u64 ((a : Int) * 4294967296) (d : Int) = ((a * 4294967296 + d : Nat) : Int) := by
  have h : IntKind.u64.wrap ((a : Int) * 4294967296) = (a : Int) * 4294967296 := by simp [IntKind.wrap, IntKind.bits, IntKind.signed]; omega
  rw [← or32 a d ha hd, h]
theorem quo_nat (a b : Nat) : ((a : Int) / (b : Int)) = ((a / b : Nat) : Int) := rfl
theorem rem_nat (a b : Nat) : ((a : Int) % (b : Int)) = ((a % b : Nat) : Int) := rfl

set_option maxRecDepth 20000 in
set_option maxHeartbeats 4000000 in
theorem parts_one (Ax : Option Addr) (ay : Addr) (xs ys : List Nat) (cx cy : Nat) (w : World) (hx : Digs w Ax xs) (hy : Digs w (some ay) ys) (kx : dok xs) (ky : dok ys) (hl : ys.length = 1) (h0 : gd ys 0 ≠ 0) (lx : xs.length < 8796093022208) :
    Calls Try.prog 131 #[.slice Ax xs.length cx, .slice (some ay) ys.length cy] w fun e w' => TwoDigs w e w' fun ds es => ds.length = xs.length ∧ es.length = 1 ∧ dv ds = dv xs / dv ys ∧ dv es = dv xs % dv ys := by
  have HX := Lib.hid hx
  have HY := Lib.hid hy
  have KX := Lib.hid kx
  have KY := Lib.hid (ky 0 (by omega))
  have HDY : Hid (dv ys = gd ys 0) := by
    unfold Hid dv; rw [hl]; simp [fv, bp]
  have HL := Lib.hid hl
  have hmk := run_make_row' (P := Try.prog) 71 tU (.int .u32 0) 4 Try.underlying71 (by kernel_rfl) rfl .i64 .i64 xs.length (by omega) (by omega)
  rw [hl]
  clear hx hy kx ky hl
  go_enter Try.func131, Try.ntmps131
  go_wp2_with fail
  clear hmk
  go_loopw [7, 8] (fun s7 s8 wr => ∃ (K r : Nat) (out : Nat → Nat), K ≤ xs.length ∧ s7 = .int .u64 r ∧ s8 = .int .i64 ((K : Int) - 1) ∧ Hid (OInv (gd xs) out (gd ys 0) xs.length K r) ∧ wr.rowIs w.heap.size tU xs.length (fun i => dgt (out i)) ∧ Below w.heap.size w wr) (fun _ s8 _ => (intOf s8 + 1).toNat)
  case atStart => exact ⟨xs.length, 0, fun _ => 0, Nat.le_refl _, rfl, by go_num, OInv.first _ _ (by omega), (World.rowIs_made w (.int .u32 0) xs.length tU).congr (fun i _ => rfl), (Below.refl _ _).alloc (Nat.le_refl _) _⟩
  case round =>
    obtain ⟨K, r, out, hK, rfl, rfl, hm, hrow, hbel⟩ := hrel
    have HR := Lib.hid hrow
    have HB := Lib.hid hbel
    by_cases hz : K = 0
    · subst hz
      have HOV := Lib.hid hm.out.last
      have HOK := Lib.hid hm.out.1
      have HD : Hid (Digs wr (some ⟨w.heap.size, 0, none⟩) (fl out xs.length)) := digs_of_row hrow (fun i _ => rfl)
      have hr := hm.out.2.2.1
      have hy := KY.out
      clear hrow hbel hm
      generalize gd ys 0 = y at *
      go_wp2_with fail
      go_ret2
      have hrb : r < 4294967296 := by omega
      have HOKR : Hid (dok [r]) := fun i hi => by
        obtain rfl : i = 0 := by simpa using hi
        exact hrb
      have HDR : Hid (Digs (wr.alloc (.cells #[dgt r] tU)) (some ⟨wr.heap.size, 0, none⟩) [r]) := tseg_of_blk (Blk.new wr tU #[dgt r]) (fun k u hk => by cases k <;> simp_all [u32s])
      exact ⟨_, xs.length, fl out xs.length, _, 1, [r], by rw [fl_len]; rfl, by rw [fl_len]; exact Nat.le_refl _, Nat.le_refl _, HD.out.alloc _, HDR.out, dok_fl HOK.out, HOKR.out, ⟨fl_len _ _, rfl, by rw [dv_fl, HOV.out.1, HDY.out]; rfl, by rw [HDY.out]; refine Eq.trans ?_ HOV.out.2; simp [dv, fv, gd, bp]⟩, HB.out.alloc HB.out.size _⟩
    · obtain ⟨k, rfl⟩ : ∃ k, K = k + 1 := ⟨K - 1, by omega⟩
      have i0 : ((k + 1 : Nat) : Int) - 1 = (k : Int) := by omega
      rw [i0]
      obtain ⟨ax, rfl, hca⟩ := (HX.out.below hbel).cell (u32s_get (show k < xs.length by omega))
      have hcy := Digs.at_ (HY.out.below hbel) (show 0 < ys.length by rw [HL.out]; decide)
      have ho := hrow.frozen k
      have hoc := hrow.cell (show k < xs.length by omega)
      have ha := KX.out k (by omega)
      have hy := KY.out
      have hr := hm.out.2.2.1
      have HST := Lib.hid (hm.out.step (by omega) ha)
      have i1 : (k : Int) < (xs.length : Int) := by omega
      have hor := or32' r (gd xs k) (by omega) ha
      rw [Addr.add_zero'] at hcy
      have hcy2 : ∀ u, (wr.setCell ⟨w.heap.size, k, none⟩ u).cell? ay = some (dgt (gd ys 0)) := fun u => by
        have := Digs.at_ (HY.out.below (hbel.setCell (p := ⟨w.heap.size, k, none⟩) (Nat.le_refl _) u)) (show 0 < ys.length by rw [HL.out]; decide)
        rwa [Addr.add_zero'] at this
      clear hrow hbel i0
      generalize hga : gd xs k = a at *
      generalize hgy : gd ys 0 = y at *
      have HGA := Lib.hid hga
      have HGY := Lib.hid hgy
      clear hga hgy
      generalize hT : r * 4294967296 + a = T at *
      have t1 : (T : Int) < 18446744073709551616 := by omega
      have hr' : (r : Int) < 4294967296 := by omega
      have hy' : (y : Int) < 4294967296 := by omega
      have ha' : (a : Int) < 4294967296 := by omega
      have hy0 : ¬ (y : Int) = 0 := by omega
      have HH := Lib.hid (And.intro hr (And.intro hy ha))
      clear hr hy ha
      have HT := Lib.hid hT
      clear hT
      have hq1 : (T : Int) / (y : Int) < 4294967296 := by
        have h5 := HST.out.1
        rw [quo_nat]; omega
      have hq0 : 0 ≤ (T : Int) / (y : Int) := Int.ediv_nonneg (by omega) (by omega)
      clear hm
      go_wp2_with fail
      go_roundw
      case rel =>
        refine ⟨k, T % y, _, by omega, rfl, rfl, HST.out.2, (HR.out.set k _).congr (fun i hi => ?_), HB.out.setCell (Nat.le_refl _) _⟩
        by_cases h : i = k
        · subst h
          rw [if_pos rfl, upd_same]; rfl
        · rw [if_neg h, upd_other h]
      case measure => simp [intOf]
end Go.Proofs.Ytkffakekakhgdaa
