/- Whole numbers in memory: times a power of 2. No condition. -/
import Derived.Test.YtkffakekakhgdaaBigF
import Derived.Test.YtkffakekakhgdaaBigK
namespace Go.Proofs.Ytkffakekakhgdaa
open Go.ChangeShapes Go.WideShapes Go.ChangeAt Go.RowKit
set_option linter.unusedVariables false

theorem val_32 {a b : Int} (h : a = b) : Value.int .u32 a = .int .u32 b := by rw [h]
set_option maxRecDepth 20000 in
set_option maxHeartbeats 4000000 in
theorem shl_row (Ax : Option Addr) (xs : List Nat) (cx n : Nat) (w : World) (hx : Digs w Ax xs) (kx : dok xs) (lx : xs.length < 8796093022208) (ln : n < 140737488355328) :
    Calls Try.prog 101 #[.slice Ax xs.length cx, .int .i64 n] w fun e w' => ∃ h : Nat → Nat, e = .returned (.slice (some ⟨w.heap.size, 0, none⟩) (xs.length + n / 32 + 1) (xs.length + n / 32 + 1)) ∧ w'.rowIs w.heap.size tU (xs.length + n / 32 + 1) (fun i => dgt (h i)) ∧ fok h (xs.length + n / 32 + 1) ∧ fv h (xs.length + n / 32 + 1) = dv xs * 2 ^ n ∧ Below w.heap.size w w' := by
  obtain ⟨q, hq⟩ : ∃ q, q = n / 32 := ⟨_, rfl⟩
  obtain ⟨r, hr⟩ : ∃ r, r = n % 32 := ⟨_, rfl⟩
  have hn : n = 32 * q + r := by omega
  have hr32 : r < 32 := by omega
  have hql : q < 4398046511104 := by omega
  have iq : (n : Int) / 32 = (q : Int) := by omega
  have ir : (n : Int) % 32 = (r : Int) := by omega
  have HX := Lib.hid hx
  have KX := Lib.hid kx
  have HN := Lib.hid hn
  have HQ := Lib.hid hq
  clear hx kx hn hq hr
  have hmk := run_make_row' (P := Try.prog) 71 tU (.int .u32 0) 4 Try.underlying71 (by kernel_rfl) rfl .i64 .i64 (xs.length + q + 1) (by omega) (by omega)
  rw [Int.natCast_add, Int.natCast_add, show ((1 : Nat) : Int) = 1 from rfl] at hmk
  go_enter Try.func101, Try.ntmps101
  go_wp2_with fail
  clear hmk
  go_loopw [18] (fun s18 wr => ∃ (k : Nat) (h : Nat → Nat), k ≤ xs.length ∧ s18 = .int .i64 k ∧ Hid (SInv (gd xs) h r q (xs.length + q + 1) k) ∧ wr.rowIs w.heap.size tU (xs.length + q + 1) (fun i => dgt (h i)) ∧ Below w.heap.size w wr) (fun s18 _ => xs.length - (intOf s18).toNat)
  case atStart => exact ⟨0, fun _ => 0, Nat.zero_le _, rfl, SInv.first _ _ _ _, (World.rowIs_made w (.int .u32 0) (xs.length + q + 1) tU).congr (fun _ _ => rfl), (Below.refl _ _).alloc (Nat.le_refl _) _⟩
  case round =>
    obtain ⟨k, h, hk, rfl, hm, hrow, hbel⟩ := hrel
    have HR := Lib.hid hrow
    have HB := Lib.hid hbel
    by_cases hlt : k < xs.length
    · obtain ⟨ad, rfl, hca⟩ := (HX.out.below hbel).cell (u32s_get hlt)
      have ha := KX.out k hlt
      have i1 : (k : Int) < (xs.length : Int) := by omega
      have ho := hrow.cell (show k + q < xs.length + q + 1 by omega)
      have ho1 := hrow.cell (show k + q + 1 < xs.length + q + 1 by omega)
      have hf := hrow.frozen (k + q)
      have hf1 := hrow.frozen (k + q + 1)
      have hne : ¬ k + q + 1 = k + q := by omega
      have i3 : (k : Int) + (q : Int) < (xs.length : Int) + (q : Int) + 1 := by omega
      have i4 : ((k : Int) + (q : Int)).toNat = k + q := by omega
      have i5 : (k : Int) + (q : Int) + 1 < (xs.length : Int) + (q : Int) + 1 := by omega
      have i6 : ((k : Int) + (q : Int) + 1).toNat = k + q + 1 := by omega
      have HSL := Lib.hid (hm.out.low hr32)
      have HST := Lib.hid (hm.out.step hr32 ha (by omega))
      have HSH := Lib.hid (shl_lt hr32 ha)
      have HHR := Lib.hid hm.out.2.2.1
      clear hrow hbel
      generalize gd xs k = a at *
      go_wp2_with fail
      go_roundw
      case rel =>
        refine ⟨k + 1, _, by omega, by go_num, HST.out, ((HR.out.set (k + q) _).set (k + q + 1) _).congr (fun i _ => ?_), (HB.out.setCell (Nat.le_refl _) _).setCell (Nat.le_refl _) _⟩
        have hw : IntKind.u64.wrap ((a : Int) * 2 ^ r) = ((a * 2 ^ r : Nat) : Int) := by
          have e1 : ((2 : Int) ^ r) = ((2 ^ r : Nat) : Int) := by rw [Int.natCast_pow]; rfl
          have h1 := HSH.out.1
          rw [e1, ← Int.natCast_mul]
          generalize a * 2 ^ r = s at *
          simp [IntKind.wrap, IntKind.bits, IntKind.signed]; omega
        rw [hw]
        by_cases h1 : i = k + q + 1
        · subst h1
          have h2 := HSH.out.2
          have h3 : 2 ^ r ≤ 2 ^ 31 := Nat.pow_le_pow_right (by decide) (by omega)
          rw [if_pos rfl, upd_same]
          generalize a * 2 ^ r = s at *
          exact val_32 (by omega)
        · rw [if_neg h1, upd_other h1]
          by_cases h4 : i = k + q
          · subst h4
            rw [if_pos rfl, upd_same]
            have h5 := HSL.out
            have h6 := HHR.out
            have h3 : 2 ^ r ≤ 2 ^ 31 := Nat.pow_le_pow_right (by decide) (by omega)
            generalize a * 2 ^ r = s at *
            refine val_32 ?_
            have e2 : (s : Int) % 4294967296 = ((s % 4294967296 : Nat) : Int) := by omega
            rw [e2, u32_or_nat _ _ (by omega) (by omega), Nat.or_comm, nat_join r _ _ h5.2 h6]
            omega
          · rw [if_neg h4, upd_other h4]
      case measure => simp [intOf]; omega
    · obtain rfl : k = xs.length := by omega
      have HV : Hid (fv h (xs.length + q + 1) = dv xs * 2 ^ n) := by
        unfold Hid
        rw [hm.out.2.2.2, HN.out, Nat.pow_add, Nat.pow_mul]
        show dv xs * 2 ^ r * bp q = dv xs * (bp q * 2 ^ r)
        rw [Nat.mul_assoc, Nat.mul_comm (2 ^ r)]
      have HOK := Lib.hid hm.out.1
      clear hrow hbel
      go_wp2_with fail
      go_ret
      rw [← HQ.out]
      exact ⟨h, rfl, HR.out, HOK.out, HV.out, HB.out⟩
theorem shl_any (Ax : Option Addr) (xs : List Nat) (cx n : Nat) (w : World) (hx : Digs w Ax xs) (kx : dok xs) (lx : xs.length < 8796093022208) (ln : n < 140737488355328) :
    Calls Try.prog 101 #[.slice Ax xs.length cx, .int .i64 n] w fun e w' => NewDigs w e w' fun ds => ds.length = xs.length + n / 32 + 1 ∧ dv ds = dv xs * 2 ^ n := by
  refine (shl_row Ax xs cx n w hx kx lx ln).mono ?_
  rintro e w' ⟨h, rfl, hr, hok, hv, hb⟩
  exact NewDigs.mk_ rfl (digs_of_row hr (fun _ _ => rfl)) hok ⟨fl_len _ _, by rw [dv_fl, hv]⟩ hb

theorem shl_sign {b : Bool} {xs : List Nat} {x : Int} (n : Nat) (hx : IsZ b xs x) : x * (2 ^ n : Nat) = if b = true then -((dv xs * 2 ^ n : Nat) : Int) else ((dv xs * 2 ^ n : Nat) : Int) := by
  have h1 := hx.2.2.2
  rw [Int.natCast_mul]
  cases b
  · rw [if_neg (by decide)] at h1; rw [if_neg (by decide), h1]
  · rw [if_pos rfl] at h1; rw [if_pos rfl, h1, Int.neg_mul]
set_option maxRecDepth 20000 in
set_option maxHeartbeats 4000000 in
theorem lsh_any (g gx ox n : Nat) (x : Int) (L : Nat) (w : World) (hg : IntBlk w g) (hx : IntZ w gx ox x) (fx : Fits x L) (hL : L < 8796093022208) (ln : n < 140737488355328) :
    Calls Try.prog 70 #[.pointer (some ⟨g, 0, none⟩), .pointer (some ⟨gx, ox, none⟩), .int .u64 n] w fun e w' => e = .returned (.pointer (some ⟨g, 0, none⟩)) ∧ PutZ w w' g (x * (2 ^ n : Nat)) := by
  obtain ⟨bx, xs, ⟨tx, cx, Ax, capx, hbx, _, hx0, hx1, hcx, hmx, hdx⟩, sx⟩ := hx
  obtain ⟨zx, zy, hzb⟩ := hg
  have c0 := hbx.cell ox hx0
  have c1 := hbx.cell (ox + 1) hx1
  have HZB := Lib.hid hzb
  have HDX := Lib.hid hdx
  have LX := Lib.hid hbx.lt
  have lx : xs.length < 8796093022208 := Nat.lt_of_le_of_lt (sx.len fx) hL
  have KX := Lib.hid sx.1
  have HS := Lib.hid (shl_sign n sx)
  have e1 : IntKind.i64.wrap (n : Int) = (n : Int) := IntWalk.i64_in _ (by omega)
  clear hbx hx0 hx1 hcx hmx hdx hzb sx
  go_enter Try.func70, Try.ntmps70
  go_wp2_with fail
  refine wp_region_plan [(0, 0), (1, 0), (2, 0), (3, 0), (4, 0), (5, 1), (6, 0), (7, 0), (8, 0), (9, 1), (10, 0), (11, 0), (12, 2), (13, 0), (14, 0), (15, 3), (16, 0), (17, 0), (18, 3)] (fun w' => w'.cell? ⟨gx, ox, none⟩ = some (.bool bx) ∧ w'.cell? ⟨gx, ox + 1, none⟩ = some (.slice Ax xs.length capx) ∧ Below w.heap.size w w') (by kernel_rfl) (by kernel_rfl) (fun _ d _ _ _ h => by cases d <;> exact h) ⟨c0, c1, Below.drew (Below.refl _ _)⟩ ?_
  iterate 12 ((first | (refine plan0 (v := ?_) rfl rfl (by rfl) ?_ ?_) | (refine plan1 (v := ?_) rfl rfl (by rfl) ?_ ?_)); rotate_left; (first | (intro w'; go_simp; with_reducible rfl) | (intro w' hS; obtain ⟨h1, h2, h3⟩ := hS; go_simp; with_reducible rfl)); simp only [List.setIfInBounds_toArray, List.set_cons_zero, List.set_cons_succ])
  refine plan2 rfl rfl fun K' hK' => ?_
  go_simp
  refine (shl_any Ax xs capx n _ HDX.out.drew KX.out lx ln).mono ?_
  rintro e w1 ⟨A, c, ds, rfl, hc, hd, hok, ⟨hlen, hval⟩, hbel⟩
  have HLEN := Lib.hid hlen
  have HVAL := Lib.hid hval
  clear hlen hval e1
  dsimp only
  have hbw : Below w.heap.size w w1 := (Below.drew (Below.refl _ _)).trans hbel
  refine hK' _ _ ⟨(hbw.cell (p := ⟨gx, ox, none⟩) LX.out).trans c0, (hbw.cell (p := ⟨gx, ox + 1, none⟩) LX.out).trans c1, hbw⟩ ?_
  clear hK' K' c0 c1
  have hz1 := HZB.out.below hbw HZB.out.lt
  have z0 := hz1.cell 0 rfl
  have z1 := hz1.cell 1 rfl
  have f0 := hz1.frozen 0
  have f1 := hz1.frozen 1
  iterate 2 ((refine plan0 (v := ?_) rfl rfl (by rfl) ?_ ?_); rotate_left; (intro w'; go_simp; with_reducible rfl); simp only [List.setIfInBounds_toArray, List.set_cons_zero, List.set_cons_succ])
  refine plan3 rfl rfl fun K' hK' => ?_
  go_simp
  refine hK' _ _ ?_
  clear hK' K'
  iterate 2 ((refine plan0 (v := ?_) rfl rfl (by rfl) ?_ ?_); rotate_left; (intro w'; go_simp; with_reducible rfl); simp only [List.setIfInBounds_toArray, List.set_cons_zero, List.set_cons_succ])
  refine plan3 rfl rfl fun K' hK' => ?_
  go_simp
  refine hK' _ _ ?_
  clear hK' K'
  have H2 := Lib.hid hd
  have HW := Lib.hid hz1
  have HB := Lib.hid hbw
  have HOK := Lib.hid hok
  have HV : Hid (x * (2 ^ n : Nat) = if bx then -(dv ds : Int) else (dv ds : Int)) := by unfold Hid; rw [HVAL.out]; exact HS.out
  have HL : Hid (ds.length ≤ capMax) := by
    have hlen := HLEN.out
    show _ ≤ 17592186044416
    omega
  clear hd hz1 hbw hbel hok z0 z1 f0 f1
  refine planEnd ?_
  go_wp2_with fail
  have HB2 : Hid (Blk ((w1.setCell ⟨g, 0, none⟩ (.bool bx)).setCell ⟨g, 1, none⟩ (.slice A ds.length c)) g tI #[.bool bx, .slice A ds.length c]) := (HW.out.set_ 0 _).set_ 1 _
  have HD2 : Hid (Digs ((w1.setCell ⟨g, 0, none⟩ (.bool bx)).setCell ⟨g, 1, none⟩ (.slice A ds.length c)) A ds) := (H2.out.far HW.out tI_ne 0 _).far (HW.out.set_ 0 _) tI_ne 1 _
  have HG : Hid (w.grownBy ((w1.setCell ⟨g, 0, none⟩ (.bool bx)).setCell ⟨g, 1, none⟩ (.slice A ds.length c)) (some g)) := (grown_of_below HB.out (some g)).trans ((setCell_grown w1 g 0 (.bool bx)).trans (setCell_grown _ g 1 (.slice A ds.length c)))
  refine (trim_any g bx A c ds _ HB2.out HD2.out hc HL.out).mono ?_
  rintro e w3 ⟨rfl, ht⟩
  have HT := Lib.hid ht
  clear ht
  go_wp2_with fail
  go_ret
  exact ⟨rfl, put_of_trim HG.out HB2.out HD2.out HOK.out hc HL.out HT.out HV.out⟩
end Go.Proofs.Ytkffakekakhgdaa
