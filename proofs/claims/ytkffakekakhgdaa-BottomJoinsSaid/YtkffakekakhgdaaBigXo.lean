/- Whole numbers in memory, not below 0: their exclusive or. No condition. -/
import Derived.Test.YtkffakekakhgdaaBigC
import Derived.Test.YtkffakekakhgdaaBigU
import Derived.Test.YtkffakekakhgdaaBigF
namespace Go.Proofs.Ytkffakekakhgdaa
open Go.ChangeShapes Go.WideShapes Go.ChangeAt Go.RowKit
set_option linter.unusedVariables false

theorem wpList_append_tseg {P : Program} (w : World) {ops : Array Oper} {rest : List Oper} {o : Oper} {a : Act} {Q : Exit → Act → World → Prop} (hgd : o.guard = none) (s x : Operand) (t e : TypeId) (b : Nat) (E1 : Elem1 P t e b)
    (ho : o.op = .call { callee := .builtin .append, args := #[s, x], argTypes := #[t, t] }) (base g : Nat) (hs : a.eval s = .slice (some ⟨g, 0, none⟩) 0 0) (hg : Blk w g e #[]) (hbase : base ≤ g)
    (A : Option Addr) (m c : Nat) (hx : a.eval x = .slice A m c) (xs : List Value) (hl : xs.length = m) (hd : TSeg w e A xs) (h1 : ∀ u ∈ xs, u.oneCell' = true) (hb : m * b ≤ 140737488355328) (hm : m ≤ maxLen)
    (h : ∀ v' w', Own w' base e v' xs → Below base w w' → wpList P ops Q rest (a.put o.dst v') w') : wpList P ops Q (o :: rest) a w :=
  wpList_plain hgd fun K hK => wp_append_tseg w s x t e b E1 ho base g hs hg hbase A m c hx xs hl hd h1 hb hm fun v' w' h2 h3 => hK _ _ (h v' w' h2 h3)
def xfun (xs ys : List Nat) (k i : Nat) : Nat := if i < k then gd xs i ^^^ gd ys i else gd xs i
theorem xfun_zero (xs ys : List Nat) : u32s xs = u32s (fl (xfun xs ys 0) xs.length) := by
  rw [u32s_fl]
  refine List.ext_getElem (by simp [u32s]) fun i h1 h2 => ?_
  have hi : i < xs.length := by simpa [u32s] using h1
  have h3 := u32s_get hi
  rw [List.getElem?_eq_getElem h1] at h3
  injection h3 with h3
  rw [h3]
  simp [xfun]
theorem xfun_set (xs ys : List Nat) (k n : Nat) : (u32s (fl (xfun xs ys k) n)).set k (dgt (gd xs k ^^^ gd ys k)) = u32s (fl (xfun xs ys (k + 1)) n) := by
  rw [u32s_fl, u32s_fl]
  refine List.ext_getElem (by simp) fun i h1 h2 => ?_
  rw [List.getElem_set]
  by_cases e : k = i
  · subst e
    rw [if_pos rfl]
    simp [xfun]
  · rw [if_neg e]
    simp only [List.getElem_map, List.getElem_range]
    unfold xfun
    by_cases h3 : i < k
    · rw [if_pos h3, if_pos (by omega)]
    · rw [if_neg h3, if_neg (by omega)]
theorem xfun_end {xs ys : List Nat} (kx : dok xs) (ky : dok ys) (hle : ys.length ≤ xs.length) : fok (xfun xs ys ys.length) xs.length ∧ fv (xfun xs ys ys.length) xs.length = dv xs ^^^ dv ys := by
  have e : ∀ i, xfun xs ys ys.length i = gd xs i ^^^ gd ys i := fun i => by
    unfold xfun
    by_cases h : i < ys.length
    · rw [if_pos h]
    · rw [if_neg h, gd_ge (zs := ys) (by omega), Nat.xor_zero]
  have e2 : xfun xs ys ys.length = fun i => gd xs i ^^^ gd ys i := funext e
  have k2 : fok (gd ys) xs.length := fun i _ => gd_lt32 ky i
  rw [e2]
  exact ⟨xor_ok kx k2, by rw [fv_xor kx k2, dv_fv (Nat.le_refl _), dv_fv hle]⟩
set_option maxRecDepth 20000 in
set_option maxHeartbeats 4000000 in
theorem xor_any (g gx ox gy oy x y : Nat) (w : World) (hg : IntBlk w g) (hx : IntZ w gx ox x) (hy : IntZ w gy oy y) (hle : y ≤ x) :
    Calls Try.prog 72 #[.pointer (some ⟨g, 0, none⟩), .pointer (some ⟨gx, ox, none⟩), .pointer (some ⟨gy, oy, none⟩)] w fun e w' => e = .returned (.pointer (some ⟨g, 0, none⟩)) ∧ PutZ w w' g ((x ^^^ y : Nat) : Int) := by
  obtain ⟨bx, xs, ⟨tx, csx, Ax, cx, hbx, _, hx0, hx1, hcx, hmx, hdx⟩, sx⟩ := hx
  obtain ⟨by_, ys, ⟨ty, csy, Ay, cy, hby, _, hy0, hy1, hcy, hmy, hdy⟩, sy⟩ := hy
  obtain rfl : bx = false := by rw [sx.neg_iff, decide_eq_false (by omega)]
  obtain rfl : by_ = false := by rw [sy.neg_iff, decide_eq_false (by omega)]
  have vx : dv xs = x := by have := sx.2.2.2; rw [if_neg (by decide)] at this; omega
  have vy : dv ys = y := by have := sy.2.2.2; rw [if_neg (by decide)] at this; omega
  have hll : ys.length ≤ xs.length := len_le sy.2.1 (by have := dv_lt sx.1; omega)
  have XE := xfun_end sx.1 sy.1 hll
  rw [vx, vy] at XE
  have HXE := Lib.hid XE
  obtain ⟨zx, zy, hzb⟩ := hg
  have c1 := hbx.cell (ox + 1) hx1
  have d1 := hby.cell (oy + 1) hy1
  have HZB := Lib.hid hzb
  have HDX := Lib.hid hdx
  have HDY := Lib.hid hdy
  have HMX := Lib.hid hmx
  have LX := Lib.hid hbx.lt
  have LY := Lib.hid hby.lt
  have KX := Lib.hid sx.1
  have KY := Lib.hid sy.1
  have i1 : ¬ ((xs.length : Int) < (ys.length : Int)) := by omega
  have i2 : decide ((xs.length : Int) < (ys.length : Int)) = false := decide_eq_false i1
  have i3 : decide (xs.length < ys.length) = false := decide_eq_false (by omega)
  clear hbx hx0 hx1 hcx hmx hdx hby hy0 hy1 hcy hmy hdy hzb sx sy XE vx vy
  go_enter Try.func72, Try.ntmps72
  go_wp2_with fail
  refine wp_region_plan [(0, 0), (1, 0), (2, 0), (3, 1), (4, 0), (5, 0), (6, 0), (7, 1), (8, 0), (9, 0)] (fun w' => w'.cell? ⟨gx, ox + 1, none⟩ = some (.slice Ax xs.length cx) ∧ w'.cell? ⟨gy, oy + 1, none⟩ = some (.slice Ay ys.length cy) ∧ Below w.heap.size w w') (by kernel_rfl) (by kernel_rfl) (fun _ d _ _ _ h => by cases d <;> exact h) ⟨c1, d1, Below.drew (Below.refl _ _)⟩ ?_
  iterate 10 ((first | (refine plan0 (v := ?_) rfl rfl (by rfl) ?_ ?_) | (refine plan1 (v := ?_) rfl rfl (by rfl) ?_ ?_)); rotate_left; (first | (intro w'; go_simp; with_reducible rfl) | (intro w' hS; obtain ⟨h1, h2, h3⟩ := hS; go_simp; with_reducible rfl)); simp only [List.setIfInBounds_toArray, List.set_cons_zero, List.set_cons_succ])
  refine planEnd ?_
  clear c1 d1
  go_wp2_with (first
    | (at_builtin; go_must (refine wpList_append_tseg _ rfl _ _ _ tU 4 elem_u32 rfl w.heap.size w.heap.size rfl (Blk.new w.drew tU #[]) (Nat.le_refl _) Ax xs.length cx rfl (u32s xs) (u32s_len xs) (HDX.out.drew.alloc _) (u32s_one xs) (by have h : xs.length ≤ 17592186044416 := HMX.out; omega) (by have h : xs.length ≤ 17592186044416 := HMX.out; unfold maxLen; omega) ?_); intro v1 w1 hown hbel; obtain ⟨A2, c2, e3, hc2, s3⟩ := hown.res2; rw [u32s_len] at e3 hc2 s3; subst e3; have HO := Lib.hid s3; have HC2 := Lib.hid hc2; have HE : Hid (Below w.heap.size w w1) := ((Below.drew (Below.refl _ _)).alloc (Nat.le_refl _) _).trans hbel; clear s3 hc2 hown hbel)
    | fail)
  clear i1 i2 i3
  go_loopw [32] (fun s32 wr => ∃ k : Nat, k ≤ ys.length ∧ s32 = .int .i64 k ∧ Own wr w.heap.size tU (.slice A2 xs.length c2) (u32s (fl (xfun xs ys k) xs.length)) ∧ Below w.heap.size w wr) (fun s32 _ => ys.length - (intOf s32).toNat)
  case atStart => exact ⟨0, Nat.zero_le _, rfl, by rw [← xfun_zero]; exact HO.out, HE.out⟩
  case round =>
    obtain ⟨k, hk, rfl, hown, hbel⟩ := hrel
    have HOW := Lib.hid hown
    have HB := Lib.hid hbel
    clear hown hbel
    by_cases hlt : k < ys.length
    · obtain ⟨ad, rfl, hca⟩ := (HDY.out.below HB.out).cell (u32s_get hlt)
      obtain ⟨g2, rfl, hg2⟩ := HOW.out.at_ (by omega)
      have hc := HOW.out.cell (u32s_get (show k < (fl (xfun xs ys k) xs.length).length by rw [fl_len]; omega))
      rw [gd_fl (xfun xs ys k) (show k < xs.length by omega), show xfun xs ys k k = gd xs k from if_neg (Nat.lt_irrefl k)] at hc
      have hf := HOW.out.frozen k
      have hx := u32_xor_nat (gd xs k) (gd ys k) (gd_lt32 KX.out k) (gd_lt32 KY.out k)
      have i1 : (k : Int) < (ys.length : Int) := by omega
      have i2 : (k : Int) < (xs.length : Int) := by omega
      have lxb : xs.length ≤ 17592186044416 := HMX.out
      have HS : Hid (∀ v : Value, v = dgt (gd xs k ^^^ gd ys k) → Own (wr.setCell ⟨g2, k, none⟩ v) w.heap.size tU (.slice (some ⟨g2, 0, none⟩) xs.length c2) (u32s (fl (xfun xs ys (k + 1)) xs.length))) := fun v hv => by
        rw [hv, ← xfun_set]; exact HOW.out.set k _
      generalize gd xs k = a at *
      generalize gd ys k = b at *
      go_wp2_with fail
      go_roundw
      case rel => exact ⟨k + 1, by omega, by go_num, HS.out _ rfl, HB.out.setCell hg2 _⟩
      case measure => simp [intOf]; omega
    · obtain rfl : k = ys.length := by omega
      have hz1 := HZB.out.below HB.out HZB.out.lt
      have z0 := hz1.cell 0 rfl
      have z1 := hz1.cell 1 rfl
      have f0 := hz1.frozen 0
      have f1 := hz1.frozen 1
      have HW := Lib.hid hz1
      have i1 : ¬ (ys.length : Int) < (ys.length : Int) := Int.lt_irrefl _
      have hd := HOW.out.tseg
      have HV2 : Hid (((x ^^^ y : Nat) : Int) = if false then -(dv (fl (xfun xs ys ys.length) xs.length) : Int) else (dv (fl (xfun xs ys ys.length) xs.length) : Int)) := by unfold Hid; rw [dv_fl, HXE.out.2]; rfl
      have HOK : Hid (dok (fl (xfun xs ys ys.length) xs.length)) := dok_fl HXE.out.1
      have HLN := fl_len (xfun xs ys ys.length) xs.length
      generalize fl (xfun xs ys ys.length) xs.length = ds at *
      have H2 : Hid (Digs wr A2 ds) := hd
      have HLE : Hid (ds.length = xs.length) := HLN
      clear hz1 hd HLN
      go_wp2_with fail
      have HB2 : Hid (Blk ((wr.setCell ⟨g, 0, none⟩ (.bool false)).setCell ⟨g, 1, none⟩ (.slice A2 xs.length c2)) g tI #[.bool false, .slice A2 ds.length c2]) := by rw [HLE.out]; exact (HW.out.set_ 0 _).set_ 1 _
      have HD2 : Hid (Digs ((wr.setCell ⟨g, 0, none⟩ (.bool false)).setCell ⟨g, 1, none⟩ (.slice A2 xs.length c2)) A2 ds) := (H2.out.far HW.out tI_ne 0 _).far (HW.out.set_ 0 _) tI_ne 1 _
      have HG : Hid (w.grownBy ((wr.setCell ⟨g, 0, none⟩ (.bool false)).setCell ⟨g, 1, none⟩ (.slice A2 xs.length c2)) (some g)) := (grown_of_below HB.out (some g)).trans ((setCell_grown wr g 0 (.bool false)).trans (setCell_grown _ g 1 (.slice A2 xs.length c2)))
      have HL1 : Hid (ds.length ≤ c2) := by unfold Hid; rw [HLE.out]; exact HC2.out
      have HL2 : Hid (ds.length ≤ capMax) := by unfold Hid; rw [HLE.out]; exact HMX.out
      refine (trim_any g false A2 c2 ds _ HB2.out HD2.out HL1.out HL2.out).mono ?_
      rintro e w3 ⟨rfl, ht⟩
      have HT := Lib.hid ht
      clear ht
      go_wp2_with fail
      go_ret
      exact ⟨rfl, put_of_trim HG.out HB2.out HD2.out HOK.out HL1.out HL2.out HT.out HV2.out⟩
end Go.Proofs.Ytkffakekakhgdaa
