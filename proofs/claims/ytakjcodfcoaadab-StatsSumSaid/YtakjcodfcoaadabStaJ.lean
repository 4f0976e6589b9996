/- Package stats: Join and Spread walked; the reference's PWrong. No condition. -/
import Derived.Test.YtakjcodfcoaadabStaO
namespace Go.Proofs.Ytakjcodfcoaadab
open Go.ChangeShapes Go.WideShapes Go.ChangeAt Go.RowKit
set_option linter.unusedVariables false

def sspread (N S Q : Int) : Int × Int := if mok N S Q then (N * Q - S * S, 0) else (0, 1)
theorem ret_s2 {a b : Int} {r : Int × Int} (h : r = (a, b)) : Ending.returned (.tuple #[.int .i64 a, .int .i64 b]) = .returned (.tuple #[.int .i64 r.1, .int .i64 r.2]) := by rw [h]
set_option maxRecDepth 20000 in
set_option maxHeartbeats 4000000 in
theorem spread_any' (N S Q : Int) (w : World) (hS : -9223372036854775808 ≤ S ∧ S ≤ 9223372036854775807) (hQ : -9223372036854775808 ≤ Q ∧ Q ≤ 9223372036854775807) :
    Calls Try.prog 11 #[MomV N S Q] w fun e w' => e = .returned (.tuple #[.int .i64 (sspread N S Q).1, .int .i64 (sspread N S Q).2]) ∧ Below w.heap.size w w' := by
  have HB0 := Lib.hid (Blk.new w tM (mcs N S Q))
  by_cases h : mok N S Q
  · have hf : Hid (sspread N S Q = (N * Q - S * S, 0)) := if_pos h
    obtain ⟨h0, h1, h2, h3, h4, h5, h6, h7⟩ := id h
    obtain ⟨b0, b1, b2, b3⟩ := mok_bounds (N := N) (S := S) (Q := Q) (by omega) (by omega) (by omega) (by omega) (by omega) (by omega)
    have hd : decide (mok N S Q) = true := decide_eq_true h
    clear h h0 h1 h2 h3 h4 h5 h6 h7
    go_enter Try.func11, Try.ntmps11
    go_wp2_with (first | (refine wpList_load_blk rfl _ _ rfl w.heap.size rfl _ _ _ HB0.out Try.underlying24 rfl (by kernel_rfl) ?_) | fail)
    refine (sright_any N S Q _ hS hQ).mono ?_
    rintro e w1 ⟨rfl, hb⟩
    rw [hd]
    have HB1 := Lib.hid (HB0.out.below hb HB0.out.lt)
    have HB : Hid (Below w.heap.size w w1) := ((Below.refl _ _).alloc (Nat.le_refl _) _).trans (hb.mono (by simp))
    have c0 := HB1.out.cell 0 (u := .int .i64 N) rfl
    have c1 := HB1.out.cell 1 (u := .int .i64 S) rfl
    have c2 := HB1.out.cell 2 (u := .int .i64 Q) rfl
    clear hb hd
    go_wp2_with fail
    go_ret2
    exact ⟨ret_s2 hf.out, HB.out⟩
  · have hf : Hid (sspread N S Q = (0, 1)) := if_neg h
    have hd : decide (mok N S Q) = false := decide_eq_false h
    clear h
    go_enter Try.func11, Try.ntmps11
    go_wp2_with (first | (refine wpList_load_blk rfl _ _ rfl w.heap.size rfl _ _ _ HB0.out Try.underlying24 rfl (by kernel_rfl) ?_) | fail)
    refine (sright_any N S Q _ hS hQ).mono ?_
    rintro e w1 ⟨rfl, hb⟩
    rw [hd]
    have HB : Hid (Below w.heap.size w w1) := ((Below.refl _ _).alloc (Nat.le_refl _) _).trans (hb.mono (by simp))
    clear hb hd
    go_wp2_with fail
    go_ret2
    exact ⟨ret_s2 hf.out, HB.out⟩

/-- Is a number too great, or are they too many? -/
def pwr (zs : List Int) : Bool := !decide (zs.length ≤ 400 ∧ sall zs)
set_option maxRecDepth 20000 in
set_option maxHeartbeats 4000000 in
theorem pwrong_any (A : Option Addr) (zs : List Int) (c : Nat) (w : World) (hs : Seg w w.heap.size A (zs.map (.int .i64))) (hl : zs.length ≤ 9223372036854775807) :
    Calls Try.prog 12 #[.slice A zs.length c] w fun e w' => e = .returned (.bool (pwr zs)) ∧ w = w' := by
  have HS := Lib.hid hs
  clear hs
  obtain ⟨b0, hb0⟩ : ∃ b, decide (400 < (zs.length : Int)) = b := ⟨_, rfl⟩
  have HB0 : Hid (b0 = !decide (zs.length ≤ 400)) := by
    unfold Hid; rw [← hb0]
    by_cases h : zs.length ≤ 400
    · rw [decide_eq_true h, decide_eq_false (by omega)]; rfl
    · rw [decide_eq_false h, decide_eq_true (by omega)]; rfl
  go_enter Try.func12, Try.ntmps12
  go_wp2_with fail
  clear hb0
  go_loop [11, 3] (fun s11 s3 => ∃ (k : Nat) (b : Bool), k ≤ zs.length ∧ s11 = .int .i64 k ∧ s3 = .bool b ∧ Hid (b = !decide (zs.length ≤ 400 ∧ sall (zs.take k)))) (fun s11 _ => zs.length - (intOf s11).toNat)
  case atStart =>
    refine ⟨0, b0, Nat.zero_le _, rfl, rfl, ?_⟩
    unfold Hid; rw [HB0.out]; simp [sall]
  case round =>
    obtain ⟨k, b, hk, rfl, rfl, hb⟩ := hrel
    by_cases hlt : k < zs.length
    · obtain ⟨ad, rfl, _, hc⟩ := HS.out.int hlt
      have HWT := Lib.hid (sall_take zs k hlt)
      cases b with
      | true =>
        have HN : Hid (true = !decide (zs.length ≤ 400 ∧ sall (zs.take (k + 1)))) := by
          unfold Hid
          rw [decide_eq_false]; rfl
          intro h
          have h2 := hb.out
          rw [decide_eq_true ⟨h.1, (HWT.out.1 h.2).1⟩] at h2
          cases h2
        clear HWT hb
        generalize zs[k] = z at *
        go_wp2_with fail
        go_round
        case rel => exact ⟨k + 1, true, by omega, by go_num, rfl, HN⟩
        case measure => simp [intOf]; omega
      | false =>
        have hok : zs.length ≤ 400 ∧ sall (zs.take k) := by
          have h2 := hb.out
          by_cases h : zs.length ≤ 400 ∧ sall (zs.take k)
          · exact h
          · rw [decide_eq_false h] at h2; cases h2
        by_cases b1 : 1048576 < zs[k]
        · have HN : Hid (true = !decide (zs.length ≤ 400 ∧ sall (zs.take (k + 1)))) := by
            unfold Hid
            rw [decide_eq_false]; rfl
            intro h
            have := (HWT.out.1 h.2).2
            omega
          clear HWT hb hok
          generalize zs[k] = z at *
          go_wp2_with fail
          go_round
          case rel => exact ⟨k + 1, true, by omega, by go_num, rfl, HN⟩
          case measure => simp [intOf]; omega
        by_cases b2 : zs[k] < -1048576
        · have HN : Hid (true = !decide (zs.length ≤ 400 ∧ sall (zs.take (k + 1)))) := by
            unfold Hid
            rw [decide_eq_false]; rfl
            intro h
            have := (HWT.out.1 h.2).2
            omega
          clear HWT hb hok
          generalize zs[k] = z at *
          go_wp2_with fail
          go_round
          case rel => exact ⟨k + 1, true, by omega, by go_num, rfl, HN⟩
          case measure => simp [intOf]; omega
        have HN : Hid (false = !decide (zs.length ≤ 400 ∧ sall (zs.take (k + 1)))) := by
          unfold Hid
          rw [decide_eq_true ⟨hok.1, HWT.out.2 ⟨hok.2, by omega, by omega⟩⟩]; rfl
        clear HWT hb hok
        generalize zs[k] = z at *
        go_wp2_with fail
        go_round
        case rel => exact ⟨k + 1, false, by omega, by go_num, rfl, HN⟩
        case measure => simp [intOf]; omega
    · obtain rfl : k = zs.length := by omega
      have hf : Hid (b = pwr zs) := by have := hb.out; rwa [List.take_length] at this
      clear hb
      go_wp2_with fail
      go_ret
      exact ⟨ret_mb hf.out, rfl⟩

theorem wpList_load_blk_g {P : Program} {ops : Array Oper} {rest : List Oper} {o : Oper} {a : Act} {w : World} {Q : Exit → Act → World → Prop} (hw : Region.wanted o (yielded ops a.tmps) = true) (ty : TypeId) (x : Operand) (ho : o.op = .load ty x)
    (g : Nat) (hx : a.eval x = .pointer (some ⟨g, 0, none⟩)) (t : TypeId) (cs : Array Value) (d : TypeDesc) (hg : Blk w g t cs)
    (hu : P.underlying ty = some d) (hd : (match d with | .struct _ | .array _ _ => true | _ => false) = true) (hi : (P.info? ty).map (·.size) = some cs.size)
    (h : wpList P ops Q rest (a.put o.dst (.agg cs)) w) : wpList P ops Q (o :: rest) a w :=
  wpList_step fun K hK => by
    rw [if_pos hw]
    exact wp_load_row ty x ho g hx t cs (0, 0) d hg hu hd hi (hK _ _ h)
/-- What Join answers. -/
def sjoin (a b c x y z : Int) : (Int × Int × Int) × Int := if mok a b c ∧ mok x y z then (if 1024 < a + x then ((0, 0, 0), 4) else ((a + x, b + y, c + z), 0)) else ((0, 0, 0), 1)
theorem three_new (w : World) (o p q : Obj) : Below w.heap.size w (((w.alloc o).alloc p).alloc q) := (((Below.refl w.heap.size w).alloc (Nat.le_refl _) o).alloc (by simp) p).alloc (by simp; omega) q
theorem three_blk (w : World) (t : TypeId) (a b c : Array Value) : Blk (((w.alloc (.cells a t)).alloc (.cells b t)).alloc (.cells c t)) w.heap.size t a ∧ Blk (((w.alloc (.cells a t)).alloc (.cells b t)).alloc (.cells c t)) (w.heap.size + 1) t b ∧ Blk (((w.alloc (.cells a t)).alloc (.cells b t)).alloc (.cells c t)) (w.heap.size + 2) t c := by
  refine ⟨((Blk.new w t a).alloc _).alloc _, ?_, ?_⟩
  · have := (Blk.new (w.alloc (.cells a t)) t b).alloc (.cells c t)
    rwa [show (w.alloc (.cells a t)).heap.size = w.heap.size + 1 by simp] at this
  · have := Blk.new ((w.alloc (.cells a t)).alloc (.cells b t)) t c
    rwa [show ((w.alloc (.cells a t)).alloc (.cells b t)).heap.size = w.heap.size + 2 by simp] at this
set_option maxRecDepth 20000 in
set_option maxHeartbeats 4000000 in
theorem sjoin_any (a b c x y z : Int) (w : World) (hb : -9223372036854775808 ≤ b ∧ b ≤ 9223372036854775807) (hc : -9223372036854775808 ≤ c ∧ c ≤ 9223372036854775807) (hy : -9223372036854775808 ≤ y ∧ y ≤ 9223372036854775807) (hz : -9223372036854775808 ≤ z ∧ z ≤ 9223372036854775807) :
    Calls Try.prog 10 #[MomV a b c, MomV x y z] w fun e w' => e = .returned (.tuple #[MomV (sjoin a b c x y z).1.1 (sjoin a b c x y z).1.2.1 (sjoin a b c x y z).1.2.2, .int .i64 (sjoin a b c x y z).2]) ∧ Below w.heap.size w w' := by
  obtain ⟨hA, hX, hR⟩ := three_blk w tM (mcs a b c) (mcs x y z) (mcs 0 0 0)
  have HA := Lib.hid hA
  have HX := Lib.hid hX
  have HR := Lib.hid hR
  have HW := Lib.hid (three_new w (.cells (mcs a b c) tM) (.cells (mcs x y z) tM) (.cells (mcs 0 0 0) tM))
  clear hA hX hR
  by_cases h1 : mok a b c
  · have d1 : decide (mok a b c) = true := decide_eq_true h1
    by_cases h2 : mok x y z
    · have d2 : decide (mok x y z) = true := decide_eq_true h2
      have hj : Hid (sjoin a b c x y z = if 1024 < a + x then ((0, 0, 0), 4) else ((a + x, b + y, c + z), 0)) := if_pos ⟨h1, h2⟩
      obtain ⟨p0, p1, p2, p3, p4, p5, _, _⟩ := h1
      obtain ⟨q0, q1, q2, q3, q4, q5, _, _⟩ := h2
      go_enter Try.func10, Try.ntmps10
      go_wp2_with (first | (refine wpList_load_blk rfl _ _ rfl w.heap.size rfl _ _ _ HA.out Try.underlying24 rfl (by kernel_rfl) ?_) | fail)
      refine (sright_any a b c _ hb hc).mono ?_
      rintro e w1 ⟨rfl, hb1⟩
      rw [d1]
      have HA1 := Lib.hid (HA.out.below hb1 HA.out.lt)
      have HX1 := Lib.hid (HX.out.below hb1 HX.out.lt)
      have HR1 := Lib.hid (HR.out.below hb1 HR.out.lt)
      have HW1 := Lib.hid (HW.out.trans (hb1.mono HW.out.size))
      clear hb1 d1
      go_wp2_with (first | (refine wpList_load_blk_g rfl _ _ rfl (w.heap.size + 1) rfl _ _ _ HX1.out Try.underlying24 rfl (by kernel_rfl) ?_) | fail)
      refine (sright_any x y z _ hy hz).mono ?_
      rintro e w2 ⟨rfl, hb2⟩
      rw [d2]
      have HA2 := Lib.hid (HA1.out.below hb2 HA1.out.lt)
      have HX2 := Lib.hid (HX1.out.below hb2 HX1.out.lt)
      have HR2 := Lib.hid (HR1.out.below hb2 HR1.out.lt)
      have HW2 := Lib.hid (HW1.out.trans (hb2.mono HW1.out.size))
      clear hb2 d2 HA HX HR HW HA1 HX1 HR1 HW1
      have a0 := HA2.out.cell 0 (u := .int .i64 a) rfl
      have a1 := HA2.out.cell 1 (u := .int .i64 b) rfl
      have a2 := HA2.out.cell 2 (u := .int .i64 c) rfl
      have x0 := HX2.out.cell 0 (u := .int .i64 x) rfl
      have x1 := HX2.out.cell 1 (u := .int .i64 y) rfl
      have x2 := HX2.out.cell 2 (u := .int .i64 z) rfl
      have HR3 : Hid (Blk w2 (w.heap.size + 1 + 1) tM (mcs 0 0 0)) := HR2.out
      have HM3 := Lib.hid (Blk.new w2 tM (mcs (a + x) (b + y) (c + z)))
      by_cases hbig : 1024 < a + x
      · have hf : Hid (sjoin a b c x y z = ((0, 0, 0), 4)) := by unfold Hid; rw [hj.out, if_pos hbig]
        go_wp2_with (first | (refine wpList_store_blk rfl _ _ _ rfl (w.heap.size + 1 + 1) (mcs 0 0 0) rfl rfl tM (mcs 0 0 0) (HR3.out.alloc _) (by kernel_rfl) rfl (mcs_one _ _ _) ?_; intro w3 hb3 hg3 hs3; have HB3 := Lib.hid hb3; have HG3 := Lib.hid hg3; clear hs3 hb3 hg3) | fail)
        exact bodyPost_ret (v := .tuple #[MomV 0 0 0, .int .i64 4]) (results_ct (a := 5) Try.results10 _ rfl HB3.out Try.underlying24 rfl (by kernel_rfl)) rfl ⟨ret_mom hf.out, (HW2.out.alloc HW2.out.size _).grown HG3.out (by have := HW2.out.size; simp; omega) (fun k hk => by injection hk with hk; omega)⟩
      · have hf : Hid (sjoin a b c x y z = ((a + x, b + y, c + z), 0)) := by unfold Hid; rw [hj.out, if_neg hbig]
        have d3 : decide (1024 < a + x) = false := decide_eq_false hbig
        go_wp2_with (first | (refine wpList_store_blk rfl _ _ _ rfl (w.heap.size + 1 + 1) (mcs (a + x) (b + y) (c + z)) rfl rfl tM (mcs 0 0 0) (HR3.out.alloc _) (by kernel_rfl) rfl (mcs_one _ _ _) ?_; intro w3 hb3 hg3 hs3; have HB3 := Lib.hid hb3; have HG3 := Lib.hid hg3; clear hs3 hb3 hg3) | (refine wpList_load_blk rfl _ _ rfl w2.heap.size rfl _ _ _ HM3.out Try.underlying24 rfl (by kernel_rfl) ?_) | fail)
        exact bodyPost_ret (v := .tuple #[MomV (a + x) (b + y) (c + z), .int .i64 0]) (results_ct (a := 5) Try.results10 _ rfl HB3.out Try.underlying24 rfl (by kernel_rfl)) rfl ⟨ret_mom hf.out, (HW2.out.alloc HW2.out.size _).grown HG3.out (by have := HW2.out.size; simp; omega) (fun k hk => by injection hk with hk; omega)⟩
    · have d2 : decide (mok x y z) = false := decide_eq_false h2
      have hf : Hid (sjoin a b c x y z = ((0, 0, 0), 1)) := if_neg (fun h => h2 h.2)
      clear h1 h2
      go_enter Try.func10, Try.ntmps10
      go_wp2_with (first | (refine wpList_load_blk rfl _ _ rfl w.heap.size rfl _ _ _ HA.out Try.underlying24 rfl (by kernel_rfl) ?_) | fail)
      refine (sright_any a b c _ hb hc).mono ?_
      rintro e w1 ⟨rfl, hb1⟩
      rw [d1]
      have HX1 := Lib.hid (HX.out.below hb1 HX.out.lt)
      have HR1 := Lib.hid (HR.out.below hb1 HR.out.lt)
      have HW1 := Lib.hid (HW.out.trans (hb1.mono HW.out.size))
      clear hb1 d1
      go_wp2_with (first | (refine wpList_load_blk_g rfl _ _ rfl (w.heap.size + 1) rfl _ _ _ HX1.out Try.underlying24 rfl (by kernel_rfl) ?_) | fail)
      refine (sright_any x y z _ hy hz).mono ?_
      rintro e w2 ⟨rfl, hb2⟩
      rw [d2]
      have HR3 : Hid (Blk w2 (w.heap.size + 1 + 1) tM (mcs 0 0 0)) := HR1.out.below hb2 HR1.out.lt
      have HWW := Lib.hid (HW1.out.trans (hb2.mono HW1.out.size))
      clear hb2 d2 HA HX HR HW HX1 HR1 HW1
      go_wp2_with (first | (refine wpList_store_blk rfl _ _ _ rfl (w.heap.size + 1 + 1) (mcs 0 0 0) rfl rfl tM (mcs 0 0 0) HR3.out (by kernel_rfl) rfl (mcs_one _ _ _) ?_; intro w3 hb3 hg3 hs3; have HB2 := Lib.hid hb3; have HG2 := Lib.hid hg3; clear hs3 hb3 hg3) | fail)
      exact bodyPost_ret (v := .tuple #[MomV 0 0 0, .int .i64 1]) (results_ct (a := 5) Try.results10 _ rfl HB2.out Try.underlying24 rfl (by kernel_rfl)) rfl ⟨ret_mom hf.out, HWW.out.grown HG2.out (HWW.out.size) (fun k hk => by injection hk with hk; omega)⟩
  · have d1 : decide (mok a b c) = false := decide_eq_false h1
    have hf : Hid (sjoin a b c x y z = ((0, 0, 0), 1)) := if_neg (fun h => h1 h.1)
    clear h1
    go_enter Try.func10, Try.ntmps10
    go_wp2_with (first | (refine wpList_load_blk rfl _ _ rfl w.heap.size rfl _ _ _ HA.out Try.underlying24 rfl (by kernel_rfl) ?_) | fail)
    refine (sright_any a b c _ hb hc).mono ?_
    rintro e w1 ⟨rfl, hb1⟩
    rw [d1]
    have HR3 : Hid (Blk w1 (w.heap.size + 1 + 1) tM (mcs 0 0 0)) := HR.out.below hb1 HR.out.lt
    have HWW := Lib.hid (HW.out.trans (hb1.mono HW.out.size))
    clear hb1 d1 HA HX HR HW
    go_wp2_with (first | (refine wpList_store_blk rfl _ _ _ rfl (w.heap.size + 1 + 1) (mcs 0 0 0) rfl rfl tM (mcs 0 0 0) HR3.out (by kernel_rfl) rfl (mcs_one _ _ _) ?_; intro w3 hb3 hg3 hs3; have HB2 := Lib.hid hb3; have HG2 := Lib.hid hg3; clear hs3 hb3 hg3) | fail)
    exact bodyPost_ret (v := .tuple #[MomV 0 0 0, .int .i64 1]) (results_ct (a := 5) Try.results10 _ rfl HB2.out Try.underlying24 rfl (by kernel_rfl)) rfl ⟨ret_mom hf.out, HWW.out.grown HG2.out (HWW.out.size) (fun k hk => by injection hk with hk; omega)⟩
end Go.Proofs.Ytakjcodfcoaadab
