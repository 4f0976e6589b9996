/- Package ruin: the reference's fractions, walked. No condition but that the game is right. -/
import Derived.Test.YtaehehoeidnidaaRuiF
import Derived.Test.YtaehehoeidnidaaRatH
import Derived.Test.YtaehehoeidnidaaSeq2
import Derived.Test.YtaehehoeidnidaaBigI
import Derived.Deep.DeepCutAuto
namespace Go.Proofs.Ytaehehoeidnidaa
open Go.ChangeShapes Go.WideShapes Go.ChangeAt Go.RowKit
set_option linter.unusedVariables false

theorem fits2 {n : Int} (h : n.natAbs < 18446744073709551616) : Fits n 2 := by
  unfold Fits; have e : bp 2 = 18446744073709551616 := rfl; omega
def rlist (p q : Int) (k : Nat) : List Fr := (List.range k).map (rfr p q)
theorem rlist_succ (p q : Int) (k : Nat) : rlist p q (k + 1) = rlist p q k ++ [rfr p q k] := by unfold rlist; rw [List.range_succ]; simp
theorem rlist_len (p q : Int) (k : Nat) : (rlist p q k).length = k := by simp [rlist]
theorem rlist_get (p q : Int) (k i : Nat) (h : i < (rlist p q k).length) : (rlist p q k)[i] = rfr p q i := by simp [rlist]
theorem rrow0 {p q : Int} {w w1 w2 : World} {o : Obj} (h1 : RatZ w1 (w.alloc o).heap.size (fNew ((0 : Nat) : Int) 1) ∧ Below (w.alloc o).heap.size (w.alloc o) w1) (h2 : RatZ w2 w1.heap.size (fNew ((1 : Nat) : Int) 1) ∧ Below w1.heap.size w1 w2) :
    RatRow (w2.alloc (.cells #[ptrV (w.heap.size + 1), ptrV w1.heap.size] tRP)) (w.heap.size + 1) (.slice (some ⟨w2.heap.size, 0, none⟩) 2 2) (rlist p q 2) := by
  have s0 : (w.alloc o).heap.size = w.heap.size + 1 := by simp
  have r1 : RatZ w1 (w.heap.size + 1) (fNew 0 1) := by have := h1.1; rwa [s0] at this
  have r2 : RatZ w2 w1.heap.size (fNew 1 1) := h2.1
  have l1 := h1.2.size
  rw [s0] at l1
  have l2 := h2.2.size
  refine ⟨[w.heap.size + 1, w1.heap.size], rfl, Own.low (own_two w2 tRP _ _) (by omega), fun i hi hi' => ?_⟩
  rw [rlist_get]
  match i, hi' with
  | 0, _ => exact ⟨(r1.below h2.2).alloc _, Nat.le_refl _⟩
  | 1, _ => exact ⟨r2.alloc _, by simpa using l1⟩
theorem rbel0 {w w1 w2 : World} {o o2 : Obj} (h : Below w.heap.size w (w.alloc o)) (h1 : Below (w.alloc o).heap.size (w.alloc o) w1) (h2 : Below w1.heap.size w1 w2) : Below w.heap.size w (w2.alloc o2) :=
  rb_alloc (rb_go (rb_go h h1) h2) _
theorem rok_new {n : Nat} (h : n ≤ 18) : FrOk (fNew n 1) 2 := FrOk.new (fits2 (by omega)) (fits2 (by decide)) (by decide)
theorem rfr_ok {p q t h : Nat} (H : RFacts p q t h) {k : Nat} (hk : k ≤ 16) : FrOk (rfr p q k) 2 := by
  by_cases h0 : k = 0
  · subst h0; exact rok_new (n := 0) (by decide)
  · have := H.fits k (by omega) hk
    exact ⟨fits2 this.1, fits2 this.2.1, this.2.2.1⟩
theorem rnew_ne {p : Nat} (h : 1 ≤ p ∧ p ≤ 9) : (fNew p 1).1 ≠ 0 := by
  have H : ∀ p, p < 10 → 1 ≤ p → (fNew ((p : Nat) : Int) 1).1 ≠ 0 := by decide
  exact H p (by omega) h.1
theorem rwrap1 {K : Nat} (h : K ≤ 16) : wrap64 ((K : Int) + 1) = (K : Int) + 1 := by unfold wrap64; omega
theorem rwell_val {p q t h : Nat} (H : RFacts p q t h) (hb : 1 ≤ p ∧ p ≤ 9 ∧ 1 ≤ q ∧ q ≤ 9 ∧ 1 ≤ t ∧ t ≤ 16 ∧ h ≤ t) :
    (wellV p q t h).1 = fQuo (rfr p q h) (rfr p q t) ∧ (-9223372036854775808 ≤ (fQuo (rfr p q h) (rfr p q t)).1 ∧ (fQuo (rfr p q h) (rfr p q t)).1 ≤ 9223372036854775807) ∧
      (fQuo (rfr p q h) (rfr p q t)).2 ≠ 0 ∧ -9223372036854775808 ≤ (fQuo (rfr p q h) (rfr p q t)).2 ∧ (fQuo (rfr p q h) (rfr p q t)).2 ≤ 9223372036854775807 := by
  have h1 := H.small
  have h3 := ((rfr_ok H (k := h) (by omega)).quo (rfr_ok H (k := t) (by omega)) (H.fits t (by omega) (by omega)).2.2.2).pos
  refine ⟨?_, by omega, by omega, by omega, by omega⟩
  rw [H.last]
  unfold wellV
  rw [if_neg (by unfold wbad; omega), if_neg (by omega)]
  simp only [Int.toNat_natCast]
theorem rrow_at {p q : Int} {w : World} {base n c k : Nat} {A : Option Addr} {gs : List Nat} (ho : Own w base tRP (.slice A n c) (gs.map ptrV)) (hg : ∀ i (h : i < (rlist p q k).length) (h' : i < gs.length), RatZ w gs[i] (rlist p q k)[i] ∧ base ≤ gs[i]) (hl : 0 < gs.length) :
    ∃ ad, A = some ad ∧ ∀ i, i < k → i < gs.length → ∃ g, w.cell? (ad.add i) = some (ptrV g) ∧ RatZ w g (rfr p q i) ∧ base ≤ g := by
  obtain ⟨ad, rfl, _, hc⟩ := ho.seg (by simpa using hl)
  refine ⟨ad, rfl, fun i hi hi' => ?_⟩
  have h1 := hg i (by rw [rlist_len]; exact hi) hi'
  rw [rlist_get] at h1
  exact ⟨gs[i], hc i _ (by simp [hi']), h1⟩
set_option maxRecDepth 20000 in
set_option maxHeartbeats 4000000 in
theorem rwell_any (p q t h : Nat) (w : World) (p1 : 1 ≤ p) (p9 : p ≤ 9) (q1 : 1 ≤ q) (q9 : q ≤ 9) (t1 : 1 ≤ t) (t9 : t ≤ 16) (ht : h ≤ t) :
    Calls Try.prog 14 #[.int .i64 p, .int .i64 q, .int .i64 t, .int .i64 h] w fun e w' => e = .returned (FracV (wellV p q t h).1.1 (wellV p q t h).1.2) ∧ Below w.heap.size w w' := by
  have HRF := Lib.hid (rfacts p1 p9 q1 q9 t1 t9 ht)
  have HN1 := Lib.hid (fun (n : Nat) (hn : n ≤ 18) (u : World) => rnew_any n 1 u (by omega) (by omega) (by decide) (by decide) (by decide))
  obtain ⟨S, hS⟩ : ∃ S, S = p + q := ⟨_, rfl⟩
  have iS : (p : Int) + (q : Int) = (S : Int) := by omega
  have uS : IntKind.i64.wrap (S : Int) = (S : Int) := IntWalk.i64_in _ (by omega)
  have HB := Lib.hid (And.intro (And.intro p1 p9) (And.intro (And.intro q1 q9) (And.intro t1 (And.intro t9 (And.intro ht hS)))))
  have HB0 := Lib.hid (Blk.new w tF (fcs 0 0))
  have HBL : Hid (Below w.heap.size w (w.alloc (.cells (fcs 0 0) tF))) := (Below.refl _ _).alloc (Nat.le_refl _) _
  clear p1 p9 q1 q9 t1 t9 ht hS
  go_enter Try.func14, Try.ntmps14
  go_wp2_with fail
  refine (HN1.out 0 (by decide) _).mono ?_
  rintro e w1 ⟨rfl, hp⟩
  have P1 := Lib.hid hp
  clear hp
  go_wp2_with fail
  refine (HN1.out 1 (by decide) _).mono ?_
  rintro e w2 ⟨rfl, hp⟩
  have P2 := Lib.hid hp
  clear hp
  go_wp2_with fail
  have HR0 : Hid (RatRow (w2.alloc (.cells #[ptrV (w.heap.size + 1), ptrV w1.heap.size] tRP)) (w.heap.size + 1) (.slice (some ⟨w2.heap.size, 0, none⟩) 2 2) (rlist p q 2)) := rrow0 P1.out P2.out
  have HBL2 : Hid (Below w.heap.size w (w2.alloc (.cells #[ptrV (w.heap.size + 1), ptrV w1.heap.size] tRP))) := rbel0 HBL.out P1.out.2 P2.out.2
  have HB2 : Hid (Blk (w2.alloc (.cells #[ptrV (w.heap.size + 1), ptrV w1.heap.size] tRP)) w.heap.size tF (fcs 0 0)) := ((HB0.out.below P1.out.2 (by simp)).below P2.out.2 (by have := P1.out.2.size; simp at this; omega)).alloc _
  go_loopw [9, 10] (fun s9 s10 wx => ∃ (k : Nat), 1 ≤ k ∧ k ≤ t ∧ s10 = .int .i64 k ∧ Hid (RatRow wx (w.heap.size + 1) s9 (rlist p q (k + 1))) ∧ Hid (Blk wx w.heap.size tF (fcs 0 0)) ∧ Hid (Below w.heap.size w wx)) (fun _ s10 _ => t - (intOf s10).toNat)
  case atStart => exact ⟨1, Nat.le_refl _, HB.out.2.2.1, rfl, HR0, HB2, HBL2⟩
  case round =>
    obtain ⟨k, k1, kt, rfl, hrow, hblk, hbel⟩ := hrel
    clear HR0 HBL2 HB2 HB0 HBL P1 P2
    obtain ⟨gs, gl, ho, hg⟩ := hrow.out
    rw [rlist_len] at gl
    obtain ⟨A, c, rfl, hc, ho2⟩ := ho.res2
    obtain ⟨ad, rfl, hat⟩ := rrow_at ho2 hg (by omega)
    have e1 : (gs.map ptrV).length = k + 1 := by simp [gl]
    rw [e1] at ho2 hc
    rw [e1]
    by_cases hlt : k < t
    · obtain ⟨j, rfl⟩ : ∃ j, k = j + 1 := ⟨k - 1, by omega⟩
      obtain ⟨K, hK⟩ : ∃ K, K = j + 1 := ⟨_, rfl⟩
      obtain ⟨L, hL⟩ : ∃ L, L = K + 1 := ⟨_, rfl⟩
      rw [← hK, ← hL] at ho2 hc
      rw [← hK, ← hL]
      have i1 : (K : Int) < (t : Int) := by omega
      have i2 : ((K : Nat) : Int) - 1 = (j : Int) := by omega
      have i3 : (K : Int) < (L : Int) := by omega
      have i4 : (j : Int) < (L : Int) := by omega
      have i5 : (0 : Int) ≤ (K : Int) := by omega
      have i6 : (0 : Int) ≤ (j : Int) := by omega
      obtain ⟨gK, cK, ggK⟩ := hat K (by omega) (by omega)
      obtain ⟨gj, cj, ggj⟩ := hat j (by omega) (by omega)
      have HGK := Lib.hid ggK
      have HGj := Lib.hid ggj
      have HIX := Lib.hid (And.intro hK (And.intro hL (And.intro kt hlt)))
      have FK := Lib.hid (rfr_ok HRF.out (k := K) (by have := HB.out; omega))
      have Fj := Lib.hid (rfr_ok HRF.out (k := j) (by have := HB.out; omega))
      have HSn := HN1.out S (by have := HB.out; omega)
      have HSN := Lib.hid HSn
      have FS := Lib.hid (rok_new (n := S) (by have := HB.out; omega))
      have HQn := HN1.out q (by have := HB.out; omega)
      have HQN := Lib.hid HQn
      have FQ := Lib.hid (rok_new (n := q) (by have := HB.out; omega))
      have HPn := HN1.out p (by have := HB.out; omega)
      have HPN := Lib.hid HPn
      have FP := Lib.hid (rok_new (n := p) (by have := HB.out; omega))
      have FY : Hid (FrOk (fMul (rfr p q K) (fNew S 1)) 4) := FK.out.mul FS.out
      have FZ : Hid (FrOk (fMul (rfr p q j) (fNew q 1)) 4) := Fj.out.mul FQ.out
      have FW : Hid (FrOk (fSub (fMul (rfr p q K) (fNew S 1)) (fMul (rfr p q j) (fNew q 1))) 9) := FY.out.sub FZ.out
      have hnx : Hid (fQuo (fSub (fMul (rfr p q K) (fNew S 1)) (fMul (rfr p q j) (fNew q 1))) (fNew p 1) = rfr p q (K + 1)) := by
        unfold Hid; rw [hK, rfr_two, rnext, iS]
      have FP1 : Hid ((fNew p 1).1 ≠ 0) := rnew_ne (by have := HB.out; omega)
      clear HSn HQn HPn
      have k16 : K ≤ 16 ∧ j ≤ 16 := by have := HB.out; omega
      have uj2 : IntKind.i64.wrap (j : Int) = (j : Int) := IntWalk.i64_in _ (by omega)
      have uK : wrap64 (K : Int) = (K : Int) := rwrap k16.1
      have uK1 : wrap64 ((K : Int) + 1) = (K : Int) + 1 := rwrap1 k16.1
      have uj : wrap64 (j : Int) = (j : Int) := rwrap k16.2
      clear k16
      have HO := Lib.hid ho2
      have HGS := Lib.hid (And.intro gl hg)
      have hxl := block_lt cK
      have hxl2 := block_lt cj
      have HXL := Lib.hid (And.intro hxl hxl2)
      have dK := cK
      have dj := cj
      clear ggK ggj ho2 gl hg hK hL kt hlt k1 ho e1 hxl hxl2 hat
      go_upto_region 5 with (fail)
      go_cut [11] (fun s11 wx => ∃ gy, s11 = ptrV gy ∧ Hid (RatZ wx gy (fMul (rfr p q K) (fNew S 1))) ∧ Hid (Below wr.heap.size wr wx) ∧ wr.heap.size ≤ gy)
      case first =>
        have HKEEP : Hid (∀ w', Below wr.heap.size wr w' → w'.cell? (ad.add K) = some (ptrV gK) ∧ Below wr.heap.size wr w') := fun w' h => ⟨(h.cell HXL.out.1).trans dK, h⟩
        have HD : Hid (Below wr.heap.size wr wr.drew) := rb_drew (Below.refl _ _)
        clear cK cj dj
        go_region_held3 (fun w' => w'.cell? (ad.add K) = some (ptrV gK) ∧ Below wr.heap.size wr w')
          (first
            | exact HKEEP.out _ HD.out
            | (go_split_ands; refine HKEEP.out _ ?_; first
                | exact HX.out
                | exact rb_alloc HX.out _
                | exact rb_alloc HD.out _
                | exact rb_alloc (by assumption) _))
          (first
            | (go_at_call 105; go_split_ands; refine (HSN.out _).mono ?_; rintro e u1 ⟨rfl, hp⟩; have HX := Lib.hid (rb_go (by first | exact rb_alloc HD.out _ | exact HD.out) hp.2); have HN := Lib.hid hp; clear hp)
            | (go_at_call 106; go_split_ands; refine (rmul_any (by first | exact newRatBlk _ _ _ _ _ | exact (newRatBlk wr.drew _ _ _ _).below HN.out.2)
                (by first | exact HGK.out.1.below HX.out | exact HGK.out.1.below (rb_alloc HX.out _)) (by first | exact HN.out.1 | exact HN.out.1.alloc _ | simpa using HN.out.1) FK.out FS.out (by decide) (by decide)).mono ?_
               rintro r u2 ⟨rfl, hp⟩; have HM := Lib.hid hp; have HX1 := HX; have HX := Lib.hid (rb_put (w := wr) (by first | exact HX.out | exact rb_alloc HX.out _) hp.2 (by first | exact Nat.le_refl _ | exact HX.out.size)); clear hp))
        all_goals go_wp2_with fail
        all_goals go_meet
        all_goals exact ⟨_, rfl, Lib.hid HM.out.1, HX, by first | exact Nat.le_refl _ | exact HX1.out.size⟩
      case rest =>
        obtain ⟨gy, rfl, hy, hyb, hgy⟩ := hcut
        have HGY := Lib.hid hgy
        go_upto_region 6 with (fail)
        go_cut [11] (fun s11 wx => s11 = ptrV gy ∧ Hid (RatZ wx gy (fSub (fMul (rfr p q K) (fNew S 1)) (fMul (rfr p q j) (fNew q 1)))) ∧ Hid (Below wr.heap.size wr wx))
        case first =>
          have HKEEP : Hid (∀ w', Below wr.heap.size wr w' → w'.cell? (ad.add j) = some (ptrV gj) ∧ Below wr.heap.size wr w') := fun w' h => ⟨(h.cell HXL.out.2).trans dj, h⟩
          have HD : Hid (Below wr.heap.size wr wc.drew) := rb_drew hyb.out
          have HDC : Hid (Below wc.heap.size wc wc.drew) := rb_drew (Below.refl _ _)
          clear cK cj dK hgy
          go_region_held3 (fun w' => w'.cell? (ad.add j) = some (ptrV gj) ∧ Below wr.heap.size wr w')
            (first
              | exact HKEEP.out _ HD.out
              | (go_split_ands; refine HKEEP.out _ ?_; first
                  | exact HX.out
                  | exact rb_alloc HX.out _
                  | exact rb_alloc HD.out _
                  | exact rb_alloc (by assumption) _))
            (first
              | (go_at_call 105; go_split_ands; refine (HQN.out _).mono ?_; rintro e u1 ⟨rfl, hp⟩; have HX := Lib.hid (rb_go (by first | exact rb_alloc HD.out _ | exact HD.out) hp.2); have HXC := Lib.hid (rb_go (w := wc) (by first | exact rb_alloc HDC.out _ | exact HDC.out) hp.2); have HN := Lib.hid hp; clear hp)
              | (go_at_call 106; go_split_ands; refine (rmul_any (by first | exact newRatBlk _ _ _ _ _ | exact (newRatBlk wc.drew _ _ _ _).below HN.out.2)
                  (by first | exact HGj.out.1.below HX.out | exact HGj.out.1.below (rb_alloc HX.out _)) (by first | exact HN.out.1 | exact HN.out.1.alloc _ | simpa using HN.out.1) Fj.out FQ.out (by decide) (by decide)).mono ?_
                 rintro r u2 ⟨rfl, hp⟩; have HM := Lib.hid hp; have HX1 := HX; have HXC1 := HXC; have HX := Lib.hid (rb_put (w := wr) (by first | exact HX.out | exact rb_alloc HX.out _) hp.2 (by first | exact hyb.out.size | exact HX.out.size)); have HXC := Lib.hid (rb_put (w := wc) (by first | exact HXC.out | exact rb_alloc HXC.out _) hp.2 (by first | exact Nat.le_refl _ | exact HXC.out.size)); clear hp)
              | (go_at_call 107; go_split_ands; refine (rsub_any (hy.out.below HXC.out).2.2 (hy.out.below HXC.out) HM.out.1 FY.out FZ.out (by decide) (by decide)).mono ?_
                 rintro r u3 ⟨rfl, hp⟩; have HS3 := Lib.hid hp; have HX2 := HX; have HX := Lib.hid (rb_put (w := wr) HX2.out hp.2 HGY.out); clear hp))
          all_goals go_wp2_with fail
          all_goals go_meet
          all_goals exact ⟨rfl, Lib.hid HS3.out.1, HX⟩
        case rest =>
          obtain ⟨rfl, hz, hzb⟩ := hcut
          clear hy hyb hgy cK cj dK dj
          have HUK1 := Lib.hid uK1
          clear uK uj uj2 uK1
          go_wp2_with fail
          refine (HPN.out _).mono ?_
          rintro e u4 ⟨rfl, hp⟩
          have HP4 := Lib.hid hp
          have HZ4 : Hid (RatZ u4 gy (fSub (fMul (rfr p q K) (fNew S 1)) (fMul (rfr p q j) (fNew q 1)))) := hz.out.below hp.2
          have HB4 : Hid (Below wr.heap.size wr u4) := rb_go hzb.out hp.2
          clear hp hz hzb
          go_wp2_with fail
          refine (rquo_any HZ4.out.2.2 HZ4.out HP4.out.1 FW.out (FP.out.mono (by decide)) FP1.out (by decide) (by decide)).mono ?_
          rintro e u5 ⟨rfl, hp⟩
          rw [hnx.out] at hp
          have HZ5 := Lib.hid hp.1
          have HB5 : Hid (Below wr.heap.size wr u5) := rb_put HB4.out hp.2 HGY.out
          have HBW : Hid (Below w.heap.size w u5) := hbel.out.trans (HB5.out.mono hbel.out.size)
          have HSZ : Hid (w.heap.size + 1 ≤ u5.heap.size) := by
            have h1 := HB5.out.size
            have h2 := hblk.out.lt
            unfold Hid; omega
          clear hp
          have HPL : Hid (((gs.map ptrV).length + 1) * 8 ≤ 140737488355328 ∧ (gs.map ptrV).length + 1 ≤ maxLen) := by
            have h1 := HIX.out; have h2 := HB.out; have h3 := HGS.out.1
            unfold Hid maxLen; rw [List.length_map]; omega
          have HLT : Hid (w.heap.size + 1 ≤ (u5.alloc (.cells #[ptrV gy] tRP)).heap.size) := by have := HSZ.out; unfold Hid; simp; omega
          have uK1 := HUK1.out
          go_wp2_with (first
            | (at_builtin; go_must (refine wpList_pushG _ rfl _ _ 120 tRP 8 elem_rats rfl (w.heap.size + 1) _ _ rfl (Own.alloc' (HO.out.below HB5.out (Nat.le_refl _)) _) (ptrV gy) ⟨u5.heap.size, 0, none⟩ 1 rfl (cell_new1 _ _ _) rfl HPL.out.1 HPL.out.2 HLT.out ?_); intro v6 w6 hown6 hgb6; have HO6 := Lib.hid hown6; have HG6 := Lib.hid hgb6; clear hown6 hgb6)
            | fail)
          clear uK1
          go_roundw
          case rel =>
            refine ⟨K + 1, by omega, by have := HIX.out; omega, by rw [HUK1.out]; rfl, ?_, ?_, ?_⟩
            · have h1 := HGS.out
              unfold Hid
              rw [rlist_succ]
              have hq : (j + 1 + 1) = K + 1 := by have := HIX.out; omega
              rw [hq] at h1
              exact RatRow.push (w := u5.alloc (.cells #[ptrV gy] tRP)) (by rw [rlist_len]; exact h1.1) (Own.alloc' (HO.out.below HB5.out (Nat.le_refl _)) _) (fun i hi hi' => ⟨((h1.2 i hi hi').1.below HB5.out).alloc _, (h1.2 i hi hi').2⟩) (HZ5.out.alloc _) (by have := HGY.out; have := hblk.out.lt; omega) HO6.out HG6.out
            · exact ((hblk.out.below HB5.out hblk.out.lt).alloc _).push (Own.alloc' (HO.out.below HB5.out (Nat.le_refl _)) _) (Nat.lt_succ_self _) HG6.out
            · exact Below.grown (rb_alloc HBW.out _) HG6.out (rb_alloc HBW.out (.cells #[ptrV gy] tRP)).size (fun k hk => by have := HO.out.block k hk; omega)
          case measure => rw [HUK1.out]; have := HIX.out; simp [intOf]; omega
    · obtain rfl : k = t := by omega
      obtain ⟨gt, ct, ggt⟩ := hat k (by omega) (by omega)
      obtain ⟨gh, ch, ggh⟩ := hat h (by have := HB.out; omega) (by have := HB.out; omega)
      obtain ⟨L, hL⟩ : ∃ L, L = k + 1 := ⟨_, rfl⟩
      rw [← hL] at ho2 hc
      rw [← hL]
      have i3 : (k : Int) < (L : Int) := by omega
      have i4 : (h : Int) < (L : Int) := by have := HB.out; omega
      have i5 : (0 : Int) ≤ (k : Int) := by omega
      have i6 : (0 : Int) ≤ (h : Int) := by omega
      have Ft := Lib.hid (rfr_ok HRF.out (k := k) (by have := HB.out; omega))
      have Fh := Lib.hid (rfr_ok HRF.out (k := h) (by have := HB.out; omega))
      have F0 := Lib.hid (HRF.out.fits k (by omega) (by have := HB.out; omega)).2.2.2
      have HZt := Lib.hid ggt.1
      have HZh := Lib.hid ggh.1
      have hxl := block_lt ct
      have hxl2 := block_lt ch
      have HXL := Lib.hid (And.intro hxl hxl2)
      have dt := ct
      have dh := ch
      have HV := Lib.hid (rwell_val HRF.out (by have := HB.out; omega))
      clear ggt ggh ho2 gl hg hL kt hlt k1 ho e1 hxl hxl2 hat hc
      go_upto_region 8 with (fail)
      go_cut [12] (fun s12 wx => ∃ gz, s12 = ptrV gz ∧ Hid (RatZ wx gz (fQuo (rfr p q h) (rfr p q k))) ∧ Hid (Below wr.heap.size wr wx) ∧ wr.heap.size ≤ gz)
      case first =>
        have HKEEP : Hid (∀ w', Below wr.heap.size wr w' → w'.cell? (ad.add h) = some (ptrV gh) ∧ w'.cell? (ad.add k) = some (ptrV gt) ∧ Below wr.heap.size wr w') := fun w' h => ⟨(h.cell HXL.out.2).trans dh, (h.cell HXL.out.1).trans dt, h⟩
        have HD : Hid (Below wr.heap.size wr wr.drew) := rb_drew (Below.refl _ _)
        clear ct ch dt dh
        go_region_held3 (fun w' => w'.cell? (ad.add h) = some (ptrV gh) ∧ w'.cell? (ad.add k) = some (ptrV gt) ∧ Below wr.heap.size wr w')
          (first
            | exact HKEEP.out _ HD.out
            | (go_split_ands; refine HKEEP.out _ ?_; first
                | exact HX.out
                | exact rb_alloc HD.out _
                | exact rb_alloc (by assumption) _))
          (first
            | (go_at_call 108; go_split_ands; refine (rquo_any (newRatBlk _ _ _ _ _) (HZh.out.below (rb_alloc HD.out _)) (HZt.out.below (rb_alloc HD.out _)) Fh.out Ft.out F0.out (by decide) (by decide)).mono ?_
               rintro r u2 ⟨rfl, hp⟩; have HM := Lib.hid hp; have HX := Lib.hid (rb_put (w := wr) (rb_alloc HD.out _) hp.2 (Nat.le_refl _)); clear hp))
        all_goals go_wp2_with fail
        all_goals go_meet
        all_goals exact ⟨_, rfl, Lib.hid HM.out.1, HX, Nat.le_refl _⟩
      case rest =>
        obtain ⟨gz, rfl, hz, hzb, hgz⟩ := hcut
        have HBZ : Hid (Below w.heap.size w wc) := hbel.out.trans (hzb.out.mono hbel.out.size)
        have HKZ := Lib.hid (hblk.out.below hzb.out hblk.out.lt)
        clear hgz ct ch dt dh
        go_wp2_with fail
        refine (num_any gz _ wc hz.out.1).mono ?_
        rintro e u1 ⟨rfl, hp⟩
        have H1 := Lib.hid hp
        clear hp
        go_wp2_with fail
        refine (int64_any wc.heap.size 0 _ u1 H1.out.1 HV.out.2.1.1 HV.out.2.1.2).mono ?_
        rintro e u1' ⟨rfl, rfl⟩
        go_wp2_with fail
        refine (denom_any gz _ u1 (hz.out.2.1.below H1.out.2.2.1) HV.out.2.2.1).mono ?_
        rintro e u2 ⟨rfl, hp⟩
        have H2 := Lib.hid hp
        clear hp
        go_wp2_with fail
        refine (int64_any u1.heap.size 0 _ u2 H2.out.1 HV.out.2.2.2.1 HV.out.2.2.2.2).mono ?_
        rintro e u2' ⟨rfl, rfl⟩
        have HB2 : Hid (Below w.heap.size w u2) := HBZ.out.trans (((H1.out.2.2.1).mono HBZ.out.size).trans ((H2.out.2.2.1).mono (Nat.le_trans HBZ.out.size H1.out.2.2.1.size)))
        have HK2 : Hid (Blk u2 w.heap.size tF (fcs 0 0)) := (HKZ.out.below H1.out.2.2.1 HKZ.out.lt).below H2.out.2.2.1 (Nat.lt_of_lt_of_le HKZ.out.lt H1.out.2.2.1.size)
        go_wp2_with (first | (refine wpList_store_blk rfl _ _ _ rfl w.heap.size (fcs _ _) rfl rfl tF (fcs 0 0) HK2.out (by kernel_rfl) rfl (fcs_one _ _) ?_; intro w2 hb2 hg2 hs2; have HB3 := Lib.hid hb2; have HG3 := Lib.hid hg2; clear hs2 hb2 hg2) | fail)
        refine bodyPost_ret (v := FracV _ _) (results_c Try.results14 _ rfl HB3.out Try.underlying23 rfl (by kernel_rfl)) rfl ⟨by rw [HV.out.1], ?_⟩
        exact HB2.out.grown HG3.out HB2.out.size (fun k hk => by injection hk with hk; omega)
end Go.Proofs.Ytaehehoeidnidaa
