/- Fractions in memory: sums, walked. No condition but the size. -/
import Derived.Test.YtkffakekakhgdaaRatF
namespace Go.Proofs.Ytkffakekakhgdaa
open Go.ChangeShapes Go.WideShapes Go.ChangeAt Go.RowKit
set_option linter.unusedVariables false

theorem fits_add {x y : Int} {L : Nat} (hx : Fits x L) (hy : Fits y L) : Fits (x + y) (L + 1) := by
  unfold Fits at *
  rw [bp_succ]
  have := bp_pos L
  omega
set_option maxRecDepth 20000 in
set_option maxHeartbeats 4000000 in
theorem ratAdd_any (g gx gy : Nat) (n d m e : Int) (L : Nat) (w : World) (hg : RatBlk w g) (hn : IntZ w gx 0 n) (hd : IntZ w gx 2 d) (hm : IntZ w gy 0 m) (he : IntZ w gy 2 e) (h0 : d ≠ 0) (h1 : e ≠ 0) (fn : Fits n L) (fd : Fits d L) (fm : Fits m L) (fe : Fits e L) (l1 : 1 ≤ L) (hL : L + L + 1 < 8796093022207) :
    Calls Try.prog 49 #[.pointer (some ⟨g, 0, none⟩), .pointer (some ⟨gx, 0, none⟩), .pointer (some ⟨gy, 0, none⟩)] w fun r w' => r = .returned (.pointer (some ⟨g, 0, none⟩)) ∧ PutR w w' g (frN (n * e + m * d) (d * e)) (frD (n * e + m * d) (d * e)) := by
  have HG := Lib.hid hg
  have HN := Lib.hid hn
  have HD := Lib.hid hd
  have HM := Lib.hid hm
  have HE := Lib.hid he
  have H0 := Lib.hid (And.intro h0 h1)
  have HDE : Hid (d * e ≠ 0) := Int.mul_ne_zero h0 h1
  have F1 := Lib.hid (And.intro fn (And.intro fd (And.intro fm fe)))
  have F2 := Lib.hid (And.intro (fits_mul fn fe) (And.intro (fits_mul fm fd) ((fits_mul fd fe).mono (Nat.le_succ (L + L)))))
  have F3 := Lib.hid (fits_add (fits_mul fn fe) (fits_mul fm fd))
  have HL := Lib.hid (And.intro l1 hL)
  clear hg hn hd hm he h0 h1 fn fd fm fe l1 hL
  go_enter Try.func49, Try.ntmps49
  go_wp2_with fail
  have B0 : Hid (Below w.heap.size w (w.alloc (.cells #[.bool false, .slice none 0 0] tI))) := (Below.refl _ _).alloc (Nat.le_refl _) _
  have I0 := Lib.hid (newBlk w (.bool false) (.slice none 0 0))
  generalize hw0 : w.alloc (.cells #[.bool false, .slice none 0 0] tI) = w0 at *
  clear hw0
  refine (num_any gx n w0 (HN.out.below B0.out)).mono ?_
  rintro r w1 ⟨rfl, hp⟩
  have P1 := Lib.hid hp
  have B1 : Hid (Below w.heap.size w w1) := B0.out.trans (hp.2.2.1.mono B0.out.size)
  clear hp
  go_wp2_with fail
  refine (denom_any gy e w1 (HE.out.below B1.out) H0.out.2).mono ?_
  rintro r w2 ⟨rfl, hp⟩
  have P2 := Lib.hid hp
  have B2 : Hid (Below w.heap.size w w2) := B1.out.trans (hp.2.2.1.mono B1.out.size)
  have I2 : Hid (IntBlk w2 w.heap.size) := (I0.out.below P1.out.2.2.1).below hp.2.2.1
  clear hp
  go_wp2_with fail
  refine (mul_any w.heap.size w0.heap.size 0 w1.heap.size 0 n e L w2 I2.out (P1.out.1.below P2.out.2.2.1) P2.out.1 F1.out.1 F1.out.2.2.2 (by have := HL.out; omega)).mono ?_
  rintro r w3 ⟨rfl, hp⟩
  have P3 := Lib.hid hp
  have B3 : Hid (Below w.heap.size w w3) := Below.grown B2.out hp.2.2 B2.out.size (fun q hq => by injection hq with hq; omega)
  have HLT : Hid (w.heap.size < w3.heap.size) := hp.2.1.lt
  clear hp
  go_wp2_with fail
  have B30 : Hid (Below w3.heap.size w3 (w3.alloc (.cells #[.bool false, .slice none 0 0] tI))) := (Below.refl _ _).alloc (Nat.le_refl _) _
  have I30 := Lib.hid (newBlk w3 (.bool false) (.slice none 0 0))
  generalize hw0 : w3.alloc (.cells #[.bool false, .slice none 0 0] tI) = v0 at *
  clear hw0
  refine (num_any gy m v0 ((HM.out.below B3.out).below B30.out)).mono ?_
  rintro r w4 ⟨rfl, hp⟩
  have P4 := Lib.hid hp
  have B4 : Hid (Below w3.heap.size w3 w4) := B30.out.trans (hp.2.2.1.mono B30.out.size)
  clear hp
  go_wp2_with fail
  refine (denom_any gx d w4 ((HD.out.below B3.out).below B4.out) H0.out.1).mono ?_
  rintro r w5 ⟨rfl, hp⟩
  have P5 := Lib.hid hp
  have B5 : Hid (Below w3.heap.size w3 w5) := B4.out.trans (hp.2.2.1.mono B4.out.size)
  have I5 : Hid (IntBlk w5 w3.heap.size) := (I30.out.below P4.out.2.2.1).below hp.2.2.1
  clear hp
  go_wp2_with fail
  refine (mul_any w3.heap.size v0.heap.size 0 w4.heap.size 0 m d L w5 I5.out (P4.out.1.below P5.out.2.2.1) P5.out.1 F1.out.2.2.1 F1.out.2.1 (by have := HL.out; omega)).mono ?_
  rintro r w6 ⟨rfl, hp⟩
  have P6 := Lib.hid hp
  have B6 : Hid (Below w3.heap.size w3 w6) := Below.grown B5.out hp.2.2 B5.out.size (fun q hq => by injection hq with hq; omega)
  clear hp
  go_wp2_with fail
  refine (add_any w.heap.size w.heap.size 0 w3.heap.size 0 (n * e) (m * d) (L + L) w6 (P3.out.2.1.below B6.out) (P3.out.1.below B6.out) P6.out.1 F2.out.1 F2.out.2.1 (by have := HL.out; omega)).mono ?_
  rintro r w7 ⟨rfl, hp⟩
  have P7 := Lib.hid hp
  have B7 : Hid (Below w.heap.size w w7) := Below.grown (B3.out.trans (B6.out.mono B3.out.size)) hp.2.2 (Nat.le_trans B3.out.size B6.out.size) (fun q hq => by injection hq with hq; omega)
  have HLT7 : Hid (w.heap.size < w7.heap.size) := hp.2.1.lt
  clear hp
  go_wp2_with fail
  have B70 : Hid (Below w7.heap.size w7 (w7.alloc (.cells #[.bool false, .slice none 0 0] tI))) := (Below.refl _ _).alloc (Nat.le_refl _) _
  have I70 := Lib.hid (newBlk w7 (.bool false) (.slice none 0 0))
  generalize hw0 : w7.alloc (.cells #[.bool false, .slice none 0 0] tI) = u0 at *
  clear hw0
  refine (denom_any gx d u0 ((HD.out.below B7.out).below B70.out) H0.out.1).mono ?_
  rintro r w8 ⟨rfl, hp⟩
  have P8 := Lib.hid hp
  have B8 : Hid (Below w7.heap.size w7 w8) := B70.out.trans (hp.2.2.1.mono B70.out.size)
  clear hp
  go_wp2_with fail
  refine (denom_any gy e w8 ((HE.out.below B7.out).below B8.out) H0.out.2).mono ?_
  rintro r w9 ⟨rfl, hp⟩
  have P9 := Lib.hid hp
  have B9 : Hid (Below w7.heap.size w7 w9) := B8.out.trans (hp.2.2.1.mono B8.out.size)
  have I9 : Hid (IntBlk w9 w7.heap.size) := (I70.out.below P8.out.2.2.1).below hp.2.2.1
  clear hp
  go_wp2_with fail
  refine (mul_any w7.heap.size u0.heap.size 0 w8.heap.size 0 d e L w9 I9.out (P8.out.1.below P9.out.2.2.1) P9.out.1 F1.out.2.1 F1.out.2.2.2 (by have := HL.out; omega)).mono ?_
  rintro r wa ⟨rfl, hp⟩
  have Pa := Lib.hid hp
  have Ba : Hid (Below w7.heap.size w7 wa) := Below.grown B9.out hp.2.2 B9.out.size (fun q hq => by injection hq with hq; omega)
  have Baw : Hid (Below w.heap.size w wa) := B7.out.trans (Ba.out.mono B7.out.size)
  clear hp
  go_wp2_with fail
  refine (setFrac_any g w.heap.size 0 w7.heap.size 0 (n * e + m * d) (d * e) (L + L + 1) wa (HG.out.below Baw.out) (P7.out.1.below Ba.out) Pa.out.1 HDE.out F3.out F2.out.2.2 (by omega) HL.out.2).mono ?_
  rintro r wb ⟨rfl, hp⟩
  have Pb := Lib.hid hp
  clear hp
  go_wp2_with fail
  go_ret
  exact ⟨rfl, Pb.out.1, Pb.out.2.1, Pb.out.2.2.1, (grown_of_below Baw.out _).trans Pb.out.2.2.2⟩
set_option maxRecDepth 20000 in
set_option maxHeartbeats 4000000 in
theorem ratSub_any (g gx gy : Nat) (n d m e : Int) (L : Nat) (w : World) (hg : RatBlk w g) (hn : IntZ w gx 0 n) (hd : IntZ w gx 2 d) (hm : IntZ w gy 0 m) (he : IntZ w gy 2 e) (h0 : d ≠ 0) (h1 : e ≠ 0) (fn : Fits n L) (fd : Fits d L) (fm : Fits m L) (fe : Fits e L) (l1 : 1 ≤ L) (hL : L + L + 1 < 8796093022207) :
    Calls Try.prog 81 #[.pointer (some ⟨g, 0, none⟩), .pointer (some ⟨gx, 0, none⟩), .pointer (some ⟨gy, 0, none⟩)] w fun r w' => r = .returned (.pointer (some ⟨g, 0, none⟩)) ∧ PutR w w' g (frN (n * frD (-m) e + frN (-m) e * d) (d * frD (-m) e)) (frD (n * frD (-m) e + frN (-m) e * d) (d * frD (-m) e)) := by
  have HG := Lib.hid hg
  have HN := Lib.hid hn
  have HD := Lib.hid hd
  have HM := Lib.hid hm
  have HE := Lib.hid he
  have H0 := Lib.hid (And.intro h0 h1)
  have HP := Lib.hid (frD_pos (a := -m) h1)
  have F1 := Lib.hid (And.intro fn (And.intro fd (And.intro fm fe)))
  have F2 := Lib.hid (And.intro (fm.neg.abs_le (frN_le (-m) e)) (fe.abs_le (frD_le (-m) e)))
  have HL := Lib.hid (And.intro l1 hL)
  clear hg hn hd hm he h0 h1 fn fd fm fe l1 hL
  go_enter Try.func81, Try.ntmps81
  go_wp2_with fail
  refine (ratNeg_any w.heap.size gy m e L _ (newRatBlk _ _ _ _ _) (HM.out.alloc _) (HE.out.alloc _) H0.out.2 F1.out.2.2.1 F1.out.2.2.2 HL.out.1 (by have := HL.out; omega)).mono ?_
  rintro r w1 ⟨rfl, hp⟩
  have P1 := Lib.hid hp
  have B1 : Hid (Below w.heap.size w w1) := Below.grown ((Below.refl _ w).alloc (Nat.le_refl _) _) hp.2.2.2 (by simp) (fun q hq => by injection hq with hq; omega)
  clear hp
  go_wp2_with fail
  refine (ratAdd_any g gx w.heap.size n d (frN (-m) e) (frD (-m) e) L w1 (HG.out.below B1.out) (HN.out.below B1.out) (HD.out.below B1.out) P1.out.1 P1.out.2.1 H0.out.1 (by have := HP.out; omega) F1.out.1 F1.out.2.1 F2.out.1 F2.out.2 HL.out.1 HL.out.2).mono ?_
  rintro r w2 ⟨rfl, hp⟩
  have P2 := Lib.hid hp
  clear hp
  go_wp2_with fail
  go_ret
  exact ⟨rfl, P2.out.1, P2.out.2.1, P2.out.2.2.1, (grown_of_below B1.out _).trans P2.out.2.2.2⟩
end Go.Proofs.Ytkffakekakhgdaa
