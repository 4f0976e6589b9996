/- Fractions in memory: products and quotients, walked. No condition but the size. -/
import Derived.Test.YtkffakekakhgdaaRatD
namespace Go.Proofs.Ytkffakekakhgdaa
open Go.ChangeShapes Go.WideShapes Go.ChangeAt Go.RowKit
set_option linter.unusedVariables false

set_option maxRecDepth 20000 in
set_option maxHeartbeats 4000000 in
theorem ratMul_any (g gx gy : Nat) (n d m e : Int) (L : Nat) (w : World) (hg : RatBlk w g) (hn : IntZ w gx 0 n) (hd : IntZ w gx 2 d) (hm : IntZ w gy 0 m) (he : IntZ w gy 2 e) (h0 : d ≠ 0) (h1 : e ≠ 0) (fn : Fits n L) (fd : Fits d L) (fm : Fits m L) (fe : Fits e L) (l1 : 1 ≤ L) (hL : L + L < 8796093022207) :
    Calls Try.prog 50 #[.pointer (some ⟨g, 0, none⟩), .pointer (some ⟨gx, 0, none⟩), .pointer (some ⟨gy, 0, none⟩)] w fun r w' => r = .returned (.pointer (some ⟨g, 0, none⟩)) ∧ PutR w w' g (frN (n * m) (d * e)) (frD (n * m) (d * e)) := by
  have HG := Lib.hid hg
  have HN := Lib.hid hn
  have HD := Lib.hid hd
  have HM := Lib.hid hm
  have HE := Lib.hid he
  have H0 := Lib.hid (And.intro h0 h1)
  have HDE : Hid (d * e ≠ 0) := Int.mul_ne_zero h0 h1
  have F1 := Lib.hid (And.intro fn (And.intro fd (And.intro fm fe)))
  have F2 := Lib.hid (And.intro (fits_mul fn fm) (fits_mul fd fe))
  have HL := Lib.hid (And.intro l1 hL)
  clear hg hn hd hm he h0 h1 fn fd fm fe l1 hL
  go_enter Try.func50, Try.ntmps50
  go_wp2_with fail
  have B0 : Hid (Below w.heap.size w (w.alloc (.cells #[.bool false, .slice none 0 0] tI))) := (Below.refl _ _).alloc (Nat.le_refl _) _
  have I0 := Lib.hid (newBlk w (.bool false) (.slice none 0 0))
  have hsz : (w.alloc (.cells #[.bool false, .slice none 0 0] tI)).heap.size = w.heap.size + 1 := by simp
  generalize hw0 : w.alloc (.cells #[.bool false, .slice none 0 0] tI) = w0 at *
  clear hw0
  have HSZ := Lib.hid hsz
  clear hsz
  refine (num_any gx n w0 (HN.out.below B0.out)).mono ?_
  rintro r w1 ⟨rfl, hp⟩
  have P1 := Lib.hid hp
  have B1 : Hid (Below w.heap.size w w1) := B0.out.trans (hp.2.2.1.mono B0.out.size)
  clear hp
  go_wp2_with fail
  refine (num_any gy m w1 (HM.out.below B1.out)).mono ?_
  rintro r w2 ⟨rfl, hp⟩
  have P2 := Lib.hid hp
  have B2 : Hid (Below w.heap.size w w2) := B1.out.trans (hp.2.2.1.mono B1.out.size)
  have I2 : Hid (IntBlk w2 w.heap.size) := (I0.out.below P1.out.2.2.1).below hp.2.2.1
  clear hp
  go_wp2_with fail
  refine (mul_any w.heap.size w0.heap.size 0 w1.heap.size 0 n m L w2 I2.out (P1.out.1.below P2.out.2.2.1) P2.out.1 F1.out.1 F1.out.2.2.1 (by have := HL.out; omega)).mono ?_
  rintro r w3 ⟨rfl, hp⟩
  have P3 := Lib.hid hp
  have B3 : Hid (Below w.heap.size w w3) := Below.grown B2.out hp.2.2 B2.out.size (fun q hq => by injection hq with hq; omega)
  clear hp
  go_wp2_with fail
  refine (denom_any gx d _ ((HD.out.below B3.out).alloc _) H0.out.1).mono ?_
  rintro r w4 ⟨rfl, hp⟩
  have P4 := Lib.hid hp
  have B4 : Hid (Below w3.heap.size w3 w4) := ((Below.refl _ w3).alloc (Nat.le_refl _) _).trans (hp.2.2.1.mono (by simp))
  have B4w : Hid (Below w.heap.size w w4) := B3.out.trans (B4.out.mono B3.out.size)
  have I4 : Hid (IntBlk w4 w3.heap.size) := (newBlk w3 (.bool false) (.slice none 0 0)).below hp.2.2.1
  have e4 : (w3.alloc (.cells #[.bool false, .slice none 0 0] tI)).heap.size = w3.heap.size + 1 := by simp
  have Z4 : Hid (IntZ w4 (w3.heap.size + 1) 0 d) := by have h := hp.1; rw [e4] at h; exact h
  clear hp e4
  go_wp2_with fail
  refine (denom_any gy e w4 (HE.out.below B4w.out) H0.out.2).mono ?_
  rintro r w5 ⟨rfl, hp⟩
  have P5 := Lib.hid hp
  have B5w : Hid (Below w.heap.size w w5) := B4w.out.trans (hp.2.2.1.mono B4w.out.size)
  clear hp
  go_wp2_with fail
  refine (mul_any w3.heap.size (w3.heap.size + 1) 0 w4.heap.size 0 d e L w5 (I4.out.below P5.out.2.2.1) (Z4.out.below P5.out.2.2.1) P5.out.1 F1.out.2.1 F1.out.2.2.2 (by have := HL.out; omega)).mono ?_
  rintro r w6 ⟨rfl, hp⟩
  have P6 := Lib.hid hp
  have HLT : Hid (w.heap.size < w3.heap.size) := P3.out.2.1.lt
  have HGL := Lib.hid HG.out.lt
  have ZN : Hid (IntZ w6 w.heap.size 0 (n * m)) := ((P3.out.1.below B4.out).below P5.out.2.2.1).grown hp.2.2 (by have := HLT.out; omega) (I4.out.below P5.out.2.2.1)
  have B6 : Hid (Below w.heap.size w w6) := Below.grown B5w.out hp.2.2 B5w.out.size (fun q hq => by injection hq with hq; have := HLT.out; omega)
  clear hp
  go_wp2_with fail
  refine (setFrac_any g w.heap.size 0 w3.heap.size 0 (n * m) (d * e) (L + L) w6 (HG.out.below B6.out) ZN.out P6.out.1 HDE.out F2.out.1 F2.out.2 (by have := HL.out; omega) HL.out.2).mono ?_
  rintro r w7 ⟨rfl, hp⟩
  have P7 := Lib.hid hp
  clear hp
  go_wp2_with fail
  go_ret
  exact ⟨rfl, P7.out.1, P7.out.2.1, P7.out.2.2.1, (grown_of_below B6.out _).trans P7.out.2.2.2⟩
end Go.Proofs.Ytkffakekakhgdaa
