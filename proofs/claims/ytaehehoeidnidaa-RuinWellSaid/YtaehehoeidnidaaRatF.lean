/- Fractions in memory: quotients, walked; how great the numbers of a fraction in lowest terms are. No condition but the size. -/
import Derived.Test.YtaehehoeidnidaaRatE
namespace Go.Proofs.Ytaehehoeidnidaa
open Go.ChangeShapes Go.WideShapes Go.ChangeAt Go.RowKit
set_option linter.unusedVariables false

theorem frN_le (a b : Int) : (frN a b).natAbs ≤ a.natAbs := by
  have h := tdiv_le a (Nat.gcd a.natAbs b.natAbs : Nat)
  unfold frN; split
  · rw [Int.natAbs_neg]; exact h
  · exact h
theorem frD_le (a b : Int) : (frD a b).natAbs ≤ b.natAbs := by
  have h := tdiv_le b (Nat.gcd a.natAbs b.natAbs : Nat)
  unfold frD; split
  · rw [Int.natAbs_neg]; exact h
  · exact h
theorem frD_pos {a b : Int} (h : b ≠ 0) : 0 < frD a b := by
  have h1 : (b.tdiv (Nat.gcd a.natAbs b.natAbs : Nat)).natAbs = b.natAbs / Nat.gcd a.natAbs b.natAbs := by rw [Int.natAbs_tdiv, Int.natAbs_natCast]; rfl
  have h2 : 0 < b.natAbs / Nat.gcd a.natAbs b.natAbs := Nat.div_pos (Nat.le_of_dvd (by omega) (Nat.gcd_dvd_right _ _)) (Nat.gcd_pos_of_pos_right _ (by omega))
  unfold frD; split <;> omega
set_option maxRecDepth 20000 in
set_option maxHeartbeats 4000000 in
theorem ratQuo_any (g gx gy : Nat) (n d m e : Int) (L : Nat) (w : World) (hg : RatBlk w g) (hn : IntZ w gx 0 n) (hd : IntZ w gx 2 d) (hm : IntZ w gy 0 m) (he : IntZ w gy 2 e) (h0 : d ≠ 0) (h1 : e ≠ 0) (h2 : m ≠ 0) (fn : Fits n L) (fd : Fits d L) (fm : Fits m L) (fe : Fits e L) (l1 : 1 ≤ L) (hL : L + L < 8796093022207) :
    Calls Try.prog 108 #[.pointer (some ⟨g, 0, none⟩), .pointer (some ⟨gx, 0, none⟩), .pointer (some ⟨gy, 0, none⟩)] w fun r w' => r = .returned (.pointer (some ⟨g, 0, none⟩)) ∧ PutR w w' g (frN (n * frN e m) (d * frD e m)) (frD (n * frN e m) (d * frD e m)) := by
  have HG := Lib.hid hg
  have HN := Lib.hid hn
  have HD := Lib.hid hd
  have HM := Lib.hid hm
  have HE := Lib.hid he
  have H0 := Lib.hid (And.intro h0 (And.intro h1 h2))
  have HP := Lib.hid (frD_pos (a := e) h2)
  have F1 := Lib.hid (And.intro fn (And.intro fd (And.intro fm fe)))
  have F2 := Lib.hid (And.intro (fe.abs_le (frN_le e m)) (fm.abs_le (frD_le e m)))
  have HL := Lib.hid (And.intro l1 hL)
  clear hg hn hd hm he h0 h1 h2 fn fd fm fe l1 hL
  go_enter Try.func108, Try.ntmps108
  go_wp2_with fail
  refine (inv_any w.heap.size gy m e L _ (newRatBlk _ _ _ _ _) (HM.out.alloc _) (HE.out.alloc _) H0.out.2.1 H0.out.2.2 F1.out.2.2.1 F1.out.2.2.2 HL.out.1 (by have := HL.out; omega)).mono ?_
  rintro r w1 ⟨rfl, hp⟩
  have P1 := Lib.hid hp
  have B1 : Hid (Below w.heap.size w w1) := Below.grown ((Below.refl _ w).alloc (Nat.le_refl _) _) hp.2.2.2 (by simp) (fun q hq => by injection hq with hq; omega)
  clear hp
  go_wp2_with fail
  refine (ratMul_any g gx w.heap.size n d (frN e m) (frD e m) L w1 (HG.out.below B1.out) (HN.out.below B1.out) (HD.out.below B1.out) P1.out.1 P1.out.2.1 H0.out.1 (by have := HP.out; omega) F1.out.1 F1.out.2.1 F2.out.1 F2.out.2 HL.out.1 HL.out.2).mono ?_
  rintro r w2 ⟨rfl, hp⟩
  have P2 := Lib.hid hp
  clear hp
  go_wp2_with fail
  go_ret
  exact ⟨rfl, P2.out.1, P2.out.2.1, P2.out.2.2.1, (grown_of_below B1.out _).trans P2.out.2.2.2⟩
end Go.Proofs.Ytaehehoeidnidaa
