/- The mix by great numbers, walked. No condition. -/
import Derived.Test.YtkffakekakhgdaaBotN
import Derived.Test.YtkffakekakhgdaaBigRs
import Derived.Test.YtkffakekakhgdaaBigXo
import Derived.Test.YtkffakekakhgdaaBigL
import Derived.Test.YtkffakekakhgdaaBigY
import Derived.Test.YtkffakekakhgdaaBigE
import Derived.Test.YtkffakekakhgdaaDivB
namespace Go.Proofs.Ytkffakekakhgdaa
open Go.ChangeShapes Go.WideShapes Go.ChangeAt Go.RowKit
set_option linter.unusedVariables false

/-- What the mix holds: the number at gn, 2^64 at ga. -/
def MixI (w wr : World) (gn ga : Nat) (z : Int) : Prop :=
  IntZ wr gn 0 z ∧ IntBlk wr gn ∧ IntZ wr ga 0 18446744073709551616 ∧ IntBlk wr ga ∧ gn ≠ ga ∧ w.heap.size ≤ gn ∧ w.heap.size ≤ ga ∧ Below w.heap.size w wr
theorem MixI.below {w wr w' : World} {gn ga : Nat} {z : Int} (h : MixI w wr gn ga z) (hb : Below wr.heap.size wr w') : MixI w w' gn ga z := by
  obtain ⟨h1, h2, h3, h4, h5, h6, h7, h8⟩ := h
  exact ⟨h1.below hb, h2.below hb, h3.below hb, h4.below hb, h5, h6, h7, h8.trans (hb.mono h8.size)⟩
theorem MixI.put {w wr w' : World} {gn ga : Nat} {z z' : Int} (h : MixI w wr gn ga z) (hp : PutZ wr w' gn z') : MixI w w' gn ga z' := by
  obtain ⟨h1, h2, h3, h4, h5, h6, h7, h8⟩ := h
  exact ⟨hp.1, hp.2.1, h3.grown hp.2.2 (Ne.symm h5) h2, h4.grown hp.2.2 (Ne.symm h5), h5, h6, h7, h8.trans (below_of_grown hp.2.2 _ h8.size h6)⟩
theorem MixI.of {w wr : World} {gn ga : Nat} {z z' : Int} (h : MixI w wr gn ga z) (e : z = z') : MixI w wr gn ga z' := e ▸ h
theorem xor_step (y : BitVec 64) (b : Nat) : ((y.toNat ^^^ y.toNat / 2 ^ b : Nat) : Int) = ((y ^^^ (y >>> b)).toNat : Int) := by
  rw [BitVec.toNat_xor, BitVec.toNat_ushiftRight, Nat.shiftRight_eq_div_pow]
theorem mod_step (y : BitVec 64) (b : Nat) (c : BitVec 64) : (((y ^^^ (y >>> b)).toNat : Int) * (c.toNat : Int)) % 18446744073709551616 = ((mstep y b c).toNat : Int) := by
  rw [← mstep_nat, BitVec.toNat_xor, BitVec.toNat_ushiftRight, Nat.shiftRight_eq_div_pow]
  omega
theorem fits_mul (x y : Nat) (hx : x < 18446744073709551616) (hy : y < 18446744073709551616) : Fits ((x : Int) * (y : Int)) 5 := by
  unfold Fits
  have h1 : bp 5 = 4294967296 * (18446744073709551616 * 18446744073709551616) := by decide +kernel
  have h2 : x * y ≤ 18446744073709551616 * 18446744073709551616 := Nat.mul_le_mul (by omega) (by omega)
  rw [← Int.natCast_mul, Int.natAbs_natCast, h1]
  omega
def mby : Nat → Nat
  | 0 => 30
  | 1 => 27
  | _ => 31
def mtimes : Nat → BitVec 64
  | 0 => 13787848793156543929#64
  | 1 => 10723151780598845931#64
  | _ => 1#64
def ymix (x : BitVec 64) : Nat → BitVec 64
  | 0 => x
  | k + 1 => mstep (ymix x k) (mby k) (mtimes k)
theorem ymix_end (x : BitVec 64) : ymix x 3 = bmix x := rfl
theorem fits_u64 (n : Nat) (h : n < 18446744073709551616) : Fits (n : Int) 3 := by
  unfold Fits
  have : bp 3 = 79228162514264337593543950336 := by decide
  rw [this]; omega
theorem fits_all : Fits 18446744073709551616 3 := by unfold Fits; decide +kernel
abbrev tMS : TypeId := 100
abbrev mixCells : Array Value := #[.int .u64 30, .int .u64 13787848793156543929, .int .u64 27, .int .u64 10723151780598845931, .int .u64 31, .int .u64 1]
theorem mixCells_at {k : Nat} (hk : k < 3) : mixCells[k * 2]? = some (.int .u64 (mby k : Int)) ∧ mixCells[k * 2 + 1]? = some (W64 (mtimes k)) := by
  have : k = 0 ∨ k = 1 ∨ k = 2 := by omega
  rcases this with rfl | rfl | rfl <;> exact ⟨rfl, rfl⟩
theorem mby_lt (k : Nat) : mby k < 64 := by unfold mby; split <;> decide
set_option maxRecDepth 20000 in
set_option maxHeartbeats 4000000 in
theorem lmix_aux (x z : BitVec 64) (hz : Hid (ymix x 3 = z)) (w : World) :
    Calls Try.prog 43 #[W64 x] w fun e w' => e = .returned (W64 z) ∧ Below w.heap.size w w' := by
  go_enter Try.func43, Try.ntmps43
  go_wp2_with fail
  refine (newInt_any 1 _ (by decide) (by decide)).mono ?_
  rintro e w1 ⟨rfl, hn1⟩
  have HN1 := Lib.hid hn1
  clear hn1
  go_wp2_with fail
  have HB1 : Hid (IntBlk w1 w.heap.size) := (newBlk w _ _).below HN1.out.2.2.1
  have HZ1 : Hid (IntZ w1 (w.heap.size + 1) 0 1) := by
    have h := HN1.out.1
    rw [World.size_alloc] at h
    exact h
  refine (lsh_any w.heap.size (w.heap.size + 1) 0 64 1 1 w1 HB1.out HZ1.out fits_one (by decide) (by decide)).mono ?_
  rintro e w2 ⟨rfl, hp2⟩
  rw [show (1 : Int) * ((2 ^ 64 : Nat) : Int) = 18446744073709551616 by decide] at hp2
  have HP2 := Lib.hid hp2
  clear hp2
  go_wp2_with fail
  refine (setU_any w2.heap.size x.toNat _ (newBlk _ _ _) x.isLt).mono ?_
  rintro e w3 ⟨rfl, hp3⟩
  have HP3 := Lib.hid hp3.new
  clear hp3
  have HI3 : Hid (MixI w w3 w2.heap.size w.heap.size (x.toNat : Int)) := by
    have b1 : Below w.heap.size w w1 := ((Below.refl _ _).alloc (Nat.le_refl _) _).trans (HN1.out.2.2.1.mono (by simp))
    have b2 : Below w.heap.size w w2 := b1.trans (below_of_grown HP2.out.2.2 _ b1.size (Nat.le_refl _))
    have hlt : w.heap.size < w2.heap.size := HP2.out.2.1.lt
    exact ⟨HP3.out.1, HP3.out.2.1, HP2.out.1.below HP3.out.2.2.1, HP2.out.2.1.below HP3.out.2.2.1, by omega, by omega, Nat.le_refl _, b2.trans (HP3.out.2.2.1.mono (by omega))⟩
  clear HN1 HB1 HP2 HP3
  go_wp2_with fail
  have hsg : w2.heap.size < w3.heap.size := HI3.out.2.1.lt
  go_loopw [18] (fun s18 wr => ∃ k : Nat, k ≤ 3 ∧ s18 = .int .i64 k ∧ MixI w wr w2.heap.size w.heap.size ((ymix x k).toNat : Int) ∧ Blk wr w3.heap.size tMS mixCells) (fun s18 _ => 3 - (intOf s18).toNat)
  case atStart => exact ⟨0, by decide, rfl, HI3.out.below ((Below.refl _ _).alloc (Nat.le_refl _) _), Blk.new _ _ _⟩
  case round =>
    obtain ⟨k, hk, rfl, hmi, hbs⟩ := hrel
    have HMI := Lib.hid hmi
    have HBS := Lib.hid hbs
    clear hmi hbs HI3 HZ1
    generalize w2.heap.size = gn at *
    generalize w3.heap.size = gs at *
    by_cases hlt : k < 3
    · have HY : Hid (ymix x (k + 1) = mstep (ymix x k) (mby k) (mtimes k)) := rfl
      obtain ⟨m1, m2⟩ := mixCells_at hlt
      have c1 := HBS.out.cell _ m1
      have c2 := HBS.out.cell _ m2
      have i1 : (k : Int) < 3 := by omega
      have hby := mby_lt k
      clear m1 m2
      generalize mby k = b at *
      generalize mtimes k = c at *
      generalize ymix x k = y at *
      go_wp2_with fail
      have hs : Blk ((wr.alloc (.cells #[.int .u64 (b : Int), W64 c] tMS)).alloc (.cells #[.bool false, .slice none 0 0] tI)) wr.heap.size tMS #[.int .u64 (b : Int), W64 c] := (Blk.new wr tMS _).alloc _
      have hB : IntBlk ((wr.alloc (.cells #[.int .u64 (b : Int), W64 c] tMS)).alloc (.cells #[.bool false, .slice none 0 0] tI)) (wr.heap.size + 1) := by
        have h := newBlk (wr.alloc (.cells #[.int .u64 (b : Int), W64 c] tMS)) (.bool false) (.slice none 0 0)
        rw [World.size_alloc] at h
        exact h
      have hb2 : Below wr.heap.size wr ((wr.alloc (.cells #[.int .u64 (b : Int), W64 c] tMS)).alloc (.cells #[.bool false, .slice none 0 0] tI)) := ((Below.refl _ _).alloc (Nat.le_refl _) _).alloc (by simp) _
      have hm := HMI.out.below hb2
      have hgn := HMI.out.2.1.lt
      have hga := HMI.out.2.2.2.1.lt
      have hgs := HBS.out.lt
      have hbs := HBS.out.below hb2 hgs
      clear hb2 c1 c2
      generalize hwq : (wr.alloc (.cells #[.int .u64 (b : Int), W64 c] tMS)).alloc (.cells #[.bool false, .slice none 0 0] tI) = wq at hs hB hm hbs ⊢
      clear hwq
      have HS := Lib.hid hs
      have HM := Lib.hid hm
      have HQ := Lib.hid hB
      have HBS2 := Lib.hid hbs
      clear hs hm hB hbs HMI HBS
      refine (rsh_any (wr.heap.size + 1) gn 0 b y.toNat wq HQ.out HM.out.1 (by omega)).mono ?_
      rintro e w4 ⟨rfl, hp4⟩
      have HM4 : Hid (MixI w w4 gn w.heap.size (y.toNat : Int)) := by
        obtain ⟨h1, h2, h3, h4, h5, h6, h7, h8⟩ := HM.out
        exact ⟨h1.grown hp4.2.2 (by omega) HQ.out, h2.grown hp4.2.2 (by omega), h3.grown hp4.2.2 (by omega) HQ.out, h4.grown hp4.2.2 (by omega), h5, h6, h7, h8.trans (below_of_grown hp4.2.2 _ h8.size (by omega))⟩
      have HS4 := Lib.hid (HS.out.grown hp4.2.2 (by omega))
      have HBS4 := Lib.hid (HBS2.out.grown hp4.2.2 (by omega))
      have HP4 := Lib.hid hp4
      clear hp4 HS HBS2 HM HQ
      go_wp2_with fail
      refine (xor_any gn gn 0 (wr.heap.size + 1) 0 y.toNat (y.toNat / 2 ^ b) w4 HM4.out.2.1 HM4.out.1 HP4.out.1 (Nat.div_le_self _ _)).mono ?_
      rintro e w5 ⟨rfl, hp5⟩
      have HM5 := Lib.hid ((HM4.out.put hp5).of (xor_step y b))
      have hs5 := HS4.out.grown hp5.2.2 (by omega)
      have hcs := (hs5.alloc (.cells #[.bool false, .slice none 0 0] tI)).cell 1 rfl
      have HBS5 := Lib.hid (HBS4.out.grown hp5.2.2 (by omega))
      clear hp5 HS4 HBS4 HP4 HM4 hs5
      go_wp2_with fail
      refine (setU_any w5.heap.size c.toNat _ (newBlk _ _ _) c.isLt).mono ?_
      rintro e w6 ⟨rfl, hp6⟩
      have hn6 := hp6.new
      have HM6 := Lib.hid (HM5.out.below hn6.2.2.1)
      have HBS6 := Lib.hid (HBS5.out.below hn6.2.2.1 HBS5.out.lt)
      have HN6 := Lib.hid hn6
      clear hp6 hn6 HBS5 HM5 hcs
      go_wp2_with fail
      refine (mul_any gn gn 0 w5.heap.size 0 _ _ 3 w6 HM6.out.2.1 HM6.out.1 HN6.out.1 (fits_u64 _ (y ^^^ (y >>> b)).isLt) (fits_u64 _ c.isLt) (by decide)).mono ?_
      rintro e w7 ⟨rfl, hp7⟩
      have HM7 := Lib.hid (HM6.out.put hp7)
      have HBS7 := Lib.hid (HBS6.out.grown hp7.2.2 (by omega))
      clear hp7 HBS6 HM6 HN6
      go_wp2_with fail
      refine (mod_any gn gn 0 w.heap.size 0 _ _ 5 w7 HM7.out.2.1 HM7.out.1 HM7.out.2.2.1 (by decide) (fits_mul _ _ (y ^^^ (y >>> b)).isLt c.isLt) (fits_all.mono (by decide)) (by decide) (by decide)).mono ?_
      rintro e w8 ⟨rfl, hp8⟩
      have HM8 := Lib.hid ((HM7.out.put hp8).of (mod_step y b c))
      have HBS8 := Lib.hid (HBS7.out.grown hp8.2.2 (by omega))
      clear hp8 HBS7 HM7
      go_wp2_with fail
      go_roundw
      case rel => exact ⟨k + 1, by omega, by go_num, by rw [HY.out]; exact HM8.out, HBS8.out⟩
      case measure => simp [intOf]; omega
    · have hk3 : k = 3 := by omega
      have HM3 : Hid (MixI w wr gn w.heap.size (z.toNat : Int)) := by
        unfold Hid
        have h := HMI.out
        rw [hk3, hz.out] at h
        exact h
      have i1 : ¬ (k : Int) < 3 := by omega
      clear hk3 HMI
      have HE : Hid ((z.toNat : Int) % 18446744073709551616 = (z.toNat : Int)) := by
        have h := z.isLt
        unfold Hid
        omega
      go_wp2_with fail
      refine (uint64_any gn 0 _ wr HM3.out.1).mono ?_
      rintro e w4 ⟨rfl, rfl⟩
      go_wp2_with fail
      go_ret
      exact ⟨by rw [HE.out]; rfl, HM3.out.2.2.2.2.2.2.2⟩
theorem lmix_any (x : BitVec 64) (w : World) :
    Calls Try.prog 43 #[W64 x] w fun e w' => e = .returned (W64 (bmix x)) ∧ Below w.heap.size w w' := lmix_aux x _ (ymix_end x) w
end Go.Proofs.Ytkffakekakhgdaa
