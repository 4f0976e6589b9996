/- mixer.Seed, walked. No condition. -/
import Derived.Test.YtmibifmabkaakaaDoorMixL
import Derived.Test.YtmibifmabkaakaaDoorBotW
namespace Go.Proofs.YtmibifmabkaakaaDoor
open Go.ChangeShapes Go.WideShapes Go.ChangeAt Go.RowKit
set_option linter.unusedVariables false

theorem bogD {w w' : World} {g : Nat} (h : w.grownBy w' (some g)) (B : Nat) (hB : B ≤ w.heap.size) (hg : B ≤ g) : Below B w w' := (Below.refl _ _).grown h hB (fun k hk => by injection hk with hk; omega)
def sword (n : BitVec 64) : Nat → BitVec 64
  | 0 => n
  | k + 1 => sword n k + 11400714819323198485#64
theorem sword_add (n c : BitVec 64) (k : Nat) : n + BitVec.ofNat 64 k * c + c = n + BitVec.ofNat 64 (k + 1) * c := by
  rw [BitVec.ofNat_add, BitVec.add_mul, BitVec.add_assoc]
  rw [show BitVec.ofNat 64 1 * c = c from BitVec.one_mul c]
theorem sword_mul (n : BitVec 64) (k : Nat) : sword n k = n + BitVec.ofNat 64 k * 11400714819323198485#64 := by
  induction k with
  | zero => simp [sword]
  | succ k ih => rw [← sword_add, ← ih]; rfl
abbrev swzero : Value := .int .u64 0
def scells (f : Nat → BitVec 64) (k : Nat) : Array Value := #[if 0 < k then W64 (f 0) else swzero, if 1 < k then W64 (f 1) else swzero, if 2 < k then W64 (f 2) else swzero, if 3 < k then W64 (f 3) else swzero]
theorem scells_set (f : Nat → BitVec 64) (k : Nat) (hk : k < 4) : (scells f k).setIfInBounds k (W64 (f k)) = scells f (k + 1) := by
  have : k = 0 ∨ k = 1 ∨ k = 2 ∨ k = 3 := by omega
  rcases this with rfl | rfl | rfl | rfl <;> rfl
theorem scells_end (f : Nat → BitVec 64) : scells f 4 = mcells (f 0, f 1, f 2, f 3) := rfl
theorem scells_zero (f : Nat → BitVec 64) : scells f 0 = #[swzero, swzero, swzero, swzero] := rfl
abbrev seedM (f : Nat → BitVec 64) : Mx := (f 0, f 1, f 2, f 3)
/-- f are the mixes of the words behind n. -/
def SeedF (n : BitVec 64) (f : Nat → BitVec 64) : Prop := ∀ k, f k = bmix (sword n (k + 1))
set_option maxHeartbeats 4000000 in
theorem seed_any (n : BitVec 64) (f : Nat → BitVec 64) (hF : SeedF n f) (w : World) :
    Calls Tryd.prog 28 #[W64 n] w fun e w' => e = .returned (MV (seedM f)) ∧ Below w.heap.size w w' := by
  have ha := fun y => wv_add_lit y 11400714819323198485#64 (n := 11400714819323198485) rfl
  go_enter Tryd.func28, Tryd.ntmps28
  go_wp2_with fail
  have hblk0 : Blk ((w.alloc (.cells #[swzero, swzero, swzero, swzero] 57)).alloc (.cells #[swzero, swzero, swzero, swzero] 57)) w.heap.size 57 #[swzero, swzero, swzero, swzero] := (Blk.new _ _ _).alloc _
  have hblk1 : Blk ((w.alloc (.cells #[swzero, swzero, swzero, swzero] 57)).alloc (.cells #[swzero, swzero, swzero, swzero] 57)) (w.heap.size + 1) 57 (scells f 0) := by
    have := Blk.new (w.alloc (.cells #[swzero, swzero, swzero, swzero] 57)) 57 #[swzero, swzero, swzero, swzero]
    rw [World.size_alloc] at this; exact this
  have hbel0 : Below w.heap.size w ((w.alloc (.cells #[swzero, swzero, swzero, swzero] 57)).alloc (.cells #[swzero, swzero, swzero, swzero] 57)) := ((Below.refl _ _).alloc (Nat.le_refl _) _).alloc (by simp) _
  go_loopw [0, 5] (fun s0 s5 wr => ∃ k : Nat, k ≤ 4 ∧ s5 = .int .i64 k ∧ s0 = W64 (sword n k) ∧ Blk wr (w.heap.size + 1) 57 (scells f k) ∧ Blk wr w.heap.size 57 #[swzero, swzero, swzero, swzero] ∧ Below w.heap.size w wr) (fun _ s5 _ => 4 - (intOf s5).toNat)
  case atStart => exact ⟨0, by decide, rfl, rfl, hblk1, hblk0, hbel0⟩
  case round =>
    obtain ⟨k, hk, rfl, rfl, hb1, hb0, hbel⟩ := hrel
    clear hblk0 hblk1 hbel0
    have HB1 := Lib.hid hb1
    have HB0 := Lib.hid hb0
    have HBE := Lib.hid hbel
    clear hb1 hb0 hbel
    by_cases hlt : k < 4
    · have HW : Hid (sword n (k + 1) = sword n k + 11400714819323198485#64) := rfl
      have HF : Hid (bmix (sword n (k + 1)) = f k) := (hF k).symm
      have i1 : (k : Int) < 4 := by omega
      have HM := Lib.hid (mix_any (sword n (k + 1)))
      rw [HF.out, HW.out] at HM
      generalize sword n k = y at *
      go_wp2_with fail
      refine (HM.out _).mono ?_
      rintro e w' ⟨rfl, rfl⟩
      obtain ⟨u, hu⟩ : ∃ u, (scells f k)[k]? = some u := ⟨_, Array.getElem?_eq_getElem (show k < 4 from hlt)⟩
      have hc := HB1.out.cell k hu
      have hf := HB1.out.frozen k
      clear hu
      go_wp2_with fail
      go_roundw
      case rel =>
        refine ⟨k + 1, by omega, by go_num, by rw [HW.out], ?_, ?_, HBE.out.setCell (Nat.le_succ _) _⟩
        · rw [← scells_set _ _ hlt]
          exact HB1.out.set_ k _
        · exact HB0.out.far (p := ⟨w.heap.size + 1, k, none⟩) (Nat.ne_of_lt (Nat.lt_succ_self _)) _
      case measure => simp [intOf]; omega
    · have hke : Hid (k = 4) := by unfold Hid; omega
      have i1 : ¬ (k : Int) < 4 := by omega
      have hb1 := HB1.out
      rw [hke.out, scells_end] at hb1
      have KB1 := Lib.hid hb1
      clear hb1
      go_wp2_with (first
        | (refine wpList_load_blk rfl _ _ rfl (w.heap.size + 1) rfl 57 (mcells (seedM f)) _ KB1.out Tryd.underlying57 rfl (by kernel_rfl) ?_)
        | (refine wpList_store_blk rfl _ _ _ rfl w.heap.size (mcells (seedM f)) rfl rfl _ _ HB0.out (by kernel_rfl) rfl (mcells_one _) ?_; intro w2 hb2 hg2 hs2; have HS2 := Lib.hid hs2; have HB2 := Lib.hid hb2; have HG2 := Lib.hid hg2; clear hs2 hb2 hg2)
        | fail)
      refine bodyPost_ret (v := MV (seedM f)) (results_c Tryd.results28 _ rfl HB2.out Tryd.underlying57 rfl (by kernel_rfl)) rfl ⟨rfl, ?_⟩
      exact HBE.out.trans (bogD HG2.out _ HBE.out.size (Nat.le_refl _))

end Go.Proofs.YtmibifmabkaakaaDoor
