/- How many bits a number has, walked. No condition. -/
import Derived.Test.YtmibifmabkaakaaDoorTapM
import Derived.BigQuiet
import Derived.IntWalk
namespace Go.Proofs.YtmibifmabkaakaaDoor
open Go.ChangeShapes Go.WideShapes Go.ChangeAt Go.RowKit
set_option linter.unusedVariables false

abbrev lenTab : ByteArray := { data := #[0, 1, 2, 2, 3, 3, 3, 3, 4, 4, 4, 4, 4, 4, 4, 4, 5, 5, 5, 5, 5, 5, 5, 5, 5, 5, 5, 5, 5, 5, 5, 5, 6, 6, 6, 6, 6, 6, 6, 6, 6, 6, 6, 6, 6, 6, 6, 6, 6, 6, 6, 6, 6, 6, 6, 6, 6, 6, 6, 6, 6, 6, 6, 6, 7, 7, 7, 7, 7, 7, 7, 7, 7, 7, 7, 7, 7, 7, 7, 7, 7, 7, 7, 7, 7, 7, 7, 7, 7, 7, 7, 7, 7, 7, 7, 7, 7, 7, 7, 7, 7, 7, 7, 7, 7, 7, 7, 7, 7, 7, 7, 7, 7, 7, 7, 7, 7, 7, 7, 7, 7, 7, 7, 7, 7, 7, 7, 7, 8, 8, 8, 8, 8, 8, 8, 8, 8, 8, 8, 8, 8, 8, 8, 8, 8, 8, 8, 8, 8, 8, 8, 8, 8, 8, 8, 8, 8, 8, 8, 8, 8, 8, 8, 8, 8, 8, 8, 8, 8, 8, 8, 8, 8, 8, 8, 8, 8, 8, 8, 8, 8, 8, 8, 8, 8, 8, 8, 8, 8, 8, 8, 8, 8, 8, 8, 8, 8, 8, 8, 8, 8, 8, 8, 8, 8, 8, 8, 8, 8, 8, 8, 8, 8, 8, 8, 8, 8, 8, 8, 8, 8, 8, 8, 8, 8, 8, 8, 8, 8, 8, 8, 8, 8, 8, 8, 8, 8, 8, 8, 8, 8, 8, 8, 8, 8, 8, 8, 8, 8, 8, 8, 8, 8, 8, 8, 8] }
theorem lenTab_size : lenTab.size = 256 := by decide +kernel
theorem lenTab_ok : ∀ n : Fin 256, (lenTab[n.val]'(by rw [lenTab_size]; exact n.isLt)).toNat = blen n.val := by decide +kernel
theorem blen_small {n : Nat} (h : n < 256) : blen n ≤ 8 := by
  unfold blen
  split
  · omega
  · next h1 =>
    have := (Nat.log2_lt h1).2 (show n < 2 ^ 8 by omega)
    omega
set_option maxRecDepth 100000 in
set_option maxHeartbeats 2000000 in
theorem len64_0 (m q : Nat) (w : World) (hq : q < 256) (hm : m = q) :
    Calls Tryd.prog 114 #[.int .u64 m] w fun e w' => e = .returned (.int .i64 ((blen q + 0 : Nat) : Int)) ∧ w = w' := by
  have hb : ∀ h, (lenTab[q]'h).toNat = blen q := fun _ => lenTab_ok ⟨q, hq⟩
  have hbs := blen_small hq
  subst hm
  have g4294967296 : ¬ 4294967296 ≤ (m : Int) := by omega
  have k4294967296 : ¬ 4294967296 ≤ m := by omega
  have g65536 : ¬ 65536 ≤ (m : Int) := by omega
  have k65536 : ¬ 65536 ≤ m := by omega
  have g256 : ¬ 256 ≤ (m : Int) := by omega
  have k256 : ¬ 256 ≤ m := by omega
  go_enter Tryd.func114, Tryd.ntmps114
  go_wp2_with fail
  go_ret
  exact ⟨by go_num, rfl⟩
set_option maxRecDepth 100000 in
set_option maxHeartbeats 2000000 in
theorem len64_8 (m q : Nat) (w : World) (hq : q < 256) (hm : (m : Int) / 256 = (q : Int)) (h1 : 256 ≤ m) (h2 : m < 65536) :
    Calls Tryd.prog 114 #[.int .u64 m] w fun e w' => e = .returned (.int .i64 ((blen q + 8 : Nat) : Int)) ∧ w = w' := by
  have hb : ∀ h, (lenTab[q]'h).toNat = blen q := fun _ => lenTab_ok ⟨q, hq⟩
  have hbs := blen_small hq
  have g4294967296 : ¬ 4294967296 ≤ (m : Int) := by omega
  have k4294967296 : ¬ 4294967296 ≤ m := by omega
  have g65536 : ¬ 65536 ≤ (m : Int) := by omega
  have k65536 : ¬ 65536 ≤ m := by omega
  have g256 : 256 ≤ (m : Int) := by omega
  have k256 : 256 ≤ m := by omega
  go_enter Tryd.func114, Tryd.ntmps114
  go_wp2_with fail
  go_ret
  exact ⟨by go_num, rfl⟩
set_option maxRecDepth 100000 in
set_option maxHeartbeats 2000000 in
theorem len64_16 (m q : Nat) (w : World) (hq : q < 256) (hm : (m : Int) / 65536 = (q : Int)) (h1 : 65536 ≤ m) (h2 : m < 4294967296) :
    Calls Tryd.prog 114 #[.int .u64 m] w fun e w' => e = .returned (.int .i64 ((blen q + 16 : Nat) : Int)) ∧ w = w' := by
  have hb : ∀ h, (lenTab[q]'h).toNat = blen q := fun _ => lenTab_ok ⟨q, hq⟩
  have hbs := blen_small hq
  have g4294967296 : ¬ 4294967296 ≤ (m : Int) := by omega
  have k4294967296 : ¬ 4294967296 ≤ m := by omega
  have g65536 : 65536 ≤ (m : Int) := by omega
  have k65536 : 65536 ≤ m := by omega
  have g256 : ¬ 256 ≤ (q : Int) := by omega
  have k256 : ¬ 256 ≤ q := by omega
  go_enter Tryd.func114, Tryd.ntmps114
  go_wp2_with fail
  go_ret
  exact ⟨by go_num, rfl⟩
set_option maxRecDepth 100000 in
set_option maxHeartbeats 2000000 in
theorem len64_24 (m q m1 : Nat) (w : World) (hq : q < 256) (hm1 : (m : Int) / 65536 = (m1 : Int)) (hm : (m1 : Int) / 256 = (q : Int)) (h1 : 65536 ≤ m) (h2 : m < 4294967296) (h3 : 256 ≤ m1) :
    Calls Tryd.prog 114 #[.int .u64 m] w fun e w' => e = .returned (.int .i64 ((blen q + 24 : Nat) : Int)) ∧ w = w' := by
  have hb : ∀ h, (lenTab[q]'h).toNat = blen q := fun _ => lenTab_ok ⟨q, hq⟩
  have hbs := blen_small hq
  have g4294967296 : ¬ 4294967296 ≤ (m : Int) := by omega
  have k4294967296 : ¬ 4294967296 ≤ m := by omega
  have g65536 : 65536 ≤ (m : Int) := by omega
  have k65536 : 65536 ≤ m := by omega
  have g256 : 256 ≤ (m1 : Int) := by omega
  have k256 : 256 ≤ m1 := by omega
  go_enter Tryd.func114, Tryd.ntmps114
  go_wp2_with fail
  go_ret
  exact ⟨by go_num, rfl⟩
set_option maxRecDepth 100000 in
set_option maxHeartbeats 2000000 in
theorem len64_32 (m q : Nat) (w : World) (hq : q < 256) (hm : (m : Int) / 4294967296 = (q : Int)) (h1 : 4294967296 ≤ m) :
    Calls Tryd.prog 114 #[.int .u64 m] w fun e w' => e = .returned (.int .i64 ((blen q + 32 : Nat) : Int)) ∧ w = w' := by
  have hb : ∀ h, (lenTab[q]'h).toNat = blen q := fun _ => lenTab_ok ⟨q, hq⟩
  have hbs := blen_small hq
  have g4294967296 : 4294967296 ≤ (m : Int) := by omega
  have k4294967296 : 4294967296 ≤ m := by omega
  have g65536 : ¬ 65536 ≤ (q : Int) := by omega
  have k65536 : ¬ 65536 ≤ q := by omega
  have g256 : ¬ 256 ≤ (q : Int) := by omega
  have k256 : ¬ 256 ≤ q := by omega
  go_enter Tryd.func114, Tryd.ntmps114
  go_wp2_with fail
  go_ret
  exact ⟨by go_num, rfl⟩
theorem len64_any (m : Nat) (w : World) (hm : m < 1099511627776) :
    Calls Tryd.prog 114 #[.int .u64 m] w fun e w' => e = .returned (.int .i64 (blen m : Nat)) ∧ w = w' := by
  by_cases h1 : 4294967296 ≤ m
  · rw [blen_shift 32 m h1]; exact len64_32 m _ w (by show m / 4294967296 < 256; omega) (Int.natCast_ediv _ _).symm h1
  · by_cases h2 : 65536 ≤ m
    · by_cases h3 : 256 ≤ m / 65536
      · rw [blen_shift 16 m h2, blen_shift 8 (m / 2 ^ 16) h3, Nat.add_assoc]
        exact len64_24 m _ (m / 65536) w (by show m / 65536 / 256 < 256; omega) (Int.natCast_ediv _ _).symm (Int.natCast_ediv _ _).symm h2 (by omega) h3
      · rw [blen_shift 16 m h2]; exact len64_16 m _ w (by show m / 65536 < 256; omega) (Int.natCast_ediv _ _).symm h2 (by omega)
    · by_cases h3 : 256 ≤ m
      · rw [blen_shift 8 m h3]; exact len64_8 m _ w (by show m / 256 < 256; omega) (Int.natCast_ediv _ _).symm h3 (by omega)
      · exact len64_0 m m w (by omega) rfl
set_option maxRecDepth 20000 in
theorem len_any (m : Nat) (w : World) (hm : m < 1099511627776) :
    Calls Tryd.prog 103 #[.int .u64 m] w fun e w' => e = .returned (.int .i64 (blen m : Nat)) ∧ w = w' := by
  go_enter Tryd.func103, Tryd.ntmps103
  go_wp2_with fail
  refine (len64_any m _ hm).mono ?_
  rintro e w' ⟨rfl, rfl⟩
  go_wp2_with fail
  go_ret
  exact ⟨rfl, rfl⟩
set_option maxRecDepth 20000 in
theorem width_any (n : Nat) (w : World) (h1 : 1 ≤ n) (hn : n ≤ 1099511627776) :
    Calls Tryd.prog 91 #[.int .i64 n] w fun e w' => e = .returned (.int .i64 (blen (n - 1) : Nat)) ∧ w = w' := by
  have i1 : (n : Int) - 1 = ((n - 1 : Nat) : Int) := by omega
  have i2 : n - 1 < 1099511627776 := by omega
  generalize n - 1 = m at *
  go_enter Tryd.func91, Tryd.ntmps91
  go_wp2_with fail
  refine (len_any m _ i2).mono ?_
  rintro e w' ⟨rfl, rfl⟩
  go_wp2_with fail
  go_ret
  exact ⟨rfl, rfl⟩
end Go.Proofs.YtmibifmabkaakaaDoor
