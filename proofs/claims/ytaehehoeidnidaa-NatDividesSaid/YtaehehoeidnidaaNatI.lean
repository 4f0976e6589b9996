/- Numbers that fall: the reference's AFalling, walked. No condition but the numbers' own size. -/
import Derived.Test.YtaehehoeidnidaaNatH
import Derived.Test.YtaehehoeidnidaaNatZ
import Derived.Test.YtaehehoeidnidaaBigY
namespace Go.Proofs.Ytaehehoeidnidaa
open Go.ChangeShapes Go.WideShapes Go.ChangeAt Go.RowKit
set_option linter.unusedVariables false

theorem wp_bp (k : Nat) : wB ^ k = bp (2 * k) := by
  unfold bp; rw [Nat.pow_mul]
theorem fits_fallM {n m M : Nat} (hn : n < wB) (hm : m ≤ M) (hM : 0 < M) : Fits (fall n m : Int) (2 * M) := by
  unfold Fits
  rw [Int.natAbs_natCast, ← wp_bp]
  exact fall_lt hn hm hM
theorem fits_fall {n m : Nat} (hn : n < wB) (hm : m ≤ 300) : Fits (fall n m : Int) 600 := fits_fallM (M := 300) hn hm (by decide)
theorem fits_one64 {n : Nat} (hn : n < wB) : Fits (n : Int) 600 := by
  have h : Fits (n : Int) 2 := by
    unfold Fits; rw [Int.natAbs_natCast]; have e : bp 2 = wB := rfl; rw [e]; exact hn
  exact h.mono (by decide)
set_option maxRecDepth 20000 in
set_option maxHeartbeats 4000000 in
theorem afalling_any (n m : Nat) (w : World) (hn : n < wB) (hm : m ≤ 300) :
    Calls Try.prog 67 #[u64v n, .int .i64 m] w fun e w' => ∃ g, e = .returned (ptrV g) ∧ IntZ w' g 0 (fall n m) ∧ Below w.heap.size w w' := by
  have HN := Lib.hid (And.intro hn hm)
  have HNI := Lib.hid (fun u => newInt_any 1 u (by decide) (by decide))
  have hmw : Hid (∀ i : Nat, i < m → wrap64 ((i : Int) + 1) = ((i + 1 : Nat) : Int)) := fun i hi => w64s (by omega)
  clear hn hm
  go_enter Try.func67, Try.ntmps67
  go_wp2_with fail
  refine (HNI.out _).mono ?_
  rintro e w1 ⟨rfl, hp⟩
  have P1 := Lib.hid hp
  clear hp
  go_wp2_with fail
  refine (setU_any w1.heap.size n _ (newBlk _ _ _) HN.out.1).mono ?_
  rintro e w2 ⟨rfl, hp⟩
  have P2 := Lib.hid hp.new
  have HX2 : Hid (IntZ w2 w.heap.size 0 1) := P1.out.1.below P2.out.2.2.1
  have HXB2 : Hid (IntBlk w2 w.heap.size) := P1.out.2.1.below P2.out.2.2.1
  have HB2 : Hid (Below w.heap.size w w2) := rb_go P1.out.2.2.1 P2.out.2.2.1
  have HLT : Hid (w.heap.size < w1.heap.size) := P1.out.2.1.lt
  clear hp
  go_wp2_with fail
  --LOOK1
  go_loopw [12] (fun s12 wx => ∃ (i : Nat), i ≤ m ∧ i ≤ n ∧ s12 = .int .i64 i ∧ Hid (IntZ wx w.heap.size 0 (fall n i) ∧ IntBlk wx w.heap.size) ∧ Hid (IntZ wx w1.heap.size 0 ((n - i : Nat) : Int) ∧ IntBlk wx w1.heap.size) ∧ Hid (Below w.heap.size w wx)) (fun s12 _ => m - (intOf s12).toNat)
  case atStart => exact ⟨0, Nat.zero_le _, Nat.zero_le _, rfl, ⟨HX2.out, HXB2.out⟩, ⟨P2.out.1, P2.out.2.1⟩, HB2⟩
  case round =>
    obtain ⟨i, him, hin, rfl, hx, hy, hb⟩ := hrel
    clear P1 P2 HX2 HXB2 HB2
    by_cases hlt : i < m
    · have i1 : (i : Int) < (m : Int) := by omega
      have F1 := Lib.hid (fits_fall HN.out.1 (show i ≤ 300 by have := HN.out.2; omega))
      have F2 := Lib.hid (fits_one64 (n := n - i) (Nat.lt_of_le_of_lt (Nat.sub_le _ _) HN.out.1))
      have hml : Hid (((fall n i : Nat) : Int) * ((n - i : Nat) : Int) = ((fall n (i + 1) : Nat) : Int)) := by unfold Hid; rw [fall, Int.natCast_mul]
      have hsg : Hid (sgn ((fall n (i + 1) : Nat) : Int) = if fall n (i + 1) = 0 then 0 else 1) := by
        unfold Hid sgn
        by_cases e : fall n (i + 1) = 0
        · rw [if_pos (by omega), if_pos e]
        · rw [if_neg (by omega), if_neg (by omega), if_neg e]
      have huk := hmw.out i hlt
      have UK := Lib.hid huk
      have HI := Lib.hid (And.intro him (And.intro hin hlt))
      clear him hin hlt huk
      go_wp2_with fail
      refine (mul_any w.heap.size w.heap.size 0 w1.heap.size 0 _ _ 600 wr hx.out.2 hx.out.1 hy.out.1 F1.out F2.out (by decide)).mono ?_
      rintro e u1 ⟨rfl, hp⟩
      rw [hml.out] at hp
      have P3 := Lib.hid hp
      have HY3 : Hid (IntZ u1 w1.heap.size 0 ((n - i : Nat) : Int) ∧ IntBlk u1 w1.heap.size) := ⟨hy.out.1.grown hp.2.2 (by have := HLT.out; omega) hx.out.2, hy.out.2.grown hp.2.2 (by have := HLT.out; omega)⟩
      have HB3 : Hid (Below w.heap.size w u1) := rb_put hb.out hp.2.2 (Nat.le_refl _)
      clear hp
      go_wp2_with fail
      refine (sign_any w.heap.size 0 _ u1 P3.out.1).mono ?_
      rintro e u2 ⟨rfl, rfl⟩
      rw [hsg.out]
      by_cases h0 : fall n (i + 1) = 0
      · rw [if_pos h0]
        have HV : Hid (((fall n (i + 1) : Nat) : Int) = ((fall n m : Nat) : Int)) := by
          have h1 : n < m := by
            rcases Nat.lt_or_ge n m with h | h
            · exact h
            · exfalso
              have := HI.out
              have h2 := fall_pos (n := n) (k := i + 1) (by omega)
              omega
          unfold Hid; rw [h0, fall_zero h1]
        clear h0
        go_wp2_with fail
        go_ret
        exact ⟨w.heap.size, rfl, by rw [← HV.out]; exact P3.out.1, HB3.out⟩
      · rw [if_neg h0]
        have hin2 : Hid (i + 1 ≤ n ∧ (((n - i : Nat) : Int) - 1 = ((n - (i + 1) : Nat) : Int))) := by
          have h1 : i + 1 ≤ n := by
            rcases Nat.lt_or_ge n (i + 1) with h | h
            · exact absurd (fall_zero h) h0
            · exact h
          exact ⟨h1, by omega⟩
        clear h0
        go_wp2_with fail
        refine (HNI.out _).mono ?_
        rintro e u3 ⟨rfl, hp⟩
        have P4 := Lib.hid hp
        clear hp
        go_wp2_with fail
        refine (sub_any w1.heap.size w1.heap.size 0 u1.heap.size 0 _ 1 600 u3 (HY3.out.2.below P4.out.2.2.1) (HY3.out.1.below P4.out.2.2.1) P4.out.1 F2.out (fits_one64 (n := 1) (by decide)) (by decide)).mono ?_
        rintro e u4 ⟨rfl, hp⟩
        rw [hin2.out.2] at hp
        have P5 := Lib.hid hp
        clear hp
        go_wp2_with fail
        go_roundw
        case rel =>
          refine ⟨i + 1, by have := HI.out; omega, hin2.out.1, by rw [UK.out], ⟨?_, ?_⟩, ⟨P5.out.1, P5.out.2.1⟩, rb_put (rb_go HB3.out P4.out.2.2.1) P5.out.2.2 (by have := HLT.out; omega)⟩
          · exact (P3.out.1.below P4.out.2.2.1).grown P5.out.2.2 (by have := HLT.out; omega) (HY3.out.2.below P4.out.2.2.1)
          · exact (P3.out.2.1.below P4.out.2.2.1).grown P5.out.2.2 (by have := HLT.out; omega)
        case measure => rw [UK.out]; have := HI.out; simp [intOf]; omega
    · obtain rfl : i = m := by omega
      go_wp2_with fail
      go_ret
      exact ⟨w.heap.size, rfl, hx.out.1, hb.out⟩
end Go.Proofs.Ytaehehoeidnidaa
