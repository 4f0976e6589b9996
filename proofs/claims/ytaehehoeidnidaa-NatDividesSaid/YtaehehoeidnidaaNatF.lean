/- math/bits.Div64, walked. No condition but that the quotient is a word. -/
import Derived.Test.YtaehehoeidnidaaNatE
import Derived.Test.YtaehehoeidnidaaNatU
import Derived.Deep.CutBlock
import Derived.Deep.DeepCutAuto
namespace Go.Proofs.Ytaehehoeidnidaa
open Go.ChangeShapes Go.WideShapes Go.ChangeAt Go.RowKit
set_option linter.unusedVariables false

theorem quoN (a b : Nat) : Int.tdiv (a : Int) (b : Int) = ((a / b : Nat) : Int) := by
  rw [Int.tdiv_eq_ediv_of_nonneg (by omega)]; rfl
theorem remN (a b : Nat) : Int.tmod (a : Int) (b : Int) = ((a % b : Nat) : Int) := by
  rw [Int.tmod_eq_emod_of_nonneg (by omega)]; rfl
theorem shl64 (a s : Nat) (h : a * 2 ^ s < 18446744073709551616) : IntKind.u64.wrap ((a : Int) * 2 ^ s) = ((a * 2 ^ s : Nat) : Int) := by
  have e : (a : Int) * 2 ^ s = ((a * 2 ^ s : Nat) : Int) := by rw [Int.natCast_mul, Int.natCast_pow]; rfl
  rw [e]
  generalize a * 2 ^ s = z at *
  simp [IntKind.wrap, IntKind.bits, IntKind.signed]; omega
theorem shlm64 (a s : Nat) : IntKind.u64.wrap ((a : Int) * 2 ^ s) = ((a * 2 ^ s % 18446744073709551616 : Nat) : Int) := by
  have e : (a : Int) * 2 ^ s = ((a * 2 ^ s : Nat) : Int) := by rw [Int.natCast_mul, Int.natCast_pow]; rfl
  rw [e]
  generalize a * 2 ^ s = z at *
  simp [IntKind.wrap, IntKind.bits, IntKind.signed]
theorem shr64 (a s : Nat) : (a : Int) / 2 ^ s = ((a / 2 ^ s : Nat) : Int) := by
  have e : (2 : Int) ^ s = ((2 ^ s : Nat) : Int) := by rw [Int.natCast_pow]; rfl
  rw [e]; rfl
theorem and32 (a : Nat) (h : a < 18446744073709551616) : bits .and .u64 (a : Int) 4294967295 = ((a % 4294967296 : Nat) : Int) := by
  have h1 := bits_and_u64_nat a 4294967295 h (by decide)
  have e : a &&& 4294967295 = a % 4294967296 := Nat.and_two_pow_sub_one_eq_mod a 32
  rw [e] at h1
  exact h1
theorem or64 (a l s : Nat) (hl : l < 2 ^ s) (hb : a * 2 ^ s + l < 18446744073709551616) : bits .or .u64 ((a * 2 ^ s : Nat) : Int) (l : Int) = ((a * 2 ^ s + l : Nat) : Int) := by
  rw [bits_or_u64_nat (a * 2 ^ s) l (by omega) (by omega), Nat.mul_comm a, Nat.two_pow_add_eq_or_of_lt hl]
theorem add_64 {a b : Nat} (h : a + b < 18446744073709551616) : IntKind.u64.wrap ((a : Int) + (b : Int)) = ((a + b : Nat) : Int) := by
  simp [IntKind.wrap, IntKind.bits, IntKind.signed]; omega
theorem sub1_64 {a : Nat} (h0 : 0 < a) (h : a < 18446744073709551616) : IntKind.u64.wrap ((a : Int) - 1) = ((a - 1 : Nat) : Int) := by
  simp [IntKind.wrap, IntKind.bits, IntKind.signed]; omega
theorem mul_64 {a b : Nat} (h : a * b < 18446744073709551616) : IntKind.u64.wrap ((a : Int) * (b : Int)) = ((a * b : Nat) : Int) := by
  rw [← Int.natCast_mul]
  generalize a * b = z at *
  simp [IntKind.wrap, IntKind.bits, IntKind.signed]; omega
theorem rest64 (U V : Nat) (h : U < 18446744073709551616) : IntKind.u64.wrap ((U : Int) - IntKind.u64.wrap (((U / V : Nat) : Int) * (V : Int))) = ((U % V : Nat) : Int) := by
  have h1 := Nat.div_add_mod U V
  rw [Nat.mul_comm] at h1
  have h2 : U % V ≤ U := Nat.mod_le _ _
  rw [← Int.natCast_mul]
  generalize U / V * V = z at *
  generalize U % V = r at *
  simp [IntKind.wrap, IntKind.bits, IntKind.signed]; omega
theorem left64 (U u Y : Nat) (h : Y < 18446744073709551616) (e : 0 < Y) : IntKind.u64.wrap (IntKind.u64.wrap (IntKind.u64.wrap ((U : Int) * 4294967296) + (u : Int)) - IntKind.u64.wrap ((((U * 4294967296 + u) / Y : Nat) : Int) * (Y : Int))) = (((U * 4294967296 + u) % Y : Nat) : Int) := by
  · have h1 := Nat.div_add_mod (U * 4294967296 + u) Y
    rw [Nat.mul_comm] at h1
    have h2 := Nat.mod_lt (U * 4294967296 + u) e
    rw [← Int.natCast_mul]
    generalize (U * 4294967296 + u) / Y * Y = z at *
    generalize (U * 4294967296 + u) % Y = r at *
    simp [IntKind.wrap, IntKind.bits, IntKind.signed]; omega
theorem guess_lt {U u V1 V0 Y : Nat} (h : U < V1 * 4294967296 + V0) (hY : Y = V1 * 4294967296 + V0) (hu : u < 4294967296) : (U * 4294967296 + u) / Y < 4294967296 := by
  rw [Nat.div_lt_iff_lt_mul (by omega), hY]; omega
set_option maxRecDepth 20000 in
set_option maxHeartbeats 1000000 in
theorem div64_low (lo y : Nat) (w : World) (hy : 0 < y) (hl : lo < 18446744073709551616) :
    Calls Try.prog 138 #[u64v 0, u64v lo, u64v y] w fun e w' => e = .returned (.tuple #[u64v (lo / y), u64v (lo % y)]) ∧ ∃ m, w' = w.drewN m := by
  have i0 : ¬ (y : Int) = 0 := by omega
  have i1 : ¬ (y : Int) ≤ 0 := by omega
  have b0 : ((y : Int) == 0) = false := by simp; omega
  have q1 := quoN lo y
  have q2 := remN lo y
  have l1 := Nat.div_le_self lo y
  have l2 := Nat.mod_le lo y
  generalize lo / y = Q at *
  generalize lo % y = R at *
  have u1 : IntKind.u64.wrap (Q : Int) = (Q : Int) := by simp [IntKind.wrap, IntKind.bits, IntKind.signed]; omega
  have u2 : IntKind.u64.wrap (R : Int) = (R : Int) := by simp [IntKind.wrap, IntKind.bits, IntKind.signed]; omega
  clear l1 l2 hy hl
  go_enter Try.func138, Try.ntmps138
  go_wp2_with fail
  --LOOK1
  go_quiet (fail)
  go_wp2_with fail
  --LOOK1b
  go_ret2
  exact ⟨rfl, _, rfl⟩
set_option maxRecDepth 20000 in
set_option maxHeartbeats 4000000 in
theorem div64_high (hi lo y : Nat) (w : World) (h0 : 0 < hi) (hy : hi < y) (hyb : y < 18446744073709551616) (hl : lo < 18446744073709551616) :
    Calls Try.prog 138 #[u64v hi, u64v lo, u64v y] w fun e w' => e = .returned (.tuple #[u64v ((hi * 18446744073709551616 + lo) / y), u64v ((hi * 18446744073709551616 + lo) % y)]) ∧ ∃ m, w' = w.drewN m := by
  obtain ⟨hb1, hb2, hs1, hs2⟩ := shift_up (show 0 < y by omega) hyb
  obtain ⟨s, hs⟩ : ∃ s, s = 64 - Lib.bitLen y := ⟨_, rfl⟩
  have es : (64 : Int) - (Lib.bitLen y : Int) = (s : Int) := by omega
  rw [← hs] at hs1 hs2
  have hs63 : s ≤ 63 := by omega
  have HLZ := Lib.hid (fun u => lz64_any y hyb u)
  rw [es] at HLZ
  obtain ⟨d1, d2, d3, d4⟩ := div_parts hy hl hs63 hs1 hs2
  have i0 : ¬ (y : Int) = 0 := by omega
  have i1 : ¬ (y : Int) ≤ (hi : Int) := by omega
  have i2 : ¬ (hi : Int) = 0 := by omega
  have b0 : ((y : Int) == 0) = false := by simp; omega
  have b1 : ((hi : Int) == 0) = false := by simp; omega
  have i3 : (s : Int) < 64 := by omega
  have i4 : s < 64 := by omega
  have i5 : (0 : Int) ≤ (s : Int) := by omega
  have i6 : (64 : Int) - (s : Int) = ((64 - s : Nat) : Int) := by omega
  obtain ⟨P, hP⟩ : ∃ P, P = 2 ^ s := ⟨_, rfl⟩
  have hP0 : 0 < P := by rw [hP]; exact Nat.pow_pos (by decide)
  rw [← hP] at hs1 hs2 d1 d2 d3 d4
  obtain ⟨YN, hYN⟩ : ∃ Y, Y = y * P := ⟨_, rfl⟩
  rw [← hYN] at hs1 hs2 d3
  obtain ⟨H, hH⟩ : ∃ H, H = hi * P := ⟨_, rfl⟩
  rw [← hH] at d1 d3 d4
  obtain ⟨L, hL⟩ : ∃ L, L = lo / 2 ^ (64 - s) := ⟨_, rfl⟩
  rw [← hL] at d2 d3 d4
  obtain ⟨U, hU⟩ : ∃ U, U = H + L := ⟨_, rfl⟩
  rw [← hU] at d3 d4
  obtain ⟨T, hT⟩ : ∃ T, T = lo * P % 18446744073709551616 := ⟨_, rfl⟩
  rw [← hT] at d4
  obtain ⟨V1, hV1⟩ : ∃ V, V = YN / 4294967296 := ⟨_, rfl⟩
  obtain ⟨V0, hV0⟩ : ∃ V, V = YN % 4294967296 := ⟨_, rfl⟩
  obtain ⟨T1, hT1⟩ : ∃ V, V = T / 4294967296 := ⟨_, rfl⟩
  obtain ⟨T0, hT0⟩ : ∃ V, V = T % 4294967296 := ⟨_, rfl⟩
  have hTb : T < 18446744073709551616 := by rw [hT]; exact Nat.mod_lt _ (by decide)
  have f1 : IntKind.u64.wrap ((y : Int) * 2 ^ s) = (YN : Int) := by rw [hYN, hP]; exact shl64 y s (by rw [← hP, ← hYN]; exact hs2)
  have f2 : (YN : Int) / 4294967296 = (V1 : Int) := by rw [hV1]; rfl
  have f3 : bits .and .u64 (YN : Int) 4294967295 = (V0 : Int) := by rw [hV0]; exact and32 YN hs2
  have f4 : IntKind.u64.wrap ((hi : Int) * 2 ^ s) = (H : Int) := by rw [hH, hP]; exact shl64 hi s (by rw [← hP, ← hH]; exact d1)
  have f5 : (lo : Int) / 2 ^ (64 - s) = (L : Int) := by rw [hL]; exact shr64 lo (64 - s)
  have f6 : bits .or .u64 (H : Int) (L : Int) = (U : Int) := by rw [hU, hH, hP]; exact or64 hi L s (by rw [← hP]; exact d2) (by rw [← hP, ← hH]; omega)
  have f7 : IntKind.u64.wrap ((lo : Int) * 2 ^ s) = (T : Int) := by rw [hT, hP]; exact shlm64 lo s
  have f8 : (T : Int) / 4294967296 = (T1 : Int) := by rw [hT1]; rfl
  have f9 : bits .and .u64 (T : Int) 4294967295 = (T0 : Int) := by rw [hT0]; exact and32 T hTb
  have DC1 : Hid (DC U T1 V1 V0) := ⟨by omega, by omega, by omega, by omega, by omega⟩
  have HE := Lib.hid (fun q1 R1 q0 R0 => div_end (q1 := q1) (R1 := R1) (q0 := q0) (R0 := R0) hP0 hYN (by omega) d4)
  have HB := Lib.hid (And.intro hs2 (And.intro hV1 (And.intro hV0 (And.intro hT1 (And.intro hT0 hP)))))
  have v1n : ¬ (V1 : Int) = 0 := by omega
  have f10 := quoN U V1
  obtain ⟨Q, hQ⟩ : ∃ Q, Q = U / V1 := ⟨_, rfl⟩
  rw [← hQ] at f10
  have hQb : Q < 18446744073709551616 := by rw [hQ]; have := Nat.div_le_self U V1; omega
  have f11 : IntKind.u64.wrap (Q : Int) = (Q : Int) := by simp [IntKind.wrap, IntKind.bits, IntKind.signed]; omega
  have f12 : IntKind.u64.wrap ((U : Int) - IntKind.u64.wrap ((Q : Int) * (V1 : Int))) = ((U % V1 : Nat) : Int) := by rw [hQ]; exact rest64 U V1 (by omega)
  obtain ⟨R, hR⟩ : ∃ R, R = U % V1 := ⟨_, rfl⟩
  rw [← hR] at f12
  have HQR := Lib.hid (And.intro hQ hR)
  have DG1 : Hid (DG U T1 V1 V0 Q R) := by rw [hQ, hR]; exact DC1.out.first
  have DG1R : Hid (R < 4294967296) := by rw [hR]; have := Nat.mod_lt U (show 0 < V1 by omega); have := DC1.out.v1b; unfold Hid; omega
  clear hs es hb1 hb2 hs1 hs2 hs63 d1 d2 d3 d4 hy hyb hl h0 hP hP0 hYN hH hL hU hT hV1 hV0 hT1 hT0 hTb hQ hR hQb
  --LOOK0
  go_enter Try.func138, Try.ntmps138
  go_wp2_with fail
  refine (HLZ.out _).mono ?_
  rintro e w1 ⟨rfl, rfl⟩
  go_upto_block 0 with fail
  clear f1 f2 f3 f4 f5 f6 f7 f8 f9 f10 f11 f12 i0 i1 i2 b0 b1
  go_cut [15] (fun s15 wx => s15 = .int .u64 (((U * 4294967296 + T1) / (V1 * 4294967296 + V0) : Nat) : Int) ∧ wx = w1)
  case first =>
    go_wp2_with fail
    go_loopw [15, 16] (fun s15 s16 wr => ∃ q r : Nat, s15 = .int .u64 q ∧ s16 = .int .u64 r ∧ wr = w1 ∧ Hid (DG U T1 V1 V0 q r) ∧ r < 4294967296) (fun _ s16 _ => 8589934592 - (intOf s16).toNat)
    case atStart => exact ⟨Q, R, rfl, rfl, rfl, DG1, DG1R.out⟩
    case round =>
      obtain ⟨q, r, rfl, rfl, rfl, hg, hr⟩ := hrel
      have hqs := hg.out.q_lt DC1.out
      have b2 := DC1.out.ub
      have bv0 := DC1.out.v0b
      have bv1 := DC1.out.v1b
      have bt := DC1.out.top
      by_cases ha : 4294967296 ≤ q
      · obtain ⟨hq0, hgi⟩ := hg.out.step DC1.out hr (.inl ha)
        have HGI := Lib.hid hgi
        have c1 : (4294967296 : Int) ≤ (q : Int) := by omega
        have c1b : decide ((4294967296 : Int) ≤ (q : Int)) = true := decide_eq_true c1
        have g1 : IntKind.u64.wrap ((q : Int) - 1) = ((q - 1 : Nat) : Int) := sub1_64 hq0 (by omega)
        have g2 : IntKind.u64.wrap ((r : Int) + (V1 : Int)) = ((r + V1 : Nat) : Int) := add_64 (by omega)
        obtain ⟨q2, hq2⟩ : ∃ z, z = q - 1 := ⟨_, rfl⟩
        obtain ⟨r2, hr2⟩ : ∃ z, z = r + V1 := ⟨_, rfl⟩
        rw [← hq2] at g1 HGI
        rw [← hr2] at g2 HGI
        have HQ2 := Lib.hid (And.intro hq2 (And.intro hr2 bt))
        clear hgi hq2 hr2 hqs b2 bv0 bv1 bt hq0 ha hg
        by_cases hbr : 4294967296 ≤ r2
        · have c2 : (4294967296 : Int) ≤ (r2 : Int) := by omega
          have HBR := Lib.hid (HGI.out.broke DC1.out hbr)
          clear hbr hr
          go_wp2_with fail
          go_meet
          exact ⟨by rw [← HBR.out], rfl⟩
        · have c2 : ¬ (4294967296 : Int) ≤ (r2 : Int) := by omega
          have HBR := Lib.hid (Nat.lt_of_not_le hbr)
          have HR := Lib.hid hr
          clear hbr hr
          go_wp2_with fail
          go_roundw
          case rel => exact ⟨q2, r2, rfl, rfl, by first | rfl | trivial, HGI, HBR.out⟩
          case measure => have := HQ2.out; have := HBR.out; have := HR.out; simp [intOf]; omega
      · have c1 : ¬ (4294967296 : Int) ≤ (q : Int) := by omega
        have c1b : decide ((4294967296 : Int) ≤ (q : Int)) = false := decide_eq_false c1
        have m0 : q * V0 < 18446744073709551616 := by
          have : q * V0 ≤ 4294967295 * 4294967295 := Nat.mul_le_mul (by omega) (by omega)
          omega
        have g3 : IntKind.u64.wrap ((q : Int) * (V0 : Int)) = ((q * V0 : Nat) : Int) := mul_64 m0
        have g4 : IntKind.u64.wrap (4294967296 * (r : Int)) = ((r * 4294967296 : Nat) : Int) := by rw [Int.mul_comm]; exact mul_64 (b := 4294967296) (by omega)
        have g5 : IntKind.u64.wrap (((r * 4294967296 : Nat) : Int) + (T1 : Int)) = ((r * 4294967296 + T1 : Nat) : Int) := add_64 (by omega)
        obtain ⟨X, hX⟩ : ∃ z, z = q * V0 := ⟨_, rfl⟩
        obtain ⟨Y, hY⟩ : ∃ z, z = r * 4294967296 := ⟨_, rfl⟩
        obtain ⟨Z, hZ⟩ : ∃ z, z = r * 4294967296 + T1 := ⟨_, rfl⟩
        rw [← hX] at g3
        rw [← hZ, ← hY] at g5
        rw [← hY] at g4
        by_cases hc : Z < X
        · obtain ⟨hq0, hgi⟩ := hg.out.step DC1.out hr (.inr (by rw [← hX, ← hZ]; exact hc))
          have HGI := Lib.hid hgi
          have c3 : (Z : Int) < (X : Int) := by omega
          have g1 : IntKind.u64.wrap ((q : Int) - 1) = ((q - 1 : Nat) : Int) := sub1_64 hq0 (by omega)
          have g2 : IntKind.u64.wrap ((r : Int) + (V1 : Int)) = ((r + V1 : Nat) : Int) := add_64 (by omega)
          obtain ⟨q2, hq2⟩ : ∃ z, z = q - 1 := ⟨_, rfl⟩
          obtain ⟨r2, hr2⟩ : ∃ z, z = r + V1 := ⟨_, rfl⟩
          rw [← hq2] at g1 HGI
          rw [← hr2] at g2 HGI
          have HQ2 := Lib.hid (And.intro hq2 (And.intro hr2 bt))
          clear hgi hq2 hr2 hqs b2 bv0 bv1 bt hq0 ha hg hX hY hZ m0
          by_cases hbr : 4294967296 ≤ r2
          · have c2 : (4294967296 : Int) ≤ (r2 : Int) := by omega
            have HBR := Lib.hid (HGI.out.broke DC1.out hbr)
            clear hbr hr
            go_wp2_with fail
            go_meet
            exact ⟨by rw [← HBR.out], rfl⟩
          · have c2 : ¬ (4294967296 : Int) ≤ (r2 : Int) := by omega
            have HBR := Lib.hid (Nat.lt_of_not_le hbr)
            have HR := Lib.hid hr
            clear hbr hr
            go_wp2_with fail
            go_roundw
            case rel => exact ⟨q2, r2, rfl, rfl, by first | rfl | trivial, HGI, HBR.out⟩
            case measure => have := HQ2.out; have := HBR.out; have := HR.out; simp [intOf]; omega
        · have c3 : ¬ (Z : Int) < (X : Int) := by omega
          have HLS := Lib.hid (hg.out.last DC1.out (by omega) (by rw [← hX, ← hZ]; omega))
          clear hqs b2 bv0 bv1 bt ha hg hX hY hZ m0
          go_wp2_with fail
          go_meet
          exact ⟨by rw [← HLS.out], rfl⟩
  case rest =>
    obtain ⟨rfl, rfl⟩ := hcut
    obtain ⟨q1, hq1⟩ : ∃ z, z = (U * 4294967296 + T1) / (V1 * 4294967296 + V0) := ⟨_, rfl⟩
    obtain ⟨R1, hR1⟩ : ∃ z, z = (U * 4294967296 + T1) % (V1 * 4294967296 + V0) := ⟨_, rfl⟩
    have eyn : V1 * 4294967296 + V0 = YN := by have := HB.out; omega
    rw [← hq1]
    rw [eyn] at hq1 hR1
    have hyn0 : 0 < YN := by have := DC1.out.top; omega
    have hR1b : R1 < YN := by rw [hR1]; exact Nat.mod_lt _ hyn0
    have f20 : IntKind.u64.wrap (IntKind.u64.wrap (IntKind.u64.wrap ((U : Int) * 4294967296) + (T1 : Int)) - IntKind.u64.wrap ((q1 : Int) * (YN : Int))) = (R1 : Int) := by rw [hq1, hR1]; exact left64 U T1 YN HB.out.1 hyn0
    have f21 := quoN R1 V1
    obtain ⟨Q2, hQ2⟩ : ∃ z, z = R1 / V1 := ⟨_, rfl⟩
    rw [← hQ2] at f21
    have hQ2b : Q2 < 18446744073709551616 := by rw [hQ2]; have := Nat.div_le_self R1 V1; have := HB.out.1; omega
    have f22 : IntKind.u64.wrap (Q2 : Int) = (Q2 : Int) := by simp [IntKind.wrap, IntKind.bits, IntKind.signed]; omega
    have f23 : IntKind.u64.wrap ((R1 : Int) - IntKind.u64.wrap ((Q2 : Int) * (V1 : Int))) = ((R1 % V1 : Nat) : Int) := by rw [hQ2]; exact rest64 R1 V1 (by have := HB.out.1; omega)
    have DC2 : Hid (DC R1 T0 V1 V0) := ⟨by have := HB.out; omega, DC1.out.v0b, DC1.out.v1b, DC1.out.top, by rw [eyn]; exact hR1b⟩
    obtain ⟨R2, hR2⟩ : ∃ z, z = R1 % V1 := ⟨_, rfl⟩
    rw [← hR2] at f23
    have DG2 : Hid (DG R1 T0 V1 V0 Q2 R2) := by rw [hQ2, hR2]; exact DC2.out.first
    have DG2R : Hid (R2 < 4294967296) := by rw [hR2]; have := Nat.mod_lt R1 (show 0 < V1 by have := DC1.out.top; omega); have := DC1.out.v1b; unfold Hid; omega
    have HQ1 := Lib.hid (And.intro hq1 (And.intro hR1 (And.intro hR1b eyn)))
    clear hq1 hR1 eyn hyn0 hR1b hQ2 hQ2b hR2
    go_upto_block 2 with fail
    clear f20 f21 f22 f23
    go_cut [18] (fun s18 wx => s18 = .int .u64 (((R1 * 4294967296 + T0) / (V1 * 4294967296 + V0) : Nat) : Int) ∧ wx = wc)
    case first =>
      go_wp2_with fail
      go_loopw [18, 16] (fun s18 s16 wr => ∃ q r : Nat, s18 = .int .u64 q ∧ s16 = .int .u64 r ∧ wr = wc ∧ Hid (DG R1 T0 V1 V0 q r) ∧ r < 4294967296) (fun _ s16 _ => 8589934592 - (intOf s16).toNat)
      case atStart => exact ⟨Q2, R2, rfl, rfl, rfl, DG2, DG2R.out⟩
      case round =>
        obtain ⟨q, r, rfl, rfl, rfl, hg, hr⟩ := hrel
        have hqs := hg.out.q_lt DC2.out
        have b2 := DC2.out.ub
        have bv0 := DC2.out.v0b
        have bv1 := DC2.out.v1b
        have bt := DC2.out.top
        by_cases ha : 4294967296 ≤ q
        · obtain ⟨hq0, hgi⟩ := hg.out.step DC2.out hr (.inl ha)
          have HGI := Lib.hid hgi
          have c1 : (4294967296 : Int) ≤ (q : Int) := by omega
          have c1b : decide ((4294967296 : Int) ≤ (q : Int)) = true := decide_eq_true c1
          have g1 : IntKind.u64.wrap ((q : Int) - 1) = ((q - 1 : Nat) : Int) := sub1_64 hq0 (by omega)
          have g2 : IntKind.u64.wrap ((r : Int) + (V1 : Int)) = ((r + V1 : Nat) : Int) := add_64 (by omega)
          obtain ⟨q2, hq2⟩ : ∃ z, z = q - 1 := ⟨_, rfl⟩
          obtain ⟨r2, hr2⟩ : ∃ z, z = r + V1 := ⟨_, rfl⟩
          rw [← hq2] at g1 HGI
          rw [← hr2] at g2 HGI
          have HQ2 := Lib.hid (And.intro hq2 (And.intro hr2 bt))
          clear hgi hq2 hr2 hqs b2 bv0 bv1 bt hq0 ha hg
          by_cases hbr : 4294967296 ≤ r2
          · have c2 : (4294967296 : Int) ≤ (r2 : Int) := by omega
            have HBR := Lib.hid (HGI.out.broke DC2.out hbr)
            clear hbr hr
            go_wp2_with fail
            go_meet
            exact ⟨by rw [← HBR.out], rfl⟩
          · have c2 : ¬ (4294967296 : Int) ≤ (r2 : Int) := by omega
            have HBR := Lib.hid (Nat.lt_of_not_le hbr)
            have HR := Lib.hid hr
            clear hbr hr
            go_wp2_with fail
            go_roundw
            case rel => exact ⟨q2, r2, rfl, rfl, by first | rfl | trivial, HGI, HBR.out⟩
            case measure => have := HQ2.out; have := HBR.out; have := HR.out; simp [intOf]; omega
        · have c1 : ¬ (4294967296 : Int) ≤ (q : Int) := by omega
          have c1b : decide ((4294967296 : Int) ≤ (q : Int)) = false := decide_eq_false c1
          have m0 : q * V0 < 18446744073709551616 := by
            have : q * V0 ≤ 4294967295 * 4294967295 := Nat.mul_le_mul (by omega) (by omega)
            omega
          have g3 : IntKind.u64.wrap ((q : Int) * (V0 : Int)) = ((q * V0 : Nat) : Int) := mul_64 m0
          have g4 : IntKind.u64.wrap (4294967296 * (r : Int)) = ((r * 4294967296 : Nat) : Int) := by rw [Int.mul_comm]; exact mul_64 (b := 4294967296) (by omega)
          have g5 : IntKind.u64.wrap (((r * 4294967296 : Nat) : Int) + (T0 : Int)) = ((r * 4294967296 + T0 : Nat) : Int) := add_64 (by omega)
          obtain ⟨X, hX⟩ : ∃ z, z = q * V0 := ⟨_, rfl⟩
          obtain ⟨Y, hY⟩ : ∃ z, z = r * 4294967296 := ⟨_, rfl⟩
          obtain ⟨Z, hZ⟩ : ∃ z, z = r * 4294967296 + T0 := ⟨_, rfl⟩
          rw [← hX] at g3
          rw [← hZ, ← hY] at g5
          rw [← hY] at g4
          by_cases hc : Z < X
          · obtain ⟨hq0, hgi⟩ := hg.out.step DC2.out hr (.inr (by rw [← hX, ← hZ]; exact hc))
            have HGI := Lib.hid hgi
            have c3 : (Z : Int) < (X : Int) := by omega
            have g1 : IntKind.u64.wrap ((q : Int) - 1) = ((q - 1 : Nat) : Int) := sub1_64 hq0 (by omega)
            have g2 : IntKind.u64.wrap ((r : Int) + (V1 : Int)) = ((r + V1 : Nat) : Int) := add_64 (by omega)
            obtain ⟨q2, hq2⟩ : ∃ z, z = q - 1 := ⟨_, rfl⟩
            obtain ⟨r2, hr2⟩ : ∃ z, z = r + V1 := ⟨_, rfl⟩
            rw [← hq2] at g1 HGI
            rw [← hr2] at g2 HGI
            have HQ2 := Lib.hid (And.intro hq2 (And.intro hr2 bt))
            clear hgi hq2 hr2 hqs b2 bv0 bv1 bt hq0 ha hg hX hY hZ m0
            by_cases hbr : 4294967296 ≤ r2
            · have c2 : (4294967296 : Int) ≤ (r2 : Int) := by omega
              have HBR := Lib.hid (HGI.out.broke DC2.out hbr)
              clear hbr hr
              go_wp2_with fail
              go_meet
              exact ⟨by rw [← HBR.out], rfl⟩
            · have c2 : ¬ (4294967296 : Int) ≤ (r2 : Int) := by omega
              have HBR := Lib.hid (Nat.lt_of_not_le hbr)
              have HR := Lib.hid hr
              clear hbr hr
              go_wp2_with fail
              go_roundw
              case rel => exact ⟨q2, r2, rfl, rfl, by first | rfl | trivial, HGI, HBR.out⟩
              case measure => have := HQ2.out; have := HBR.out; have := HR.out; simp [intOf]; omega
          · have c3 : ¬ (Z : Int) < (X : Int) := by omega
            have HLS := Lib.hid (hg.out.last DC2.out (by omega) (by rw [← hX, ← hZ]; omega))
            clear hqs b2 bv0 bv1 bt ha hg hX hY hZ m0
            go_wp2_with fail
            go_meet
            exact ⟨by rw [← HLS.out], rfl⟩
    case rest =>
      obtain ⟨rfl, rfl⟩ := hcut
      obtain ⟨q0, hq0⟩ : ∃ z, z = (R1 * 4294967296 + T0) / (V1 * 4294967296 + V0) := ⟨_, rfl⟩
      obtain ⟨R0, hR0⟩ : ∃ z, z = (R1 * 4294967296 + T0) % (V1 * 4294967296 + V0) := ⟨_, rfl⟩
      rw [← hq0]
      rw [HQ1.out.2.2.2] at hq0 hR0
      have f30 : IntKind.u64.wrap (IntKind.u64.wrap (IntKind.u64.wrap ((R1 : Int) * 4294967296) + (T0 : Int)) - IntKind.u64.wrap ((q0 : Int) * (YN : Int))) = (R0 : Int) := by rw [hq0, hR0]; exact left64 R1 T0 YN HB.out.1 (by have := HQ1.out; omega)
      have hfin := HE.out q1 R1 q0 R0 (by rw [HQ1.out.1, HB.out.2.2.2.1]) (by rw [HQ1.out.2.1, HB.out.2.2.2.1]) (by rw [hq0, HB.out.2.2.2.2.1]) (by rw [hR0, HB.out.2.2.2.2.1])
      rw [HB.out.2.2.2.2.2] at hfin
      have hq1b : q1 < 4294967296 := by rw [HQ1.out.1]; exact guess_lt DC1.out.lt (by have := HB.out; omega) DC1.out.ub
      have hq0b : q0 < 4294967296 := by rw [hq0]; exact guess_lt DC2.out.lt (by have := HB.out; omega) DC2.out.ub
      have f31 : IntKind.u64.wrap (IntKind.u64.wrap ((q1 : Int) * 4294967296) + (q0 : Int)) = (((hi * 18446744073709551616 + lo) / y : Nat) : Int) := by
        rw [← hfin.1]; simp [IntKind.wrap, IntKind.bits, IntKind.signed]; omega
      have f32 : (R0 : Int) / 2 ^ s = (((hi * 18446744073709551616 + lo) % y : Nat) : Int) := by rw [← hfin.2]; exact shr64 R0 s
      clear hfin hq0 hR0 hq1b hq0b
      obtain ⟨A, hA⟩ : ∃ z, z = (hi * 18446744073709551616 + lo) / y := ⟨_, rfl⟩
      obtain ⟨B, hB⟩ : ∃ z, z = (hi * 18446744073709551616 + lo) % y := ⟨_, rfl⟩
      rw [← hA] at f31
      rw [← hB] at f32
      have HAB := Lib.hid (And.intro hA hB)
      clear hA hB
      --LOOK9
      go_wp2_with fail
      go_ret2
      exact ⟨by rw [← HAB.out.1, ← HAB.out.2]; rfl, 0, rfl⟩
end Go.Proofs.Ytaehehoeidnidaa
