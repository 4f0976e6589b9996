/- Numbers that fall: plain; nat.Falling, walked. No condition but the numbers' own size. -/
import Derived.Test.YtmibifmabkaakaaDoorNatG
import Derived.Test.YtmibifmabkaakaaDoorNatV
import Derived.Test.YtmibifmabkaakaaDoorSeq
namespace Go.Proofs.YtmibifmabkaakaaDoor
open Go.ChangeShapes Go.WideShapes Go.ChangeAt Go.RowKit
set_option linter.unusedVariables false

def fall (n : Nat) : Nat → Nat
  | 0 => 1
  | k + 1 => fall n k * (n - k)
theorem fall_zero {n k : Nat} (h : n < k) : fall n k = 0 := by
  induction k with
  | zero => omega
  | succ k ih =>
    rw [fall]
    by_cases e : n < k
    · rw [ih e, Nat.zero_mul]
    · rw [show n - k = 0 by omega, Nat.mul_zero]
theorem fall_pos {n k : Nat} (h : k ≤ n) : 0 < fall n k := by
  induction k with
  | zero => exact (by decide : 0 < 1)
  | succ k ih => rw [fall]; exact Nat.mul_pos (ih (by omega)) (by omega)
theorem fall_le (n k : Nat) : fall n k ≤ n ^ k := by
  induction k with
  | zero => exact Nat.le_refl _
  | succ k ih => rw [fall, Nat.pow_succ]; exact Nat.mul_le_mul ih (Nat.sub_le _ _)
theorem fall_mono {n k m : Nat} (h : k ≤ m) (hm : m ≤ n) : fall n k ≤ fall n m := by
  induction m with
  | zero => rw [show k = 0 by omega]; exact Nat.le_refl _
  | succ m ih =>
    by_cases e : k = m + 1
    · rw [e]; exact Nat.le_refl _
    · have h1 := ih (by omega) (by omega)
      have h2 : fall n m * 1 ≤ fall n m * (n - m) := Nat.mul_le_mul_left _ (by omega)
      rw [fall]; omega
theorem wd_len_of {n k : Nat} (h : (wd n).length ≤ k) : n < wB ^ k := by
  have h1 := nv_lt (wd_ok n)
  rw [nv_wd] at h1
  exact Nat.lt_of_lt_of_le h1 (Nat.pow_le_pow_right (by decide) h)
theorem fall_pow {n k N M : Nat} (hn : n ≤ N) (hk : k ≤ M) (h1 : 0 < N) : fall n k ≤ N ^ M :=
  Nat.le_trans (fall_le n k) (Nat.le_trans (Nat.pow_le_pow_left hn k) (Nat.pow_le_pow_right h1 hk))
theorem fall_small {n k N M : Nat} (hn : n ≤ N) (hk : k ≤ M) (h1 : 0 < N) (h : N ^ M < wB ^ 64) : (wd (fall n k)).length ≤ 64 :=
  wd_len (Nat.lt_of_le_of_lt (fall_pow hn hk h1) h)
theorem pow300 : 300 ^ 300 < wB ^ 64 := by decide +kernel
theorem fall_big {n k m : Nat} (hk : k ≤ m) (hm : m ≤ 300) (h : 64 < (wd (fall n k)).length) : 64 < (wd (fall n m)).length := by
  rcases Nat.lt_or_ge n m with h1 | h1
  · exfalso
    have h4 := fall_small (n := n) (k := k) (Nat.le_of_lt (Nat.lt_of_lt_of_le h1 hm)) (Nat.le_trans hk hm) (by decide) pow300
    omega
  · rcases Nat.lt_or_ge 64 (wd (fall n m)).length with h2 | h2
    · exact h2
    · have h3 := wd_len_of h2
      have h4 := wd_len (Nat.lt_of_le_of_lt (fall_mono hk h1) h3)
      omega
theorem fall_lt {n m M : Nat} (hn : n < wB) (hm : m ≤ M) (hM : 0 < M) : fall n m < wB ^ M := by
  by_cases e : m = 0
  · subst e
    exact Nat.lt_of_lt_of_le (show 1 < wB ^ 1 by decide) (Nat.pow_le_pow_right (by decide) hM)
  · exact Nat.lt_of_le_of_lt (fall_le n m) (Nat.lt_of_lt_of_le (Nat.pow_lt_pow_left hn e) (Nat.pow_le_pow_right (by decide) hm))
theorem nright_wd {n : Nat} (h : (wd n).length ≤ 64) : nright (wd n) := ⟨h, by
  by_cases e : (wd n).length = 0
  · exact .inl e
  · exact .inr (wd_norm n (by omega))⟩
theorem nfits_big {n : Nat} (h : 64 < (wd n).length) : nfits n = ([], 4) := by unfold nfits; rw [if_pos h]
theorem nfits_ok {n : Nat} (h : ¬ 64 < (wd n).length) : nfits n = (wd n, 0) := by unfold nfits; rw [if_neg h]
set_option maxRecDepth 20000 in
set_option maxHeartbeats 1000000 in
theorem falling_bad (n : Nat) (many : Int) (w : World) (h : many < 0 ∨ 300 < many) :
    Calls Tryd.prog 15 #[u64v n, .int .i64 many] w fun e w' => e = .returned (.tuple #[.slice none 0 0, .int .i64 2]) ∧ w' = w := by
  rcases (by omega : many < 0 ∨ (¬ many < 0 ∧ 300 < many)) with h1 | ⟨h0, h1⟩
  all_goals
    clear h
    go_enter Tryd.func15, Tryd.ntmps15
    go_wp2_with fail
    go_ret2
    exact ⟨rfl, rfl⟩
set_option maxRecDepth 20000 in
set_option maxHeartbeats 4000000 in
theorem falling_ok (n m : Nat) (w : World) (hn : n < wB) (hm : m ≤ 300) :
    Calls Tryd.prog 15 #[u64v n, .int .i64 m] w fun e w' => NOut w w' e (nfits (fall n m)).1 (nfits (fall n m)).2 := by
  have HN := Lib.hid (And.intro hn hm)
  have HO1 := Lib.hid (fun u => of_any 1 u (by decide))
  have HO := Lib.hid (fun (k : Nat) u => of_any (n - k) u (Nat.lt_of_le_of_lt (Nat.sub_le _ _) hn))
  have HM := Lib.hid (fun (A C : Option Addr) (x y c d : Nat) (u : World) (h1 : Seg u u.heap.size A (u64s (wd x))) (h2 : Seg u u.heap.size C (u64s (wd y))) (l1 : (wd x).length ≤ 64) (l2 : (wd y).length ≤ 64) => nmul_ok A C (wd x) (wd y) c d u h1 h2 (wd_ok x) (wd_ok y) (nright_wd l1) (nright_wd l2))
  simp only [nv_wd] at HM
  have i0 : ¬ (m : Int) < 0 := by omega
  have i1 : ¬ (300 : Int) < (m : Int) := by omega
  have hmc : IntKind.u64.wrap (m : Int) = (m : Int) := by simp [IntKind.wrap, IntKind.bits, IntKind.signed]; omega
  clear hn
  go_enter Tryd.func15, Tryd.ntmps15
  go_wp2_with fail
  refine (HO1.out _).mono ?_
  rintro e w1 ⟨A1, rfl, s1, b1⟩
  have S1 := Lib.hid s1
  have B1 := Lib.hid b1
  clear s1 b1
  go_wp2_with fail
  --LOOK1
  clear i0 i1 hmc
  go_loopw [6, 19] (fun s6 s19 wx => ∃ (k c : Nat) (A : Option Addr), k ≤ m ∧ s19 = u64v k ∧ s6 = .slice A (wd (fall n k)).length c ∧ Hid ((wd (fall n k)).length ≤ 64 ∧ (wd (fall n k)).length ≤ c ∧ Seg wx wx.heap.size A (u64s (wd (fall n k)))) ∧ Hid (Below w.heap.size w wx)) (fun _ s19 _ => m - (intOf s19).toNat)
  case atStart => exact ⟨0, _, A1, Nat.zero_le _, rfl, rfl, Lib.hid (And.intro (wd_len (k := 64) (show (1 : Nat) < wB ^ 64 by decide)) (And.intro (Nat.le_refl _) S1.out)), B1⟩
  case round =>
    obtain ⟨k, c, A, hk, rfl, rfl, hi, hb⟩ := hrel
    by_cases hlt : k < m
    · have i1 : (k : Int) < (m : Int) := by omega
      by_cases hkn : n < k
      · have i2 : (n : Int) < (k : Int) := by omega
        have hf : Hid (nfits (fall n m) = ([], 0)) := by
          unfold Hid; rw [fall_zero (show n < m by omega)]; unfold nfits; rw [wd_zero]; rfl
        go_wp2_with fail
        go_ret2
        rw [hf.out]
        exact NOut.nil_ hb.out
      · have i2 : ¬ (n : Int) < (k : Int) := by omega
        have i3 : IntKind.u64.wrap ((n : Int) - (k : Int)) = ((n - k : Nat) : Int) := by have : n < 18446744073709551616 := HN.out.1; simp [IntKind.wrap, IntKind.bits, IntKind.signed]; omega
        have i4 : IntKind.u64.wrap ((k : Int) + 1) = ((k + 1 : Nat) : Int) := by have := HN.out.2; simp [IntKind.wrap, IntKind.bits, IntKind.signed]; omega
        obtain ⟨d, hd⟩ : ∃ d, d = n - k := ⟨_, rfl⟩
        rw [← hd] at i3
        have HOk := HO.out k
        rw [← hd] at HOk
        have HOK := Lib.hid HOk
        have HD : Hid (fall n (k + 1) = fall n k * d) := by unfold Hid; rw [hd]; rfl
        have HDL : Hid ((wd d).length ≤ 64) := by
          have : (wd d).length ≤ 1 := wd_len (by rw [Nat.pow_one, hd]; exact Nat.lt_of_le_of_lt (Nat.sub_le _ _) HN.out.1)
          unfold Hid; omega
        have I4 := Lib.hid i4
        have HKK := Lib.hid (And.intro hk hlt)
        clear hd HOk hk hlt hkn
        go_wp2_with fail
        refine (HOK.out _).mono ?_
        rintro e u1 ⟨A2, rfl, s2, b2⟩
        have S2 := Lib.hid s2
        have SA := Lib.hid (Seg.on hi.out.2.2 b2)
        have HB2 : Hid (Below w.heap.size w u1) := hb.out.trans (b2.mono hb.out.size)
        clear s2 b2
        go_wp2_with fail
        refine (HM.out A A2 (fall n k) d c (wd d).length u1 SA.out S2.out hi.out.1 HDL.out).mono ?_
        rintro e u2 ⟨A3, c3, rfl, hc3, s3, b3⟩
        rw [← HD.out] at hc3 s3 ⊢
        have HB3 : Hid (Below w.heap.size w u2) := HB2.out.trans (b3.mono HB2.out.size)
        have S3 := Lib.hid (And.intro hc3 s3)
        clear hc3 s3 b3
        by_cases h64 : 64 < (wd (fall n (k + 1))).length
        · have hf : Hid (nfits (fall n m) = ([], 4)) := nfits_big (fall_big (by have := HKK.out.2; omega) HN.out.2 h64)
          rw [nfits_big h64]
          go_wp2_with fail
          go_ret2
          rw [hf.out]
          exact NOut.nil_ HB3.out
        · rw [nfits_ok h64]
          have HF := S3.out
          rw [nfits_ok h64] at HF
          have HFF := Lib.hid HF
          have H64 := Lib.hid h64
          clear h64 HF S3
          go_wp2_with fail
          go_roundw
          case rel => exact ⟨k + 1, c3, A3, by have := HKK.out.2; omega, by first | rfl | exact congrArg (Value.int .u64) I4.out, rfl, Lib.hid (And.intro (by have := H64.out; omega) HFF.out), HB3⟩
          case measure => (try rw [I4.out]); have := HKK.out.2; simp [intOf]; omega
    · obtain rfl : k = m := by omega
      have hf : Hid (nfits (fall n k) = (wd (fall n k), 0)) := nfits_ok (by have := hi.out.1; omega)
      go_wp2_with fail
      go_ret2
      rw [hf.out]
      exact ⟨A, c, rfl, hi.out.2.1, hi.out.2.2, hb.out⟩
end Go.Proofs.YtmibifmabkaakaaDoor
