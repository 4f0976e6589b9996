/- The law on Right, Of, Cmp, Add, Sub and Mul, walked. No condition but that the words are words. -/
import Derived.Test.YtaehehoeidnidaaNatZ
import Derived.Test.YtaehehoeidnidaaBigY
namespace Go.Proofs.Ytaehehoeidnidaa
open Go.ChangeShapes Go.WideShapes Go.ChangeAt Go.RowKit
set_option linter.unusedVariables false

theorem nfits_small {n : Nat} (h : (wd n).length ≤ 64) : nfits n = (wd n, 0) := by unfold nfits; rw [if_neg (by omega)]
theorem wd_len1 {n : Nat} (h : n < wB) : (wd n).length ≤ 1 := wd_len (by rw [Nat.pow_one]; exact h)
/-- same(nat.Of(n), OK, ..): the steps that all ways share. -/
theorem same_of {A : Option Addr} {n c gx : Nat} {w : World} (hn : n < wB) (hs : Seg w w.heap.size A (u64s (wd n))) (hx : IntZ w gx 0 n) :
    Calls Try.prog 49 #[.slice A (wd n).length c, .int .i64 0, .pointer (some ⟨gx, 0, none⟩)] w fun e w' => e = .returned (.bool true) ∧ Below w.heap.size w w' := by
  have h1 := wd_len1 hn
  have h2 := nfits_small (n := n) (by omega)
  exact same_true A (wd n) c gx 0 0 n w hs hx (by rw [Int.toNat_natCast]; omega) (by rw [Int.toNat_natCast, h2]) (by rw [Int.toNat_natCast, h2])
set_option maxRecDepth 20000 in
set_option maxHeartbeats 4000000 in
theorem nat_bad (A C : Option Addr) (a b : List Nat) (c d n : Nat) (w : World) (hs : Seg w w.heap.size A (u64s a)) (ht : Seg w w.heap.size C (u64s b)) (hn : n < wB) (h : ¬ (nright a ∧ nright b)) :
    Calls Try.prog 6 #[.slice A a.length c, .slice C b.length d, u64v n] w fun e w' => e = .returned (.bool true) ∧ Below w.heap.size w w' := by
  have HS := Lib.hid hs
  have HT := Lib.hid ht
  have HC := Lib.hid (ncmp_bad A C a b c d w.heap.size w hs ht h)
  have HAd := Lib.hid (nadd_bad A C a b c d w.heap.size w hs ht h)
  have HSu := Lib.hid (nsub_bad A C a b c d w.heap.size w hs ht h)
  have HMu := Lib.hid (nmul_bad A C a b c d w.heap.size w hs ht h)
  have HR := Lib.hid (nright_any A a c w.heap.size w hs)
  have HAR := Lib.hid (aright_any A a c w.heap.size w hs)
  have HAR2 := Lib.hid (fun u (hb : Below w.heap.size w u) => aright_any A a c w.heap.size u (hs.below hb))
  have HBR2 := Lib.hid (fun u (hb : Below w.heap.size w u) => aright_any C b d w.heap.size u (ht.below hb))
  have HN := Lib.hid hn
  have HO := Lib.hid (of_any n w hn)
  have hcase : (decide (nright a) = false) ∨ (decide (nright a) = true ∧ decide (nright b) = false) := by
    by_cases ra : nright a
    · exact .inr ⟨decide_eq_true ra, decide_eq_false fun rb => h ⟨ra, rb⟩⟩
    · exact .inl (decide_eq_false ra)
  clear hs ht h hn
  go_enter Try.func6, Try.ntmps6
  go_wp2_with fail
  refine HC.out.mono ?_
  rintro e w1 ⟨rfl, rfl⟩
  go_wp2_with fail
  refine HAd.out.mono ?_
  rintro e w2 ⟨rfl, rfl⟩
  go_wp2_with fail
  refine HSu.out.mono ?_
  rintro e w3 ⟨rfl, rfl⟩
  go_wp2_with fail
  refine HMu.out.mono ?_
  rintro e w4 ⟨rfl, rfl⟩
  go_wp2_with fail
  refine HR.out.mono ?_
  rintro e w5 ⟨rfl, rfl⟩
  go_wp2_with fail
  refine HAR.out.mono ?_
  rintro e w6 ⟨rfl, rfl⟩
  obtain ⟨rb, hrb⟩ : ∃ rb, rb = decide (nright a) := ⟨_, rfl⟩
  rw [← hrb]
  go_wp2_with fail
  --LOOK1
  refine HO.out.mono ?_
  rintro e w7 ⟨A7, rfl, s7, b7⟩
  have H7 := Lib.hid (And.intro s7 b7)
  clear s7 b7
  go_wp2_with fail
  refine (setU_any w7.heap.size n _ (newBlk _ _ _) HN.out).mono ?_
  rintro e w8 ⟨rfl, hp⟩
  have P8 := Lib.hid hp.new
  clear hp
  go_wp2_with fail
  refine (same_of HN.out (H7.out.1.on P8.out.2.2.1) P8.out.1).mono ?_
  rintro e w9 ⟨rfl, hb9⟩
  have HB9 : Hid (Below w6.heap.size w6 w9) := rb_go (rb_go H7.out.2 P8.out.2.2.1) hb9
  clear hb9
  go_wp2_with fail
  refine (HAR2.out _ HB9.out).mono ?_
  rintro e w10 ⟨rfl, rfl⟩
  rw [← hrb]
  rcases hcase with h | ⟨h, h2⟩
  · rw [← hrb] at h
    subst h
    clear hrb
    go_wp2_with fail
    go_ret
    exact ⟨rfl, HB9.out⟩
  · rw [← hrb] at h
    subst h
    clear hrb
    have H2 := Lib.hid h2
    clear h2
    go_wp2_with fail
    refine (HBR2.out _ HB9.out).mono ?_
    rintro e w11 ⟨rfl, rfl⟩
    rw [H2.out]
    go_wp2_with fail
    go_ret
    exact ⟨rfl, HB9.out⟩
/-! ### both right -/
theorem cmpZ_ncmp (a b : Nat) : cmpZ a b = ncmp a b := by
  unfold cmpZ ncmp
  by_cases h : a < b
  · rw [if_pos h, if_pos (by omega)]
  · rw [if_neg h, if_neg (by omega)]
    by_cases h2 : b < a
    · rw [if_pos h2, if_pos (by omega)]
    · rw [if_neg h2, if_neg (by omega)]
theorem int_add (a b : Nat) : ((a : Int) + (b : Int)).toNat = a + b := by omega
theorem int_mul (a b : Nat) : ((a : Int) * (b : Int)).toNat = a * b := by rw [← Int.natCast_mul]; rfl
theorem nv_lt64 {a : List Nat} (k : wok a) (h : a.length ≤ 64) : nv a < wB ^ 64 := Nat.lt_of_lt_of_le (nv_lt k) (Nat.pow_le_pow_right (by decide) h)
theorem len_sum {a b : List Nat} (ka : wok a) (kb : wok b) (la : a.length ≤ 64) (lb : b.length ≤ 64) : (wd (nv a + nv b)).length ≤ 1000 := by
  have h1 := nv_lt64 ka la
  have h2 := nv_lt64 kb lb
  have h3 : (wd (nv a + nv b)).length ≤ 65 := wd_len (by rw [wp_succ' 64]; omega)
  omega
theorem len_mul {a b : List Nat} (ka : wok a) (kb : wok b) (la : a.length ≤ 64) (lb : b.length ≤ 64) : (wd (nv a * nv b)).length ≤ 1000 := by
  have h1 := nv_lt64 ka la
  have h2 := nv_lt64 kb lb
  have h3 : (wd (nv a * nv b)).length ≤ 128 := wd_len (by
    rw [show (128 : Nat) = 64 + 64 from rfl, Nat.pow_add]
    exact Nat.mul_lt_mul'' h1 h2)
  omega
theorem len_sub {a : List Nat} (ka : wok a) (la : a.length ≤ 64) {n : Nat} : (wd (nv a - n)).length ≤ 64 := wd_len (by have := nv_lt64 ka la; omega)
set_option maxRecDepth 20000 in
set_option maxHeartbeats 4000000 in
theorem nat_less (A C : Option Addr) (a b : List Nat) (c d n : Nat) (w : World) (hs : Seg w w.heap.size A (u64s a)) (ht : Seg w w.heap.size C (u64s b)) (hn : n < wB) (ka : wok a) (kb : wok b) (ra : nright a) (rb : nright b) (hlt : nv a < nv b) :
    Calls Try.prog 6 #[.slice A a.length c, .slice C b.length d, u64v n] w fun e w' => e = .returned (.bool true) ∧ Below w.heap.size w w' := by
  have HS := Lib.hid hs
  have HT := Lib.hid ht
  have HB := Lib.hid (Below.refl w.heap.size w)
  have HC := Lib.hid (fun u (h1 : Seg u u.heap.size A (u64s a)) (h2 : Seg u u.heap.size C (u64s b)) => ncmp_ok A C a b c d u.heap.size u h1 h2 ka kb ra rb)
  have HAd := Lib.hid (fun u (h1 : Seg u u.heap.size A (u64s a)) (h2 : Seg u u.heap.size C (u64s b)) => nadd_ok A C a b c d 0 u h1 h2 ka kb ra rb)
  have HMu := Lib.hid (fun u (h1 : Seg u u.heap.size A (u64s a)) (h2 : Seg u u.heap.size C (u64s b)) => nmul_ok A C a b c d u h1 h2 ka kb ra rb)
  have HSu := Lib.hid (fun u (h1 : Seg u u.heap.size A (u64s a)) (h2 : Seg u u.heap.size C (u64s b)) => nsub_less A C a b c d u.heap.size u h1 h2 ka kb ra rb hlt)
  have HRa := Lib.hid (fun u (h1 : Seg u u.heap.size A (u64s a)) => nright_any A a c u.heap.size u h1)
  have HAa := Lib.hid (fun u (h1 : Seg u u.heap.size A (u64s a)) => aright_any A a c u.heap.size u h1)
  have HAb := Lib.hid (fun u (h1 : Seg u u.heap.size C (u64s b)) => aright_any C b d u.heap.size u h1)
  rw [decide_eq_true ra] at HRa HAa
  rw [decide_eq_true rb] at HAb
  have HGa := Lib.hid (fun u (h1 : Seg u u.heap.size A (u64s a)) => abig_any A a c u h1 ka ra.1)
  have HGb := Lib.hid (fun u (h1 : Seg u u.heap.size C (u64s b)) => abig_any C b d u h1 kb rb.1)
  have HN := Lib.hid hn
  have HO := Lib.hid (fun u => of_any n u hn)
  have FA := Lib.hid (fits_nv ka ra.1)
  have FB := Lib.hid (fits_nv kb rb.1)
  have hcm : Hid (cmpZ (nv a) (nv b) = ncmp (nv a) (nv b)) := cmpZ_ncmp _ _
  have HLs := Lib.hid (len_sum ka kb ra.1 rb.1)
  have HLp := Lib.hid (len_mul ka kb ra.1 rb.1)
  have hz : ncmp (nv a) (nv b) < 0 := by unfold ncmp; rw [if_pos hlt]; decide
  generalize hzz : ncmp (nv a) (nv b) = z at *
  have HZZ := Lib.hid hzz
  generalize hs3 : (nfits (nv a + nv b)).1 = l3 at *
  generalize hs3b : (nfits (nv a + nv b)).2 = e3 at *
  generalize hs5 : (nfits (nv a * nv b)).1 = l5 at *
  generalize hs5b : (nfits (nv a * nv b)).2 = e5 at *
  have HV3 := Lib.hid (And.intro hs3 hs3b)
  have HV5 := Lib.hid (And.intro hs5 hs5b)
  clear hs ht hn ka kb ra rb hlt hs3 hs3b hs5 hs5b hzz
  go_enter Try.func6, Try.ntmps6
  go_wp2_with fail
  refine (HC.out _ HS.out HT.out).mono ?_
  rintro e u1 ⟨rfl, m1, rfl⟩
  have hb := Lib.hid (below_drewN (Below.refl (w).heap.size (w)) m1)
  have HB := Lib.hid (rb_go HB.out hb.out)
  have HS := Lib.hid (HS.out.on hb.out)
  have HT := Lib.hid (HT.out.on hb.out)
  obtain ⟨u1, hu⟩ : ∃ u, u = World.drewN w m1 := ⟨_, rfl⟩
  rw [← hu] at hb HB ⊢
  rw [← hu] at HS
  rw [← hu] at HT
  clear hu
  go_wp2_with fail
  refine (HAd.out _ HS.out HT.out).mono ?_
  rintro e u2 ⟨A3, c3, rfl, hc3, s3, b3⟩
  have hb := Lib.hid (b3)
  have HB := Lib.hid (rb_go HB.out hb.out)
  have HS := Lib.hid (HS.out.on hb.out)
  have HT := Lib.hid (HT.out.on hb.out)
  have S3 := Lib.hid s3
  clear s3 b3 hc3
  go_wp2_with fail
  refine (HSu.out _ HS.out HT.out).mono ?_
  rintro e u3 ⟨rfl, m4, rfl⟩
  have hb := Lib.hid (below_drewN (Below.refl (u2).heap.size (u2)) m4)
  have HB := Lib.hid (rb_go HB.out hb.out)
  have HS := Lib.hid (HS.out.on hb.out)
  have HT := Lib.hid (HT.out.on hb.out)
  have S3 := Lib.hid (S3.out.on hb.out)
  obtain ⟨u3, hu⟩ : ∃ u, u = World.drewN u2 m4 := ⟨_, rfl⟩
  rw [← hu] at hb HB ⊢
  rw [← hu] at HS
  rw [← hu] at HT
  rw [← hu] at S3
  clear hu
  go_wp2_with fail
  refine (HMu.out _ HS.out HT.out).mono ?_
  rintro e u4 ⟨A5, c5, rfl, hc5, s5, b5⟩
  have hb := Lib.hid (b5)
  have HB := Lib.hid (rb_go HB.out hb.out)
  have HS := Lib.hid (HS.out.on hb.out)
  have HT := Lib.hid (HT.out.on hb.out)
  have S3 := Lib.hid (S3.out.on hb.out)
  have S5 := Lib.hid s5
  clear s5 b5 hc5
  go_wp2_with fail
  refine (HRa.out _ HS.out).mono ?_
  rintro e u5 ⟨rfl, rfl⟩
  go_wp2_with fail
  refine (HAa.out _ HS.out).mono ?_
  rintro e u6 ⟨rfl, rfl⟩
  go_wp2_with fail
  refine (HO.out _).mono ?_
  rintro e u7 ⟨A6, rfl, s6, b6⟩
  have hb := Lib.hid (b6)
  have HB := Lib.hid (rb_go HB.out hb.out)
  have HS := Lib.hid (HS.out.on hb.out)
  have HT := Lib.hid (HT.out.on hb.out)
  have S3 := Lib.hid (S3.out.on hb.out)
  have S5 := Lib.hid (S5.out.on hb.out)
  have S6 := Lib.hid s6
  clear s6 b6
  go_wp2_with fail
  refine (setU_any _ n _ (newBlk _ _ _) HN.out).mono ?_
  rintro e u8 ⟨rfl, hp⟩
  have hb := Lib.hid (hp.new.2.2.1)
  have HB := Lib.hid (rb_go HB.out hb.out)
  have HS := Lib.hid (HS.out.on hb.out)
  have HT := Lib.hid (HT.out.on hb.out)
  have S3 := Lib.hid (S3.out.on hb.out)
  have S5 := Lib.hid (S5.out.on hb.out)
  have S6 := Lib.hid (S6.out.on hb.out)
  have Z6 := Lib.hid hp.new.1
  clear hp
  go_wp2_with fail
  refine (same_of HN.out S6.out Z6.out).mono ?_
  rintro e u9 ⟨rfl, b7⟩
  have hb := Lib.hid (b7)
  have HB := Lib.hid (rb_go HB.out hb.out)
  have HS := Lib.hid (HS.out.on hb.out)
  have HT := Lib.hid (HT.out.on hb.out)
  have S3 := Lib.hid (S3.out.on hb.out)
  have S5 := Lib.hid (S5.out.on hb.out)
  have S6 := Lib.hid (S6.out.on hb.out)
  have Z6 := Lib.hid (Z6.out.below hb.out)
  clear b7
  go_wp2_with fail
  refine (HAa.out _ HS.out).mono ?_
  rintro e u10 ⟨rfl, rfl⟩
  go_wp2_with fail
  refine (HAb.out _ HT.out).mono ?_
  rintro e u11 ⟨rfl, rfl⟩
  go_wp2_with fail
  refine (HGa.out _ HS.out).mono ?_
  rintro e u12 ⟨rfl, hp⟩
  have hb := Lib.hid (hp.2.2.1)
  have HB := Lib.hid (rb_go HB.out hb.out)
  have HS := Lib.hid (HS.out.on hb.out)
  have HT := Lib.hid (HT.out.on hb.out)
  have S3 := Lib.hid (S3.out.on hb.out)
  have S5 := Lib.hid (S5.out.on hb.out)
  have X := Lib.hid hp.1
  clear hp
  go_wp2_with fail
  refine (HGb.out _ HT.out).mono ?_
  rintro e u13 ⟨rfl, hp⟩
  have hb := Lib.hid (hp.2.2.1)
  have HB := Lib.hid (rb_go HB.out hb.out)
  have HS := Lib.hid (HS.out.on hb.out)
  have HT := Lib.hid (HT.out.on hb.out)
  have S3 := Lib.hid (S3.out.on hb.out)
  have S5 := Lib.hid (S5.out.on hb.out)
  have X := Lib.hid (X.out.below hb.out)
  have Y := Lib.hid hp.1
  clear hp
  go_wp2_with fail
  refine (cmp_any _ 0 _ 0 _ _ _ X.out Y.out).mono ?_
  rintro e u14 ⟨rfl, m8, rfl⟩
  have hb := Lib.hid (below_drewN (Below.refl (u13).heap.size (u13)) m8)
  have HB := Lib.hid (rb_go HB.out hb.out)
  have HS := Lib.hid (HS.out.on hb.out)
  have HT := Lib.hid (HT.out.on hb.out)
  have S3 := Lib.hid (S3.out.on hb.out)
  have S5 := Lib.hid (S5.out.on hb.out)
  have X := Lib.hid (X.out.below hb.out)
  have Y := Lib.hid (Y.out.below hb.out)
  obtain ⟨u14, hu⟩ : ∃ u, u = World.drewN u13 m8 := ⟨_, rfl⟩
  rw [← hu] at hb HB ⊢
  rw [← hu] at HS
  rw [← hu] at HT
  rw [← hu] at S3
  rw [← hu] at S5
  rw [← hu] at X
  rw [← hu] at Y
  clear hu
  rw [hcm.out]
  go_wp2_with fail
  --LOOKd
  refine (cmp_any _ 0 _ 0 _ _ _ X.out Y.out).mono ?_
  rintro e u15 ⟨rfl, m9, rfl⟩
  have hb := Lib.hid (below_drewN (Below.refl (u14).heap.size (u14)) m9)
  have HB := Lib.hid (rb_go HB.out hb.out)
  have HS := Lib.hid (HS.out.on hb.out)
  have HT := Lib.hid (HT.out.on hb.out)
  have S3 := Lib.hid (S3.out.on hb.out)
  have S5 := Lib.hid (S5.out.on hb.out)
  have X := Lib.hid (X.out.below hb.out)
  have Y := Lib.hid (Y.out.below hb.out)
  obtain ⟨u15, hu⟩ : ∃ u, u = World.drewN u14 m9 := ⟨_, rfl⟩
  rw [← hu] at hb HB ⊢
  rw [← hu] at HS
  rw [← hu] at HT
  rw [← hu] at S3
  rw [← hu] at S5
  rw [← hu] at X
  rw [← hu] at Y
  clear hu
  rw [hcm.out]
  go_wp2_with fail
  refine (add_any _ _ 0 _ 0 _ _ 128 _ (newBlk _ _ _) (X.out.alloc _) (Y.out.alloc _) FA.out FB.out (by decide)).mono ?_
  rintro e u16 ⟨rfl, hp⟩
  have hb := Lib.hid (hp.new.2.2.1)
  have HB := Lib.hid (rb_go HB.out hb.out)
  have HS := Lib.hid (HS.out.on hb.out)
  have HT := Lib.hid (HT.out.on hb.out)
  have S3 := Lib.hid (S3.out.on hb.out)
  have S5 := Lib.hid (S5.out.on hb.out)
  have X := Lib.hid (X.out.below hb.out)
  have Y := Lib.hid (Y.out.below hb.out)
  have D := Lib.hid hp.new.1
  clear hp
  go_wp2_with fail
  refine (same_true A3 l3 c3 _ 0 e3 _ _ S3.out D.out (by rw [int_add]; exact HLs.out) (by rw [int_add]; exact HV3.out.1.symm) (by rw [int_add]; exact HV3.out.2.symm)).mono ?_
  rintro e u17 ⟨rfl, b9⟩
  have hb := Lib.hid (b9)
  have HB := Lib.hid (rb_go HB.out hb.out)
  have HS := Lib.hid (HS.out.on hb.out)
  have HT := Lib.hid (HT.out.on hb.out)
  have S3 := Lib.hid (S3.out.on hb.out)
  have S5 := Lib.hid (S5.out.on hb.out)
  have X := Lib.hid (X.out.below hb.out)
  have Y := Lib.hid (Y.out.below hb.out)
  have D := Lib.hid (D.out.below hb.out)
  clear b9
  go_wp2_with fail
  refine (mul_any _ _ 0 _ 0 _ _ 128 _ (newBlk _ _ _) (X.out.alloc _) (Y.out.alloc _) FA.out FB.out (by decide)).mono ?_
  rintro e u18 ⟨rfl, hp⟩
  have hb := Lib.hid (hp.new.2.2.1)
  have HB := Lib.hid (rb_go HB.out hb.out)
  have HS := Lib.hid (HS.out.on hb.out)
  have HT := Lib.hid (HT.out.on hb.out)
  have S5 := Lib.hid (S5.out.on hb.out)
  have X := Lib.hid (X.out.below hb.out)
  have Y := Lib.hid (Y.out.below hb.out)
  have D := Lib.hid hp.new.1
  clear hp
  go_wp2_with fail
  refine (same_true A5 l5 c5 _ 0 e5 _ _ S5.out D.out (by rw [int_mul]; exact HLp.out) (by rw [int_mul]; exact HV5.out.1.symm) (by rw [int_mul]; exact HV5.out.2.symm)).mono ?_
  rintro e u19 ⟨rfl, b9⟩
  have hb := Lib.hid (b9)
  have HB := Lib.hid (rb_go HB.out hb.out)
  have HS := Lib.hid (HS.out.on hb.out)
  have HT := Lib.hid (HT.out.on hb.out)
  have S5 := Lib.hid (S5.out.on hb.out)
  have X := Lib.hid (X.out.below hb.out)
  have Y := Lib.hid (Y.out.below hb.out)
  have D := Lib.hid (D.out.below hb.out)
  clear b9
  go_wp2_with fail
  go_ret
  exact ⟨rfl, HB.out⟩
set_option maxRecDepth 20000 in
set_option maxHeartbeats 4000000 in
theorem nat_geq (A C : Option Addr) (a b : List Nat) (c d n : Nat) (w : World) (hs : Seg w w.heap.size A (u64s a)) (ht : Seg w w.heap.size C (u64s b)) (hn : n < wB) (ka : wok a) (kb : wok b) (ra : nright a) (rb : nright b) (hlt : nv b ≤ nv a) :
    Calls Try.prog 6 #[.slice A a.length c, .slice C b.length d, u64v n] w fun e w' => e = .returned (.bool true) ∧ Below w.heap.size w w' := by
  have HS := Lib.hid hs
  have HT := Lib.hid ht
  have HB := Lib.hid (Below.refl w.heap.size w)
  have HC := Lib.hid (fun u (h1 : Seg u u.heap.size A (u64s a)) (h2 : Seg u u.heap.size C (u64s b)) => ncmp_ok A C a b c d u.heap.size u h1 h2 ka kb ra rb)
  have HAd := Lib.hid (fun u (h1 : Seg u u.heap.size A (u64s a)) (h2 : Seg u u.heap.size C (u64s b)) => nadd_ok A C a b c d 0 u h1 h2 ka kb ra rb)
  have HMu := Lib.hid (fun u (h1 : Seg u u.heap.size A (u64s a)) (h2 : Seg u u.heap.size C (u64s b)) => nmul_ok A C a b c d u h1 h2 ka kb ra rb)
  have HSu := Lib.hid (fun u (h1 : Seg u u.heap.size A (u64s a)) (h2 : Seg u u.heap.size C (u64s b)) => nsub_ok A C a b c d u h1 h2 ka kb ra rb hlt)
  have HRa := Lib.hid (fun u (h1 : Seg u u.heap.size A (u64s a)) => nright_any A a c u.heap.size u h1)
  have HAa := Lib.hid (fun u (h1 : Seg u u.heap.size A (u64s a)) => aright_any A a c u.heap.size u h1)
  have HAb := Lib.hid (fun u (h1 : Seg u u.heap.size C (u64s b)) => aright_any C b d u.heap.size u h1)
  rw [decide_eq_true ra] at HRa HAa
  rw [decide_eq_true rb] at HAb
  have HGa := Lib.hid (fun u (h1 : Seg u u.heap.size A (u64s a)) => abig_any A a c u h1 ka ra.1)
  have HGb := Lib.hid (fun u (h1 : Seg u u.heap.size C (u64s b)) => abig_any C b d u h1 kb rb.1)
  have HN := Lib.hid hn
  have HO := Lib.hid (fun u => of_any n u hn)
  have FA := Lib.hid (fits_nv ka ra.1)
  have FB := Lib.hid (fits_nv kb rb.1)
  have hcm : Hid (cmpZ (nv a) (nv b) = ncmp (nv a) (nv b)) := cmpZ_ncmp _ _
  have HLs := Lib.hid (len_sum ka kb ra.1 rb.1)
  have HLp := Lib.hid (len_mul ka kb ra.1 rb.1)
  have hz : ¬ ncmp (nv a) (nv b) < 0 := by unfold ncmp; rw [if_neg (by omega)]; split <;> omega
  have HLd := Lib.hid (len_sub ka ra.1 (n := nv b))
  have HDv : Hid (((nv a : Int) - (nv b : Int)).toNat = nv a - nv b) := by unfold Hid; omega
  generalize hzz : ncmp (nv a) (nv b) = z at *
  have HZZ := Lib.hid hzz
  generalize hs3 : (nfits (nv a + nv b)).1 = l3 at *
  generalize hs3b : (nfits (nv a + nv b)).2 = e3 at *
  generalize hs5 : (nfits (nv a * nv b)).1 = l5 at *
  generalize hs5b : (nfits (nv a * nv b)).2 = e5 at *
  have HV3 := Lib.hid (And.intro hs3 hs3b)
  have HV5 := Lib.hid (And.intro hs5 hs5b)
  clear hs ht hn ka kb ra rb hlt hs3 hs3b hs5 hs5b hzz
  go_enter Try.func6, Try.ntmps6
  go_wp2_with fail
  refine (HC.out _ HS.out HT.out).mono ?_
  rintro e u1 ⟨rfl, m1, rfl⟩
  have hb := Lib.hid (below_drewN (Below.refl (w).heap.size (w)) m1)
  have HB := Lib.hid (rb_go HB.out hb.out)
  have HS := Lib.hid (HS.out.on hb.out)
  have HT := Lib.hid (HT.out.on hb.out)
  obtain ⟨u1, hu⟩ : ∃ u, u = World.drewN w m1 := ⟨_, rfl⟩
  rw [← hu] at hb HB ⊢
  rw [← hu] at HS
  rw [← hu] at HT
  clear hu
  go_wp2_with fail
  refine (HAd.out _ HS.out HT.out).mono ?_
  rintro e u2 ⟨A3, c3, rfl, hc3, s3, b3⟩
  have hb := Lib.hid (b3)
  have HB := Lib.hid (rb_go HB.out hb.out)
  have HS := Lib.hid (HS.out.on hb.out)
  have HT := Lib.hid (HT.out.on hb.out)
  have S3 := Lib.hid s3
  clear s3 b3 hc3
  go_wp2_with fail
  refine (HSu.out _ HS.out HT.out).mono ?_
  rintro e u3 ⟨A4, c4, rfl, hc4, s4, b4⟩
  have hb := Lib.hid (b4)
  have HB := Lib.hid (rb_go HB.out hb.out)
  have HS := Lib.hid (HS.out.on hb.out)
  have HT := Lib.hid (HT.out.on hb.out)
  have S3 := Lib.hid (S3.out.on hb.out)
  have S4 := Lib.hid s4
  clear s4 b4 hc4
  go_wp2_with fail
  refine (HMu.out _ HS.out HT.out).mono ?_
  rintro e u4 ⟨A5, c5, rfl, hc5, s5, b5⟩
  have hb := Lib.hid (b5)
  have HB := Lib.hid (rb_go HB.out hb.out)
  have HS := Lib.hid (HS.out.on hb.out)
  have HT := Lib.hid (HT.out.on hb.out)
  have S3 := Lib.hid (S3.out.on hb.out)
  have S4 := Lib.hid (S4.out.on hb.out)
  have S5 := Lib.hid s5
  clear s5 b5 hc5
  go_wp2_with fail
  refine (HRa.out _ HS.out).mono ?_
  rintro e u5 ⟨rfl, rfl⟩
  go_wp2_with fail
  refine (HAa.out _ HS.out).mono ?_
  rintro e u6 ⟨rfl, rfl⟩
  go_wp2_with fail
  refine (HO.out _).mono ?_
  rintro e u7 ⟨A6, rfl, s6, b6⟩
  have hb := Lib.hid (b6)
  have HB := Lib.hid (rb_go HB.out hb.out)
  have HS := Lib.hid (HS.out.on hb.out)
  have HT := Lib.hid (HT.out.on hb.out)
  have S3 := Lib.hid (S3.out.on hb.out)
  have S4 := Lib.hid (S4.out.on hb.out)
  have S5 := Lib.hid (S5.out.on hb.out)
  have S6 := Lib.hid s6
  clear s6 b6
  go_wp2_with fail
  refine (setU_any _ n _ (newBlk _ _ _) HN.out).mono ?_
  rintro e u8 ⟨rfl, hp⟩
  have hb := Lib.hid (hp.new.2.2.1)
  have HB := Lib.hid (rb_go HB.out hb.out)
  have HS := Lib.hid (HS.out.on hb.out)
  have HT := Lib.hid (HT.out.on hb.out)
  have S3 := Lib.hid (S3.out.on hb.out)
  have S4 := Lib.hid (S4.out.on hb.out)
  have S5 := Lib.hid (S5.out.on hb.out)
  have S6 := Lib.hid (S6.out.on hb.out)
  have Z6 := Lib.hid hp.new.1
  clear hp
  go_wp2_with fail
  refine (same_of HN.out S6.out Z6.out).mono ?_
  rintro e u9 ⟨rfl, b7⟩
  have hb := Lib.hid (b7)
  have HB := Lib.hid (rb_go HB.out hb.out)
  have HS := Lib.hid (HS.out.on hb.out)
  have HT := Lib.hid (HT.out.on hb.out)
  have S3 := Lib.hid (S3.out.on hb.out)
  have S4 := Lib.hid (S4.out.on hb.out)
  have S5 := Lib.hid (S5.out.on hb.out)
  have S6 := Lib.hid (S6.out.on hb.out)
  have Z6 := Lib.hid (Z6.out.below hb.out)
  clear b7
  go_wp2_with fail
  refine (HAa.out _ HS.out).mono ?_
  rintro e u10 ⟨rfl, rfl⟩
  go_wp2_with fail
  refine (HAb.out _ HT.out).mono ?_
  rintro e u11 ⟨rfl, rfl⟩
  go_wp2_with fail
  refine (HGa.out _ HS.out).mono ?_
  rintro e u12 ⟨rfl, hp⟩
  have hb := Lib.hid (hp.2.2.1)
  have HB := Lib.hid (rb_go HB.out hb.out)
  have HS := Lib.hid (HS.out.on hb.out)
  have HT := Lib.hid (HT.out.on hb.out)
  have S3 := Lib.hid (S3.out.on hb.out)
  have S4 := Lib.hid (S4.out.on hb.out)
  have S5 := Lib.hid (S5.out.on hb.out)
  have X := Lib.hid hp.1
  clear hp
  go_wp2_with fail
  refine (HGb.out _ HT.out).mono ?_
  rintro e u13 ⟨rfl, hp⟩
  have hb := Lib.hid (hp.2.2.1)
  have HB := Lib.hid (rb_go HB.out hb.out)
  have HS := Lib.hid (HS.out.on hb.out)
  have HT := Lib.hid (HT.out.on hb.out)
  have S3 := Lib.hid (S3.out.on hb.out)
  have S4 := Lib.hid (S4.out.on hb.out)
  have S5 := Lib.hid (S5.out.on hb.out)
  have X := Lib.hid (X.out.below hb.out)
  have Y := Lib.hid hp.1
  clear hp
  go_wp2_with fail
  refine (cmp_any _ 0 _ 0 _ _ _ X.out Y.out).mono ?_
  rintro e u14 ⟨rfl, m8, rfl⟩
  have hb := Lib.hid (below_drewN (Below.refl (u13).heap.size (u13)) m8)
  have HB := Lib.hid (rb_go HB.out hb.out)
  have HS := Lib.hid (HS.out.on hb.out)
  have HT := Lib.hid (HT.out.on hb.out)
  have S3 := Lib.hid (S3.out.on hb.out)
  have S4 := Lib.hid (S4.out.on hb.out)
  have S5 := Lib.hid (S5.out.on hb.out)
  have X := Lib.hid (X.out.below hb.out)
  have Y := Lib.hid (Y.out.below hb.out)
  obtain ⟨u14, hu⟩ : ∃ u, u = World.drewN u13 m8 := ⟨_, rfl⟩
  rw [← hu] at hb HB ⊢
  rw [← hu] at HS
  rw [← hu] at HT
  rw [← hu] at S3
  rw [← hu] at S4
  rw [← hu] at S5
  rw [← hu] at X
  rw [← hu] at Y
  clear hu
  rw [hcm.out]
  go_wp2_with fail
  refine (sub_any _ _ 0 _ 0 _ _ 128 _ (newBlk _ _ _) (X.out.alloc _) (Y.out.alloc _) FA.out FB.out (by decide)).mono ?_
  rintro e u15 ⟨rfl, hp⟩
  have hb := Lib.hid (hp.new.2.2.1)
  have HB := Lib.hid (rb_go HB.out hb.out)
  have HS := Lib.hid (HS.out.on hb.out)
  have HT := Lib.hid (HT.out.on hb.out)
  have S3 := Lib.hid (S3.out.on hb.out)
  have S4 := Lib.hid (S4.out.on hb.out)
  have S5 := Lib.hid (S5.out.on hb.out)
  have X := Lib.hid (X.out.below hb.out)
  have Y := Lib.hid (Y.out.below hb.out)
  have D := Lib.hid hp.new.1
  clear hp
  go_wp2_with fail
  refine (same_true A4 (wd (nv a - nv b)) c4 _ 0 0 _ _ S4.out D.out (by rw [HDv.out]; have := HLd.out; omega) (by rw [HDv.out, nfits_small HLd.out]) (by rw [HDv.out, nfits_small HLd.out])).mono ?_
  rintro e u16 ⟨rfl, b9⟩
  have hb := Lib.hid (b9)
  have HB := Lib.hid (rb_go HB.out hb.out)
  have HS := Lib.hid (HS.out.on hb.out)
  have HT := Lib.hid (HT.out.on hb.out)
  have S3 := Lib.hid (S3.out.on hb.out)
  have S4 := Lib.hid (S4.out.on hb.out)
  have S5 := Lib.hid (S5.out.on hb.out)
  have X := Lib.hid (X.out.below hb.out)
  have Y := Lib.hid (Y.out.below hb.out)
  have D := Lib.hid (D.out.below hb.out)
  clear b9
  go_wp2_with fail
  --LOOKd
  refine (cmp_any _ 0 _ 0 _ _ _ X.out Y.out).mono ?_
  rintro e u17 ⟨rfl, m9, rfl⟩
  have hb := Lib.hid (below_drewN (Below.refl (u16).heap.size (u16)) m9)
  have HB := Lib.hid (rb_go HB.out hb.out)
  have HS := Lib.hid (HS.out.on hb.out)
  have HT := Lib.hid (HT.out.on hb.out)
  have S3 := Lib.hid (S3.out.on hb.out)
  have S5 := Lib.hid (S5.out.on hb.out)
  have X := Lib.hid (X.out.below hb.out)
  have Y := Lib.hid (Y.out.below hb.out)
  obtain ⟨u17, hu⟩ : ∃ u, u = World.drewN u16 m9 := ⟨_, rfl⟩
  rw [← hu] at hb HB ⊢
  rw [← hu] at HS
  rw [← hu] at HT
  rw [← hu] at S3
  rw [← hu] at S5
  rw [← hu] at X
  rw [← hu] at Y
  clear hu
  rw [hcm.out]
  go_wp2_with fail
  refine (add_any _ _ 0 _ 0 _ _ 128 _ (newBlk _ _ _) (X.out.alloc _) (Y.out.alloc _) FA.out FB.out (by decide)).mono ?_
  rintro e u18 ⟨rfl, hp⟩
  have hb := Lib.hid (hp.new.2.2.1)
  have HB := Lib.hid (rb_go HB.out hb.out)
  have HS := Lib.hid (HS.out.on hb.out)
  have HT := Lib.hid (HT.out.on hb.out)
  have S3 := Lib.hid (S3.out.on hb.out)
  have S5 := Lib.hid (S5.out.on hb.out)
  have X := Lib.hid (X.out.below hb.out)
  have Y := Lib.hid (Y.out.below hb.out)
  have D := Lib.hid hp.new.1
  clear hp
  go_wp2_with fail
  refine (same_true A3 l3 c3 _ 0 e3 _ _ S3.out D.out (by rw [int_add]; exact HLs.out) (by rw [int_add]; exact HV3.out.1.symm) (by rw [int_add]; exact HV3.out.2.symm)).mono ?_
  rintro e u19 ⟨rfl, b9⟩
  have hb := Lib.hid (b9)
  have HB := Lib.hid (rb_go HB.out hb.out)
  have HS := Lib.hid (HS.out.on hb.out)
  have HT := Lib.hid (HT.out.on hb.out)
  have S3 := Lib.hid (S3.out.on hb.out)
  have S5 := Lib.hid (S5.out.on hb.out)
  have X := Lib.hid (X.out.below hb.out)
  have Y := Lib.hid (Y.out.below hb.out)
  have D := Lib.hid (D.out.below hb.out)
  clear b9
  go_wp2_with fail
  refine (mul_any _ _ 0 _ 0 _ _ 128 _ (newBlk _ _ _) (X.out.alloc _) (Y.out.alloc _) FA.out FB.out (by decide)).mono ?_
  rintro e u20 ⟨rfl, hp⟩
  have hb := Lib.hid (hp.new.2.2.1)
  have HB := Lib.hid (rb_go HB.out hb.out)
  have HS := Lib.hid (HS.out.on hb.out)
  have HT := Lib.hid (HT.out.on hb.out)
  have S5 := Lib.hid (S5.out.on hb.out)
  have X := Lib.hid (X.out.below hb.out)
  have Y := Lib.hid (Y.out.below hb.out)
  have D := Lib.hid hp.new.1
  clear hp
  go_wp2_with fail
  refine (same_true A5 l5 c5 _ 0 e5 _ _ S5.out D.out (by rw [int_mul]; exact HLp.out) (by rw [int_mul]; exact HV5.out.1.symm) (by rw [int_mul]; exact HV5.out.2.symm)).mono ?_
  rintro e u21 ⟨rfl, b9⟩
  have hb := Lib.hid (b9)
  have HB := Lib.hid (rb_go HB.out hb.out)
  have HS := Lib.hid (HS.out.on hb.out)
  have HT := Lib.hid (HT.out.on hb.out)
  have S5 := Lib.hid (S5.out.on hb.out)
  have X := Lib.hid (X.out.below hb.out)
  have Y := Lib.hid (Y.out.below hb.out)
  have D := Lib.hid (D.out.below hb.out)
  clear b9
  go_wp2_with fail
  go_ret
  exact ⟨rfl, HB.out⟩
theorem word_list {z : List Int} (hw : ∀ n, n ∈ z → (Lit.int .u64 n).wf = true) : ∃ l : List Nat, z = l.map (fun (n : Nat) => (n : Int)) ∧ wok l := by
  induction z with
  | nil => exact ⟨[], rfl, wok_nil⟩
  | cons x z ih =>
    obtain ⟨l, rfl, hl⟩ := ih fun n hn => hw n (List.mem_cons_of_mem _ hn)
    have h := hw x (List.mem_cons_self ..)
    have h2 : 0 ≤ x ∧ x < 18446744073709551616 := by
      simp [Lit.wf, IntKind.min, IntKind.max, IntKind.bits, IntKind.signed] at h
      omega
    exact ⟨x.toNat :: l, by simp; omega, wok_cons.2 ⟨by show x.toNat < 18446744073709551616; omega, hl⟩⟩
theorem NatAdds_walk (A0 : Option Addr) (z0 : List Int) (c0 : Nat) (A1 : Option Addr) (z1 : List Int) (c1 : Nat) (a2 : Int) (w : World)
    (hc0 : z0.length ≤ c0) (hm0 : c0 ≤ maxLen) (hw0 : ∀ n, n ∈ z0 → (Lit.int .u64 n).wf = true) (s0 : Seg w w.heap.size A0 (z0.map (.int .u64)))
    (hc1 : z1.length ≤ c1) (hm1 : c1 ≤ maxLen) (hw1 : ∀ n, n ∈ z1 → (Lit.int .u64 n).wf = true) (s1 : Seg w w.heap.size A1 (z1.map (.int .u64))) (w2 : (Lit.int .u64 a2).wf = true) :
    Calls Try.prog 6 #[.slice A0 z0.length c0, .slice A1 z1.length c1, .int .u64 a2] w fun e w' => e = .returned (.bool true) ∧ Below w.heap.size w w' := by
  obtain ⟨a, rfl, ka⟩ := word_list hw0
  obtain ⟨b, rfl, kb⟩ := word_list hw1
  obtain ⟨l, hl, kl⟩ := word_list (z := [a2]) (fun n hn => by rw [List.mem_singleton.1 hn]; exact w2)
  obtain ⟨n, rfl⟩ : ∃ n, l = [n] := by
    match l, hl with
    | [n], _ => exact ⟨n, rfl⟩
  obtain rfl : a2 = (n : Int) := by simpa using hl
  have hn : n < wB := kl 0 (by simp)
  rw [List.map_map] at s0 s1
  rw [List.length_map, List.length_map]
  by_cases h : nright a ∧ nright b
  · by_cases hlt : nv a < nv b
    · exact nat_less A0 A1 a b c0 c1 n w s0 s1 hn ka kb h.1 h.2 hlt
    · exact nat_geq A0 A1 a b c0 c1 n w s0 s1 hn ka kb h.1 h.2 (by omega)
  · exact nat_bad A0 A1 a b c0 c1 n w s0 s1 hn h
end Go.Proofs.Ytaehehoeidnidaa
