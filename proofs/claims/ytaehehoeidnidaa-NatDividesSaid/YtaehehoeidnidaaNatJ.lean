/- The law on Div and Falling, walked. Printed by natdlaw.py. No condition but that the words are words. -/
import Derived.Test.YtaehehoeidnidaaNatI
import Derived.Test.YtaehehoeidnidaaNatL
import Derived.Test.YtaehehoeidnidaaDivB
namespace Go.Proofs.Ytaehehoeidnidaa
open Go.ChangeShapes Go.WideShapes Go.ChangeAt Go.RowKit
set_option linter.unusedVariables false

theorem two_below {B a b : Nat} {w w1 : World} (h : Two w w1 a b) (hB : B ≤ w.heap.size) (ha : B ≤ a) (hb : B ≤ b) : Below B w w1 :=
  ⟨h.os, h.tape, h.output, h.size, fun k hk => h.block k (by omega) (by omega) (by omega)⟩
theorem len_quo {a : List Nat} (ka : wok a) (la : a.length ≤ 64) (b : Nat) : (wd (nv a / b)).length ≤ 64 := wd_len (Nat.lt_of_le_of_lt (Nat.div_le_self _ _) (nv_lt64 ka la))
theorem wd_lenM {n M : Nat} (h : n < wB ^ M) (hM : M ≤ 1000) : (wd n).length ≤ 1000 := Nat.le_trans (wd_len h) hM
theorem fall_len {n m : Nat} (hn : n < wB) (hm : m ≤ 300) : (wd (fall n m)).length ≤ 1000 := wd_lenM (fall_lt hn hm (show 0 < 300 by decide)) (by decide)
set_option maxRecDepth 20000 in
set_option maxHeartbeats 4000000 in
theorem ndl_bad_form (A : Option Addr) (a : List Nat) (c b n : Nat) (many : Int) (w : World) (hs : Seg w w.heap.size A (u64s a)) (ka : wok a) (hn : n < wB) (hf : many < 0 ∨ 300 < many) (hd : ¬ nright a) :
    Calls Try.prog 8 #[.slice A a.length c, u64v b, u64v n, .int .i64 many] w fun e w' => e = .returned (.bool true) ∧ Below w.heap.size w w' := by
  have HS := Lib.hid hs
  have HB := Lib.hid (Below.refl w.heap.size w)
  have HAa := Lib.hid (fun u (h1 : Seg u u.heap.size A (u64s a)) => aright_any A a c u.heap.size u h1)
  have HD := Lib.hid (fun u (h1 : Seg u u.heap.size A (u64s a)) => ndiv_form A a b c u.heap.size u h1 hd)
  rw [decide_eq_false hd] at HAa
  have HF := Lib.hid (fun u => falling_bad n many u hf)
  have hcs : many < 0 ∨ (¬ many < 0 ∧ 300 < many) := by omega
  clear hs ka hn hf hd
  rcases hcs with hc1 | ⟨hc0, hc1⟩
  all_goals
    go_enter Try.func8, Try.ntmps8
    go_wp2_with fail
    refine (HD.out _ HS.out).mono ?_
    rintro e u1 ⟨rfl, rfl⟩
    go_wp2_with fail
    refine (HF.out _).mono ?_
    rintro e u2 ⟨rfl, rfl⟩
    go_wp2_with fail
    refine (HAa.out _ HS.out).mono ?_
    rintro e u3 ⟨rfl, rfl⟩
    go_wp2_with fail
    --LOOKz
    go_ret
    exact ⟨rfl, HB.out⟩
set_option maxRecDepth 20000 in
set_option maxHeartbeats 4000000 in
theorem ndl_bad_zero (A : Option Addr) (a : List Nat) (c n : Nat) (many : Int) (w : World) (hs : Seg w w.heap.size A (u64s a)) (ka : wok a) (hn : n < wB) (hf : many < 0 ∨ 300 < many) (hd : nright a) :
    Calls Try.prog 8 #[.slice A a.length c, u64v 0, u64v n, .int .i64 many] w fun e w' => e = .returned (.bool true) ∧ Below w.heap.size w w' := by
  have HS := Lib.hid hs
  have HB := Lib.hid (Below.refl w.heap.size w)
  have HAa := Lib.hid (fun u (h1 : Seg u u.heap.size A (u64s a)) => aright_any A a c u.heap.size u h1)
  have HD := Lib.hid (fun u (h1 : Seg u u.heap.size A (u64s a)) => ndiv_zero A a c u.heap.size u h1 hd)
  rw [decide_eq_true hd] at HAa
  have HF := Lib.hid (fun u => falling_bad n many u hf)
  have hcs : many < 0 ∨ (¬ many < 0 ∧ 300 < many) := by omega
  clear hs ka hn hf hd
  rcases hcs with hc1 | ⟨hc0, hc1⟩
  all_goals
    go_enter Try.func8, Try.ntmps8
    go_wp2_with fail
    refine (HD.out _ HS.out).mono ?_
    rintro e u1 ⟨rfl, rfl⟩
    go_wp2_with fail
    refine (HF.out _).mono ?_
    rintro e u2 ⟨rfl, rfl⟩
    go_wp2_with fail
    refine (HAa.out _ HS.out).mono ?_
    rintro e u3 ⟨rfl, rfl⟩
    go_wp2_with fail
    --LOOKz
    go_ret
    exact ⟨rfl, HB.out⟩
set_option maxRecDepth 20000 in
set_option maxHeartbeats 4000000 in
theorem ndl_bad_ok (A : Option Addr) (a : List Nat) (c b n : Nat) (many : Int) (w : World) (hs : Seg w w.heap.size A (u64s a)) (ka : wok a) (hn : n < wB) (hf : many < 0 ∨ 300 < many) (hd : nright a) (h0 : 0 < b) (hb : b < 18446744073709551616) :
    Calls Try.prog 8 #[.slice A a.length c, u64v b, u64v n, .int .i64 many] w fun e w' => e = .returned (.bool true) ∧ Below w.heap.size w w' := by
  have HS := Lib.hid hs
  have HB := Lib.hid (Below.refl w.heap.size w)
  have HAa := Lib.hid (fun u (h1 : Seg u u.heap.size A (u64s a)) => aright_any A a c u.heap.size u h1)
  have HD := Lib.hid (fun u (h1 : Seg u u.heap.size A (u64s a)) => ndiv_ok A a b c u h1 ka hd h0 hb)
  rw [decide_eq_true hd] at HAa
  have HGa := Lib.hid (fun u (h1 : Seg u u.heap.size A (u64s a)) => abig_any A a c u h1 ka hd.1)
  have FA := Lib.hid (fits_nv ka hd.1)
  have FB : Hid (Fits (b : Int) 128) := Fits.mono (L := 2) (by unfold Fits; rw [Int.natAbs_natCast]; exact hb) (by decide)
  have HBB := Lib.hid hb
  have hbn : Hid ((b : Int) ≠ 0) := by unfold Hid; omega
  have i7 : ¬ (b : Int) = 0 := by omega
  have b7 : ((b : Int) == 0) = false := by simp; omega
  have HLq := Lib.hid (len_quo ka hd.1 b)
  have HQv : Hid (((nv a : Int) / (b : Int)).toNat = nv a / b) := rfl
  have HRv : Hid ((((nv a : Int) % (b : Int)).natAbs % 18446744073709551616 : Nat) = nv a % b) := by
    unfold Hid
    have e : ((nv a : Int) % (b : Int)).natAbs = nv a % b := rfl
    rw [e]; exact Nat.mod_eq_of_lt (by have := Nat.mod_lt (nv a) h0; omega)
  have HF := Lib.hid (fun u => falling_bad n many u hf)
  have hcs : many < 0 ∨ (¬ many < 0 ∧ 300 < many) := by omega
  clear hs ka hn hf hd h0 hb
  rcases hcs with hc1 | ⟨hc0, hc1⟩
  all_goals
    go_enter Try.func8, Try.ntmps8
    go_wp2_with fail
    refine (HD.out _ HS.out).mono ?_
    rintro e u1 ⟨A4, c4, rfl, s4, b4⟩
    have hb := Lib.hid (b4)
    have HB := Lib.hid (rb_go HB.out hb.out)
    have HS := Lib.hid (HS.out.on hb.out)
    have S4 := Lib.hid s4
    clear s4 b4
    go_wp2_with fail
    refine (HF.out _).mono ?_
    rintro e u2 ⟨rfl, rfl⟩
    go_wp2_with fail
    refine (HAa.out _ HS.out).mono ?_
    rintro e u3 ⟨rfl, rfl⟩
    go_wp2_with fail
    have Z0 := Lib.hid (newBlk u3 (.bool false) (.slice none 0 0))
    have BB : Hid (Below u3.heap.size u3 (u3.alloc (.cells #[.bool false, .slice none 0 0] tI))) := (Below.refl _ _).alloc (Nat.le_refl _) _
    have HB1 := Lib.hid HB.out
    have S4k := Lib.hid S4.out
    have HS := Lib.hid (HS.out.on BB.out)
    have HL0 : Hid (u3.heap.size < (u3.alloc (.cells #[.bool false, .slice none 0 0] tI)).heap.size) := Z0.out.lt
    clear S4 HB
    generalize hv0 : u3.alloc (.cells #[.bool false, .slice none 0 0] tI) = v0 at *
    clear hv0
    refine (HGa.out _ HS.out).mono ?_
    rintro e u4 ⟨rfl, hp⟩
    have hb := Lib.hid (hp.2.2.1)
    have BB := Lib.hid (rb_go BB.out hb.out)
    have HS := Lib.hid (HS.out.on hb.out)
    have Z0 := Lib.hid (Z0.out.below hb.out)
    have X := Lib.hid hp.1
    have HL1 := Lib.hid (Nat.lt_of_lt_of_le HL0.out hp.2.2.1.size)
    clear hp
    go_wp2_with fail
    refine (setU_any _ b _ (newBlk _ _ _) HBB.out).mono ?_
    rintro e u5 ⟨rfl, hp⟩
    have hb := Lib.hid (hp.new.2.2.1)
    have BB := Lib.hid (rb_go BB.out hb.out)
    have HS := Lib.hid (HS.out.on hb.out)
    have Z0 := Lib.hid (Z0.out.below hb.out)
    have X := Lib.hid (X.out.below hb.out)
    have Y := Lib.hid hp.new.1
    have HL2 := Lib.hid (Nat.lt_of_lt_of_le HL1.out hp.new.2.2.1.size)
    clear hp
    go_wp2_with fail
    refine (divMod_any u3.heap.size u5.heap.size _ 0 _ 0 (nv a) b 128 _ (Z0.out.alloc _) (newBlk _ _ _) (by have := HL2.out; omega) (X.out.alloc _) (Y.out.alloc _) hbn.out FA.out FB.out (by decide) (by decide)).mono ?_
    rintro e v1 ⟨rfl, hqr⟩
    have HQR := Lib.hid hqr
    have hb3 : Hid (Below u3.heap.size u3 v1) := (rb_alloc BB.out _).trans (two_below hqr.2.2.2.2 (rb_alloc BB.out (.cells #[.bool false, .slice none 0 0] tI)).size (Nat.le_refl _) (Nat.le_of_lt HL2.out))
    have S4 := Lib.hid (S4k.out.on hb3.out)
    have HB := Lib.hid (rb_go HB1.out hb3.out)
    clear hqr
    go_wp2_with fail
    have hqx := HQR.out.1
    have hqy := HQR.out.2.1
    have HX9 := Lib.hid hqx
    have HY9 := Lib.hid hqy
    clear hqx hqy HQR
    refine (same_true A4 (wd (nv a / b)) c4 _ 0 0 _ _ S4.out HX9.out (by rw [HQv.out]; have := HLq.out; omega) (by rw [HQv.out, nfits_small HLq.out]) (by rw [HQv.out, nfits_small HLq.out])).mono ?_
    rintro e u6 ⟨rfl, b9⟩
    have hb := Lib.hid (b9)
    have HB := Lib.hid (rb_go HB.out hb.out)
    have HY9 := Lib.hid (HY9.out.below hb.out)
    clear b9
    go_wp2_with fail
    refine (uint64_any _ 0 _ _ HY9.out).mono ?_
    rintro e v2 ⟨rfl, rfl⟩
    rw [HRv.out]
    go_wp2_with fail
    --LOOKz
    go_ret
    exact ⟨rfl, HB.out⟩
set_option maxRecDepth 20000 in
set_option maxHeartbeats 4000000 in
theorem ndl_ok_form (A : Option Addr) (a : List Nat) (c b n : Nat) (m : Nat) (w : World) (hs : Seg w w.heap.size A (u64s a)) (ka : wok a) (hn : n < wB) (hf : m ≤ 300) (hd : ¬ nright a) :
    Calls Try.prog 8 #[.slice A a.length c, u64v b, u64v n, .int .i64 m] w fun e w' => e = .returned (.bool true) ∧ Below w.heap.size w w' := by
  have HS := Lib.hid hs
  have HB := Lib.hid (Below.refl w.heap.size w)
  have HAa := Lib.hid (fun u (h1 : Seg u u.heap.size A (u64s a)) => aright_any A a c u.heap.size u h1)
  have HD := Lib.hid (fun u (h1 : Seg u u.heap.size A (u64s a)) => ndiv_form A a b c u.heap.size u h1 hd)
  rw [decide_eq_false hd] at HAa
  have HF := Lib.hid (fun u => falling_ok n m u hn hf)
  have HAF := Lib.hid (fun u => afalling_any n m u hn hf)
  have HLf := Lib.hid (fall_len hn hf)
  have i5 : ¬ (m : Int) < 0 := by omega
  have i6 : ¬ (300 : Int) < (m : Int) := by omega
  generalize hs3 : (nfits (fall n m)).1 = l3 at *
  generalize hs3b : (nfits (fall n m)).2 = e3 at *
  have HV3 := Lib.hid (And.intro hs3 hs3b)
  clear hs3 hs3b
  clear hs ka hn hf hd
  go_enter Try.func8, Try.ntmps8
  go_wp2_with fail
  refine (HD.out _ HS.out).mono ?_
  rintro e u1 ⟨rfl, rfl⟩
  go_wp2_with fail
  refine (HF.out _).mono ?_
  rintro e u2 ⟨A3, c3, rfl, hc3, s3, b3⟩
  have hb := Lib.hid (b3)
  have HB := Lib.hid (rb_go HB.out hb.out)
  have HS := Lib.hid (HS.out.on hb.out)
  have S3 := Lib.hid s3
  clear s3 b3 hc3
  go_wp2_with fail
  refine (HAF.out _).mono ?_
  rintro e u3 ⟨gf, rfl, zf, b5⟩
  have hb := Lib.hid (b5)
  have HB := Lib.hid (rb_go HB.out hb.out)
  have HS := Lib.hid (HS.out.on hb.out)
  have S3 := Lib.hid (S3.out.on hb.out)
  have Z5 := Lib.hid zf
  clear zf b5
  go_wp2_with fail
  refine (same_true A3 l3 c3 gf 0 e3 _ _ S3.out Z5.out (by rw [Int.toNat_natCast]; exact HLf.out) (by rw [Int.toNat_natCast]; exact HV3.out.1.symm) (by rw [Int.toNat_natCast]; exact HV3.out.2.symm)).mono ?_
  rintro e u4 ⟨rfl, b6⟩
  have hb := Lib.hid (b6)
  have HB := Lib.hid (rb_go HB.out hb.out)
  have HS := Lib.hid (HS.out.on hb.out)
  have S3 := Lib.hid (S3.out.on hb.out)
  have Z5 := Lib.hid (Z5.out.below hb.out)
  clear b6
  go_wp2_with fail
  refine (HAa.out _ HS.out).mono ?_
  rintro e u5 ⟨rfl, rfl⟩
  go_wp2_with fail
  --LOOKz
  go_ret
  exact ⟨rfl, HB.out⟩
set_option maxRecDepth 20000 in
set_option maxHeartbeats 4000000 in
theorem ndl_ok_zero (A : Option Addr) (a : List Nat) (c n : Nat) (m : Nat) (w : World) (hs : Seg w w.heap.size A (u64s a)) (ka : wok a) (hn : n < wB) (hf : m ≤ 300) (hd : nright a) :
    Calls Try.prog 8 #[.slice A a.length c, u64v 0, u64v n, .int .i64 m] w fun e w' => e = .returned (.bool true) ∧ Below w.heap.size w w' := by
  have HS := Lib.hid hs
  have HB := Lib.hid (Below.refl w.heap.size w)
  have HAa := Lib.hid (fun u (h1 : Seg u u.heap.size A (u64s a)) => aright_any A a c u.heap.size u h1)
  have HD := Lib.hid (fun u (h1 : Seg u u.heap.size A (u64s a)) => ndiv_zero A a c u.heap.size u h1 hd)
  rw [decide_eq_true hd] at HAa
  have HF := Lib.hid (fun u => falling_ok n m u hn hf)
  have HAF := Lib.hid (fun u => afalling_any n m u hn hf)
  have HLf := Lib.hid (fall_len hn hf)
  have i5 : ¬ (m : Int) < 0 := by omega
  have i6 : ¬ (300 : Int) < (m : Int) := by omega
  generalize hs3 : (nfits (fall n m)).1 = l3 at *
  generalize hs3b : (nfits (fall n m)).2 = e3 at *
  have HV3 := Lib.hid (And.intro hs3 hs3b)
  clear hs3 hs3b
  clear hs ka hn hf hd
  go_enter Try.func8, Try.ntmps8
  go_wp2_with fail
  refine (HD.out _ HS.out).mono ?_
  rintro e u1 ⟨rfl, rfl⟩
  go_wp2_with fail
  refine (HF.out _).mono ?_
  rintro e u2 ⟨A3, c3, rfl, hc3, s3, b3⟩
  have hb := Lib.hid (b3)
  have HB := Lib.hid (rb_go HB.out hb.out)
  have HS := Lib.hid (HS.out.on hb.out)
  have S3 := Lib.hid s3
  clear s3 b3 hc3
  go_wp2_with fail
  refine (HAF.out _).mono ?_
  rintro e u3 ⟨gf, rfl, zf, b5⟩
  have hb := Lib.hid (b5)
  have HB := Lib.hid (rb_go HB.out hb.out)
  have HS := Lib.hid (HS.out.on hb.out)
  have S3 := Lib.hid (S3.out.on hb.out)
  have Z5 := Lib.hid zf
  clear zf b5
  go_wp2_with fail
  refine (same_true A3 l3 c3 gf 0 e3 _ _ S3.out Z5.out (by rw [Int.toNat_natCast]; exact HLf.out) (by rw [Int.toNat_natCast]; exact HV3.out.1.symm) (by rw [Int.toNat_natCast]; exact HV3.out.2.symm)).mono ?_
  rintro e u4 ⟨rfl, b6⟩
  have hb := Lib.hid (b6)
  have HB := Lib.hid (rb_go HB.out hb.out)
  have HS := Lib.hid (HS.out.on hb.out)
  have S3 := Lib.hid (S3.out.on hb.out)
  have Z5 := Lib.hid (Z5.out.below hb.out)
  clear b6
  go_wp2_with fail
  refine (HAa.out _ HS.out).mono ?_
  rintro e u5 ⟨rfl, rfl⟩
  go_wp2_with fail
  --LOOKz
  go_ret
  exact ⟨rfl, HB.out⟩
set_option maxRecDepth 20000 in
set_option maxHeartbeats 4000000 in
theorem ndl_ok_ok (A : Option Addr) (a : List Nat) (c b n : Nat) (m : Nat) (w : World) (hs : Seg w w.heap.size A (u64s a)) (ka : wok a) (hn : n < wB) (hf : m ≤ 300) (hd : nright a) (h0 : 0 < b) (hb : b < 18446744073709551616) :
    Calls Try.prog 8 #[.slice A a.length c, u64v b, u64v n, .int .i64 m] w fun e w' => e = .returned (.bool true) ∧ Below w.heap.size w w' := by
  have HS := Lib.hid hs
  have HB := Lib.hid (Below.refl w.heap.size w)
  have HAa := Lib.hid (fun u (h1 : Seg u u.heap.size A (u64s a)) => aright_any A a c u.heap.size u h1)
  have HD := Lib.hid (fun u (h1 : Seg u u.heap.size A (u64s a)) => ndiv_ok A a b c u h1 ka hd h0 hb)
  rw [decide_eq_true hd] at HAa
  have HGa := Lib.hid (fun u (h1 : Seg u u.heap.size A (u64s a)) => abig_any A a c u h1 ka hd.1)
  have FA := Lib.hid (fits_nv ka hd.1)
  have FB : Hid (Fits (b : Int) 128) := Fits.mono (L := 2) (by unfold Fits; rw [Int.natAbs_natCast]; exact hb) (by decide)
  have HBB := Lib.hid hb
  have hbn : Hid ((b : Int) ≠ 0) := by unfold Hid; omega
  have i7 : ¬ (b : Int) = 0 := by omega
  have b7 : ((b : Int) == 0) = false := by simp; omega
  have HLq := Lib.hid (len_quo ka hd.1 b)
  have HQv : Hid (((nv a : Int) / (b : Int)).toNat = nv a / b) := rfl
  have HRv : Hid ((((nv a : Int) % (b : Int)).natAbs % 18446744073709551616 : Nat) = nv a % b) := by
    unfold Hid
    have e : ((nv a : Int) % (b : Int)).natAbs = nv a % b := rfl
    rw [e]; exact Nat.mod_eq_of_lt (by have := Nat.mod_lt (nv a) h0; omega)
  have HF := Lib.hid (fun u => falling_ok n m u hn hf)
  have HAF := Lib.hid (fun u => afalling_any n m u hn hf)
  have HLf := Lib.hid (fall_len hn hf)
  have i5 : ¬ (m : Int) < 0 := by omega
  have i6 : ¬ (300 : Int) < (m : Int) := by omega
  generalize hs3 : (nfits (fall n m)).1 = l3 at *
  generalize hs3b : (nfits (fall n m)).2 = e3 at *
  have HV3 := Lib.hid (And.intro hs3 hs3b)
  clear hs3 hs3b
  clear hs ka hn hf hd h0 hb
  go_enter Try.func8, Try.ntmps8
  go_wp2_with fail
  refine (HD.out _ HS.out).mono ?_
  rintro e u1 ⟨A4, c4, rfl, s4, b4⟩
  have hb := Lib.hid (b4)
  have HB := Lib.hid (rb_go HB.out hb.out)
  have HS := Lib.hid (HS.out.on hb.out)
  have S4 := Lib.hid s4
  clear s4 b4
  go_wp2_with fail
  refine (HF.out _).mono ?_
  rintro e u2 ⟨A3, c3, rfl, hc3, s3, b3⟩
  have hb := Lib.hid (b3)
  have HB := Lib.hid (rb_go HB.out hb.out)
  have HS := Lib.hid (HS.out.on hb.out)
  have S4 := Lib.hid (S4.out.on hb.out)
  have S3 := Lib.hid s3
  clear s3 b3 hc3
  go_wp2_with fail
  refine (HAF.out _).mono ?_
  rintro e u3 ⟨gf, rfl, zf, b5⟩
  have hb := Lib.hid (b5)
  have HB := Lib.hid (rb_go HB.out hb.out)
  have HS := Lib.hid (HS.out.on hb.out)
  have S4 := Lib.hid (S4.out.on hb.out)
  have S3 := Lib.hid (S3.out.on hb.out)
  have Z5 := Lib.hid zf
  clear zf b5
  go_wp2_with fail
  refine (same_true A3 l3 c3 gf 0 e3 _ _ S3.out Z5.out (by rw [Int.toNat_natCast]; exact HLf.out) (by rw [Int.toNat_natCast]; exact HV3.out.1.symm) (by rw [Int.toNat_natCast]; exact HV3.out.2.symm)).mono ?_
  rintro e u4 ⟨rfl, b6⟩
  have hb := Lib.hid (b6)
  have HB := Lib.hid (rb_go HB.out hb.out)
  have HS := Lib.hid (HS.out.on hb.out)
  have S4 := Lib.hid (S4.out.on hb.out)
  have S3 := Lib.hid (S3.out.on hb.out)
  have Z5 := Lib.hid (Z5.out.below hb.out)
  clear b6
  go_wp2_with fail
  refine (HAa.out _ HS.out).mono ?_
  rintro e u5 ⟨rfl, rfl⟩
  go_wp2_with fail
  have Z0 := Lib.hid (newBlk u5 (.bool false) (.slice none 0 0))
  have BB : Hid (Below u5.heap.size u5 (u5.alloc (.cells #[.bool false, .slice none 0 0] tI))) := (Below.refl _ _).alloc (Nat.le_refl _) _
  have HB1 := Lib.hid HB.out
  have S4k := Lib.hid S4.out
  have HS := Lib.hid (HS.out.on BB.out)
  have HL0 : Hid (u5.heap.size < (u5.alloc (.cells #[.bool false, .slice none 0 0] tI)).heap.size) := Z0.out.lt
  clear S4 HB
  generalize hv0 : u5.alloc (.cells #[.bool false, .slice none 0 0] tI) = v0 at *
  clear hv0
  refine (HGa.out _ HS.out).mono ?_
  rintro e u6 ⟨rfl, hp⟩
  have hb := Lib.hid (hp.2.2.1)
  have BB := Lib.hid (rb_go BB.out hb.out)
  have HS := Lib.hid (HS.out.on hb.out)
  have Z0 := Lib.hid (Z0.out.below hb.out)
  have X := Lib.hid hp.1
  have HL1 := Lib.hid (Nat.lt_of_lt_of_le HL0.out hp.2.2.1.size)
  clear hp
  go_wp2_with fail
  refine (setU_any _ b _ (newBlk _ _ _) HBB.out).mono ?_
  rintro e u7 ⟨rfl, hp⟩
  have hb := Lib.hid (hp.new.2.2.1)
  have BB := Lib.hid (rb_go BB.out hb.out)
  have HS := Lib.hid (HS.out.on hb.out)
  have Z0 := Lib.hid (Z0.out.below hb.out)
  have X := Lib.hid (X.out.below hb.out)
  have Y := Lib.hid hp.new.1
  have HL2 := Lib.hid (Nat.lt_of_lt_of_le HL1.out hp.new.2.2.1.size)
  clear hp
  go_wp2_with fail
  refine (divMod_any u5.heap.size u7.heap.size _ 0 _ 0 (nv a) b 128 _ (Z0.out.alloc _) (newBlk _ _ _) (by have := HL2.out; omega) (X.out.alloc _) (Y.out.alloc _) hbn.out FA.out FB.out (by decide) (by decide)).mono ?_
  rintro e v1 ⟨rfl, hqr⟩
  have HQR := Lib.hid hqr
  have hb3 : Hid (Below u5.heap.size u5 v1) := (rb_alloc BB.out _).trans (two_below hqr.2.2.2.2 (rb_alloc BB.out (.cells #[.bool false, .slice none 0 0] tI)).size (Nat.le_refl _) (Nat.le_of_lt HL2.out))
  have S4 := Lib.hid (S4k.out.on hb3.out)
  have HB := Lib.hid (rb_go HB1.out hb3.out)
  clear hqr
  go_wp2_with fail
  have hqx := HQR.out.1
  have hqy := HQR.out.2.1
  have HX9 := Lib.hid hqx
  have HY9 := Lib.hid hqy
  clear hqx hqy HQR
  refine (same_true A4 (wd (nv a / b)) c4 _ 0 0 _ _ S4.out HX9.out (by rw [HQv.out]; have := HLq.out; omega) (by rw [HQv.out, nfits_small HLq.out]) (by rw [HQv.out, nfits_small HLq.out])).mono ?_
  rintro e u8 ⟨rfl, b9⟩
  have hb := Lib.hid (b9)
  have HB := Lib.hid (rb_go HB.out hb.out)
  have HY9 := Lib.hid (HY9.out.below hb.out)
  clear b9
  go_wp2_with fail
  refine (uint64_any _ 0 _ _ HY9.out).mono ?_
  rintro e v2 ⟨rfl, rfl⟩
  rw [HRv.out]
  go_wp2_with fail
  --LOOKz
  go_ret
  exact ⟨rfl, HB.out⟩
end Go.Proofs.Ytaehehoeidnidaa
