/- Tossing a coin by a fraction, by great numbers, walked. No condition. -/
import Derived.Test.YtmcbkjepjijfjaaCoiT
import Derived.Test.YtmcbkjepjijfjaaBigL
import Derived.Test.YtmcbkjepjijfjaaBigY
import Derived.Test.YtmcbkjepjijfjaaBigG
import Derived.Test.YtmcbkjepjijfjaaBigQ
namespace Go.Proofs.Ytmcbkjepjijfjaa
open Go.ChangeShapes Go.WideShapes Go.ChangeAt Go.RowKit
set_option linter.unusedVariables false

/-- What the loop holds: the fraction in its block, the tape's number at gx. -/
def CoinI (w wr : World) (gp gx : Nat) (a b : Int) (X : Nat) : Prop :=
  Blk wr gp 62 #[.int .i64 a, .int .i64 b] ∧ IntZ wr gx 0 X ∧ IntBlk wr gx ∧ gp ≠ gx ∧ w.heap.size ≤ gx ∧ w.heap.size ≤ gp ∧ Below w.heap.size w wr
theorem CoinI.below {w wr w' : World} {gp gx X : Nat} {a b : Int} (h : CoinI w wr gp gx a b X) (hb : Below wr.heap.size wr w') : CoinI w w' gp gx a b X := by
  obtain ⟨h1, h2, h3, h4, h5, h6, h7⟩ := h
  exact ⟨h1.below hb h1.lt, h2.below hb, h3.below hb, h4, h5, h6, h7.trans (hb.mono h7.size)⟩
theorem CoinI.put {w wr w' : World} {gp gx X Y : Nat} {a b z : Int} (h : CoinI w wr gp gx a b X) (hp : PutZ wr w' gx z) (hz : z = Y) : CoinI w w' gp gx a b Y := by
  obtain ⟨h1, h2, h3, h4, h5, h6, h7⟩ := h
  subst hz
  exact ⟨h1.grown hp.2.2 h4, hp.1, hp.2.1, h4, h5, h6, h7.trans (below_of_grown hp.2.2 _ h7.size h5)⟩
theorem CoinI.drewN {w wr : World} {gp gx X : Nat} {a b : Int} (h : CoinI w wr gp gx a b X) (n : Nat) : CoinI w (wr.drewN n) gp gx a b X :=
  ⟨h.1, h.2.1, h.2.2.1, h.2.2.2.1, h.2.2.2.2.1, h.2.2.2.2.2.1, below_drewN h.2.2.2.2.2.2 n⟩
theorem isz_zero : IsZ false [] 0 := ⟨by intro i hi; simp at hi, by simp [dnorm], by simp, rfl⟩
theorem intZ_zero (w : World) : IntZ (w.alloc (.cells #[.bool false, .slice none 0 0] tI)) w.heap.size 0 0 :=
  IntZ.shut (ds := []) (Blk.new w tI _) (Nat.le_refl _) (Nat.zero_le _) TSeg.nil isz_zero
theorem newz_put {wr w1 w2 : World} {o : Obj} {g1 : Nat} {z v : Int} (h1 : NewZ (wr.alloc o) w1 g1 z) (hp : PutZ w1 w2 wr.heap.size v) : NewZ wr w2 wr.heap.size v := by
  have hs := h1.2.2.1.size
  have hs2 : wr.heap.size ≤ w1.heap.size := Nat.le_trans (by simp) hs
  exact ⟨hp.1, hp.2.1, ((Below.refl _ _).alloc (Nat.le_refl _) o).trans ((h1.2.2.1.mono (by simp)).trans (below_of_grown hp.2.2 _ hs2 (Nat.le_refl _))), Nat.le_refl _⟩
theorem pow_bp (n : Nat) : 2 ^ n ≤ bp (n / 32 + 1) := by
  unfold bp
  rw [show (4294967296 : Nat) = 2 ^ 32 from rfl, ← Nat.pow_mul]
  exact Nat.pow_le_pow_right (by decide) (by omega)
theorem fits_tape {X n : Nat} (h : X < 2 ^ n) : Fits (X : Int) (n / 32 + 2) := by
  unfold Fits
  have h1 := pow_bp n
  have h2 := bp_le (show n / 32 + 1 ≤ n / 32 + 2 by omega)
  rw [Int.natAbs_natCast]
  omega
theorem fits_small {b : Int} (h0 : 0 ≤ b) (h : b ≤ 1099511627776) (L : Nat) : Fits b (L + 2) := by
  unfold Fits
  have h1 := bp_le (show 2 ≤ L + 2 by omega)
  have h2 : bp 2 = 18446744073709551616 := by decide
  omega
theorem fits_prod {X n : Nat} {b : Int} (h : X < 2 ^ n) (h0 : 0 ≤ b) (hb : b ≤ 1099511627776) : Fits ((X : Int) * b) (n / 32 + 1 + 2) := by
  unfold Fits
  have h1 := pow_bp n
  rw [bp_add, Int.natAbs_mul, Int.natAbs_natCast]
  have h2 : bp 2 = 18446744073709551616 := by decide
  have h3 : X * b.natAbs ≤ X * 1099511627776 := Nat.mul_le_mul_left _ (by omega)
  have h4 : X * 1099511627776 < bp (n / 32 + 1) * 18446744073709551616 := by
    have : X * 1099511627776 ≤ bp (n / 32 + 1) * 1099511627776 := Nat.mul_le_mul_right _ (by omega)
    have := bp_pos (n / 32 + 1)
    omega
  rw [h2]
  omega
theorem cmpZ_lt {x y : Int} (h : x < y) : cmpZ x y = -1 := by unfold cmpZ; rw [if_pos h]
theorem cmpZ_gt {x y : Int} (h : y < x) : cmpZ x y = 1 := by unfold cmpZ; rw [if_neg (by omega), if_pos h]
theorem cmpZ_eq {x y : Int} (h : x = y) : cmpZ x y = 0 := by unfold cmpZ; rw [if_neg (by omega), if_neg (by omega)]
set_option maxRecDepth 20000 in
set_option maxHeartbeats 4000000 in
theorem ctoss_any (t : List Bool) (a b : Int) (A : Option Addr) (c : Nat) (w : World) (hs : Seg w w.heap.size A (t.map .bool)) (hm : t.length < 140737488355328) :
    Calls Try.prog 50 #[.slice A t.length c, FracV a b] w fun e w' => e = C3 (ptoss t a b) ∧ Below w.heap.size w w' := by
  have HS := Lib.hid hs
  have hr := cright2_any a b (w.alloc (.cells #[.int .i64 a, .int .i64 b] 62))
  clear hs
  cases hg : cok a b with
  | false =>
    rw [hg] at hr
    have HR := Lib.hid hr
    have HP : Hid (ptoss t a b = (false, 0, 2)) := by unfold ptoss Hid; rw [hg]; rfl
    clear hr hg
    go_enter Try.func50, Try.ntmps50
    go_wp2_with fail
    refine HR.out.mono ?_
    rintro e w1 ⟨rfl, hb⟩
    have HB1 : Hid (Below w.heap.size w w1) := ((Below.refl _ _).alloc (Nat.le_refl _) _).trans (hb.mono (by simp))
    clear hb
    go_wp2_with fail
    refine bodyPost_ret (v := .tuple #[.bool false, .int .i64 0, .int .i64 2]) (by simp [results, Try.results50, go_sem]) rfl ⟨by rw [HP.out], HB1.out⟩
  | true =>
    rw [hg] at hr
    have HR := Lib.hid hr
    have HP : Hid (ptoss t a b = ctf b t a 0) := by unfold ptoss Hid; rw [hg]; rfl
    unfold cok at hg
    simp at hg
    obtain ⟨g1, g2, g3, g4⟩ := hg
    clear hr
    go_enter Try.func50, Try.ntmps50
    go_wp2_with fail
    refine HR.out.mono ?_
    rintro e w1 ⟨rfl, hb⟩
    have HB1 : Hid (Below w.heap.size w w1) := ((Below.refl _ _).alloc (Nat.le_refl _) _).trans (hb.mono (by simp))
    have HBK : Hid (Blk w1 w.heap.size 62 #[.int .i64 a, .int .i64 b]) := (Blk.new w 62 #[.int .i64 a, .int .i64 b]).below hb (by simp)
    have HS1 := Lib.hid (HS.out.below HB1.out)
    clear hb
    go_wp2_with fail
    have HC0 : Hid (CoinI w (w1.alloc (.cells #[.bool false, .slice none 0 0] tI)) w.heap.size w1.heap.size a b 0) :=
      ⟨HBK.out.alloc _, intZ_zero w1, newBlk _ _ _, Nat.ne_of_lt HBK.out.lt, HB1.out.size, Nat.le_refl _, HB1.out.alloc HB1.out.size _⟩
    generalize w1.heap.size = gx at *
    clear HBK HS1 HB1
    go_loopw [8] (fun s8 wr => ∃ (n X : Nat) (r : Int), n ≤ t.length ∧ s8 = .int .i64 n ∧ CoinI w wr w.heap.size gx a b X ∧ X < 2 ^ n ∧ a * (2 ^ n : Nat) - X * b = r ∧ Hid (ptoss t a b = ctf b (t.drop n) r n)) (fun s8 _ => t.length + 1 - (intOf s8).toNat)
    case atStart => exact ⟨0, 0, a, Nat.zero_le _, rfl, HC0.out, by decide, by simp, HP.out⟩
    case round =>
      clear HC0
      obtain ⟨n, X, r, hn, rfl, hci, hX, hr, hp⟩ := hrel
      have HCI := Lib.hid hci
      have HXN := Lib.hid hX
      have HRR := Lib.hid hr
      have HPR := Lib.hid hp.out
      have hc0 := hci.1.cell 0 (u := .int .i64 a) rfl
      have hc1 := hci.1.cell 1 (u := .int .i64 b) rfl
      have hl0 : w.heap.size < wr.heap.size := hci.1.lt
      clear hci hX hr hp
      have i1 : 0 ≤ (n : Int) := by omega
      go_wp2_with fail
      refine (newInt_any a _ (by omega) (by omega)).mono ?_
      rintro e w2 ⟨rfl, hn2⟩
      rw [show (wr.alloc (.cells #[.bool false, .slice none 0 0] tI)).heap.size = wr.heap.size + 1 by simp] at hn2
      have HN2 := Lib.hid hn2
      clear hn2
      go_wp2_with fail
      have hf3 : Fits a 3 := fits_small (by omega) (by omega) 1
      have hn47 : n < 140737488355328 := by omega
      have hib := (newBlk wr (.bool false) (.slice none 0 0)).below HN2.out.2.2.1
      refine (lsh_any wr.heap.size _ 0 n a 3 w2 hib HN2.out.1 hf3 (by decide) hn47).mono ?_
      clear hf3 hib
      rintro e w3 ⟨rfl, hp3⟩
      have HY3 := Lib.hid (newz_put HN2.out hp3)
      have HCI3 := Lib.hid (HCI.out.below HY3.out.2.2.1)
      have hc0 := HCI3.out.1.cell 0 (u := .int .i64 a) rfl
      have hc1 := HCI3.out.1.cell 1 (u := .int .i64 b) rfl
      have hl3 : w.heap.size < w3.heap.size := HCI3.out.1.lt
      have HGY : Hid (wr.heap.size < w3.heap.size) := HY3.out.2.1.lt
      clear hp3 HN2 hl0
      generalize wr.heap.size = gy at *
      go_wp2_with fail
      refine (newInt_any b _ (by omega) (by omega)).mono ?_
      rintro e w4 ⟨rfl, hn4⟩
      rw [show (w3.alloc (.cells #[.bool false, .slice none 0 0] tI)).heap.size = w3.heap.size + 1 by simp] at hn4
      have HN4 := Lib.hid hn4
      have HCI4 : Hid (CoinI w w4 w.heap.size gx a b X) := (HCI3.out.below ((Below.refl _ _).alloc (Nat.le_refl _) _)).below hn4.2.2.1
      clear hn4
      go_wp2_with fail
      have hf1 := fits_tape HXN.out
      have hf2 : Fits b (n / 32 + 2) := fits_small (by omega) (by omega) _
      have hib := (newBlk w3 (.bool false) (.slice none 0 0)).below HN4.out.2.2.1
      refine (mul_any w3.heap.size gx 0 _ 0 X b (n / 32 + 2) w4 hib HCI4.out.2.1 HN4.out.1 hf1 hf2 (by omega)).mono ?_
      clear hf1 hf2 hib
      rintro e w5 ⟨rfl, hp5⟩
      have HL5 := Lib.hid (newz_put HN4.out hp5)
      have HCI5 := Lib.hid (HCI3.out.below HL5.out.2.2.1)
      have HY5 : Hid (IntZ w5 gy 0 (a * (2 ^ n : Nat))) := HY3.out.1.below HL5.out.2.2.1
      have hc0 := HCI5.out.1.cell 0 (u := .int .i64 a) rfl
      have hc1 := HCI5.out.1.cell 1 (u := .int .i64 b) rfl
      have hl5 : w.heap.size < w5.heap.size := HCI5.out.1.lt
      clear hp5 HN4 HCI4 HCI3 HY3 hl3
      generalize w3.heap.size = gl at *
      go_wp2_with fail
      refine (newInt_any b _ (by omega) (by omega)).mono ?_
      rintro e w6 ⟨rfl, hn6⟩
      rw [show (w5.alloc (.cells #[.bool false, .slice none 0 0] tI)).heap.size = w5.heap.size + 1 by simp] at hn6
      have HN6 := Lib.hid hn6
      have HLL6 : Hid (IntZ w6 gl 0 (X * b)) := (HL5.out.1.alloc _).below hn6.2.2.1
      clear hn6
      go_wp2_with fail
      have hf1 : Fits ((X : Int) * b) (n / 32 + 1 + 2) := fits_prod HXN.out (by omega) (by omega)
      have hf2 : Fits b (n / 32 + 1 + 2) := fits_small (by omega) (by omega) _
      have hib := (newBlk w5 (.bool false) (.slice none 0 0)).below HN6.out.2.2.1
      refine (add_any w5.heap.size gl 0 _ 0 (X * b) b (n / 32 + 1 + 2) w6 hib HLL6.out HN6.out.1 hf1 hf2 (by omega)).mono ?_
      clear hf1 hf2 hib
      rintro e w7 ⟨rfl, hp7⟩
      have HH7 := Lib.hid (newz_put HN6.out hp7)
      have HCI7 := Lib.hid (HCI5.out.below HH7.out.2.2.1)
      have HY7 : Hid (IntZ w7 gy 0 (a * (2 ^ n : Nat))) := HY5.out.below HH7.out.2.2.1
      have HL7 : Hid (IntZ w7 gl 0 (X * b)) := HL5.out.1.below HH7.out.2.2.1
      clear hp7 HN6 HLL6 HCI5 HY5 HL5 hl5 hc0 hc1
      generalize w5.heap.size = gh at *
      have hcmp1 := cmp_any gy 0 gh 0 (a * (2 ^ n : Nat)) (X * b + b) w7 HY7.out HH7.out.1
      have HHT := HH7
      by_cases h1 : b ≤ r
      · have HV : Hid (ptoss t a b = (true, (n : Int), 0)) := by unfold Hid; rw [HPR.out, ctf_yes h1]
        have hge : 0 ≤ cmpZ (a * (2 ^ n : Nat)) (X * b + b) := by
          have h2 := HRR.out
          by_cases e : a * ((2 ^ n : Nat) : Int) = X * b + b
          · rw [cmpZ_eq e]; exact Int.le_refl _
          · rw [cmpZ_gt (by omega)]; decide
        have HC := Lib.hid hcmp1
        generalize cmpZ (a * (2 ^ n : Nat)) (X * b + b) = v at *
        clear hcmp1
        go_wp2_with fail
        refine HC.out.mono ?_
        rintro e w' ⟨rfl, m, rfl⟩
        go_wp2_with fail
        refine bodyPost_ret (v := .tuple #[.bool true, .int .i64 n, .int .i64 0]) (by simp [results, Try.results50, go_sem]) rfl ⟨by rw [HV.out], below_drewN HCI7.out.2.2.2.2.2.2 _⟩
      · have hlt : ¬ 0 ≤ cmpZ (a * (2 ^ n : Nat)) (X * b + b) := by
          have h2 := HRR.out
          rw [cmpZ_lt (by omega)]; decide
        have HC := Lib.hid hcmp1
        generalize cmpZ (a * (2 ^ n : Nat)) (X * b + b) = v at *
        clear hcmp1
        have HY8 : Hid (∀ m, IntZ (w7.drewN m) gy 0 (a * (2 ^ n : Nat))) := fun m => HY7.out.drewN m
        have HL8 : Hid (∀ m, IntZ (w7.drewN m) gl 0 (X * b)) := fun m => HL7.out.drewN m
        go_wp2_with fail
        refine HC.out.mono ?_
        rintro e w' ⟨rfl, m, rfl⟩
        have hcmp2 := cmp_any gy 0 gl 0 (a * (2 ^ n : Nat)) (X * b) (w7.drewN m) (HY8.out m) (HL8.out m)
        have HCI8 := Lib.hid (HCI7.out.drewN m)
        generalize w7.drewN m = w8 at *
        have HC2 := Lib.hid hcmp2
        clear hcmp2
        by_cases h2 : r ≤ 0
        · have HV : Hid (ptoss t a b = (false, (n : Int), 0)) := by unfold Hid; rw [HPR.out, ctf_no (by omega) (by omega)]
          have hle : cmpZ (a * (2 ^ n : Nat)) (X * b) ≤ 0 := by
            have h3 := HRR.out
            by_cases e : a * ((2 ^ n : Nat) : Int) = X * b
            · rw [cmpZ_eq e]; exact Int.le_refl _
            · rw [cmpZ_lt (by omega)]; decide
          generalize cmpZ (a * (2 ^ n : Nat)) (X * b) = v2 at *
          go_wp2_with fail
          refine HC2.out.mono ?_
          rintro e w' ⟨rfl, m2, rfl⟩
          go_wp2_with fail
          refine bodyPost_ret (v := .tuple #[.bool false, .int .i64 n, .int .i64 0]) (by simp [results, Try.results50, go_sem]) rfl ⟨by rw [HV.out], below_drewN HCI8.out.2.2.2.2.2.2 _⟩
        · have hgt : ¬ cmpZ (a * (2 ^ n : Nat)) (X * b) ≤ 0 := by
            have h3 := HRR.out
            rw [cmpZ_gt (by omega)]; decide
          generalize cmpZ (a * (2 ^ n : Nat)) (X * b) = v2 at *
          by_cases hnt : n < t.length
          · have b3 : ((n : Int) == (t.length : Int)) = false := by rw [beq_eq_false_iff_ne]; omega
            have i2 : (n : Int) < (t.length : Int) := by omega
            have HST : Hid (ptoss t a b = ctf b (t.drop (n + 1)) (2 * r - if t[n] = true then b else 0) (n + 1)) := by
              unfold Hid; rw [HPR.out, drop_bool hnt, ctf_step (by omega) (by omega)]
            have hcb := (HS.out.below HCI8.out.2.2.2.2.2.2).bool hnt
            obtain ⟨ad, rfl, hadb, hcell⟩ := hcb
            have HHC : Hid (∀ u, Below w.heap.size w u → u.cell? (ad.add n) = some (.bool t[n])) := fun u hu => by
              obtain ⟨ad2, e2, _, h3⟩ := (HS.out.below hu).bool hnt
              injection e2 with e2
              subst e2
              exact h3
            have HP2 : Hid (2 ^ (n + 1) = 2 ^ n * 2) := Nat.pow_succ ..
            clear hcell hadb HC HY7 HL7 HH7 HY8 HL8 HPR
            generalize t[n] = x at *
            go_wp2_with fail
            refine HC2.out.mono ?_
            rintro e w' ⟨rfl, m2, rfl⟩
            have HCI9 := Lib.hid (HCI8.out.drewN m2)
            clear HCI8 HC2
            generalize w8.drewN m2 = w9 at *
            go_wp2_with fail
            have hf1 := fits_tape HXN.out
            refine (lsh_any gx gx 0 1 X (n / 32 + 2) w9 HCI9.out.2.2.1 HCI9.out.2.1 hf1 (by omega) (by decide)).mono ?_
            clear hf1
            rintro e w10 ⟨rfl, hp10⟩
            have HCI10 : Hid (CoinI w w10 w.heap.size gx a b (X * 2)) := HCI9.out.put hp10 (by simp)
            have hcell := HHC.out w10 HCI10.out.2.2.2.2.2.2
            clear hp10 HCI9
            have HX2 : Hid (X * 2 < 2 ^ (n + 1)) := by have := HXN.out; unfold Hid; rw [HP2.out]; omega
            have HR2 : Hid (a * ((2 ^ (n + 1) : Nat) : Int) = 2 * (a * ((2 ^ n : Nat) : Int))) := by
              unfold Hid; rw [HP2.out, Int.natCast_mul, ← Int.mul_assoc, Int.mul_comm]; rfl
            cases x with
            | false =>
              rw [if_neg (by decide), Int.sub_zero] at HST
              go_wp2_with fail
              go_roundw
              case rel =>
                refine ⟨n + 1, X * 2, 2 * r, by omega, by go_num, HCI10.out, HX2.out, ?_, HST.out⟩
                have h3 := HRR.out
                rw [HR2.out, Int.natCast_mul, Int.mul_right_comm]
                generalize a * ((2 ^ n : Nat) : Int) = Y at *
                generalize (X : Int) * b = Z at *
                omega
              case measure => simp [intOf]; omega
            | true =>
              rw [if_pos rfl] at HST
              go_wp2_with fail
              refine (newInt_any 1 _ (by decide) (by decide)).mono ?_
              rintro e w11 ⟨rfl, hn11⟩
              have HN11 := Lib.hid hn11
              have HCI11 : Hid (CoinI w w11 w.heap.size gx a b (X * 2)) := HCI10.out.below hn11.2.2.1
              clear hn11
              go_wp2_with fail
              have hf1 := fits_tape HX2.out
              have hf2 : Fits 1 ((n + 1) / 32 + 2) := fits_small (by decide) (by decide) _
              refine (add_any gx gx 0 w10.heap.size 0 (X * 2 : Nat) 1 ((n + 1) / 32 + 2) w11 HCI11.out.2.2.1 HCI11.out.2.1 HN11.out.1 hf1 hf2 (by omega)).mono ?_
              clear hf1 hf2
              rintro e w12 ⟨rfl, hp12⟩
              have HCI12 : Hid (CoinI w w12 w.heap.size gx a b (X * 2 + 1)) := HCI11.out.put hp12 (by omega)
              clear hp12
              go_wp2_with fail
              go_roundw
              case rel =>
                refine ⟨n + 1, X * 2 + 1, 2 * r - b, by omega, by go_num, HCI12.out, by have := HXN.out; rw [HP2.out]; omega, ?_, HST.out⟩
                have h3 := HRR.out
                rw [HR2.out, Int.natCast_add, Int.natCast_mul, Int.add_mul, Int.mul_right_comm, show ((1 : Nat) : Int) * b = b by omega]
                generalize a * ((2 ^ n : Nat) : Int) = Y at *
                generalize (X : Int) * b = Z at *
                omega
              case measure => simp [intOf]; omega
          · have b3 : ((n : Int) == (t.length : Int)) = true := by rw [beq_iff_eq]; omega
            have HV : Hid (ptoss t a b = (false, 0, 7)) := by unfold Hid; rw [HPR.out, List.drop_eq_nil_of_le (by omega), ctf_end (by omega) (by omega)]
            go_wp2_with fail
            refine HC2.out.mono ?_
            rintro e w' ⟨rfl, m2, rfl⟩
            go_wp2_with fail
            refine bodyPost_ret (v := .tuple #[.bool false, .int .i64 0, .int .i64 7]) (by simp [results, Try.results50, go_sem]) rfl ⟨by rw [HV.out], below_drewN HCI8.out.2.2.2.2.2.2 _⟩
end Go.Proofs.Ytmcbkjepjijfjaa
