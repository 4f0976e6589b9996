/- Whole numbers in memory: the greatest common divisor, walked. No condition but the size. -/
import Derived.Test.YtkffakekakhgdaaGcdA
import Derived.Test.YtkffakekakhgdaaBigQ
import Derived.Test.YtkffakekakhgdaaBigE
import Derived.Test.YtkffakekakhgdaaBigS
import Derived.Deep.LoopGhost
import Derived.BigQuiet
namespace Go.Proofs.Ytkffakekakhgdaa
open Go.ChangeShapes Go.WideShapes Go.ChangeAt Go.RowKit
set_option linter.unusedVariables false

theorem fits_nat {z : Int} {L : Nat} (h : Fits z L) : Fits (z.natAbs : Int) L := by unfold Fits at *; rw [Int.natAbs_natCast]; exact h
theorem fits_mod {p q : Nat} {L : Nat} (h : Fits (p : Int) L) : Fits (((p % q : Nat) : Int)) L := by
  unfold Fits at *; rw [Int.natAbs_natCast] at *; exact Nat.lt_of_le_of_lt (Nat.mod_le _ _) h
theorem gcd_step (p q : Nat) : Nat.gcd q (p % q) = Nat.gcd p q := by
  rw [Nat.gcd_comm q (p % q), ← Nat.gcd_rec, Nat.gcd_comm]
theorem urem {c d : Nat} (h : 0 < d) : Int.tmod (c : Int) (d : Int) = ((c % d : Nat) : Int) := by
  rw [Int.tmod_eq_emod_of_nonneg (by omega)]; rfl
set_option maxRecDepth 20000 in
set_option maxHeartbeats 4000000 in
theorem gcd_any (g ga oa gb ob : Nat) (a b : Int) (L : Nat) (w : World) (hg : IntBlk w g) (ha : IntZ w ga oa a) (hb : IntZ w gb ob b) (fa : Fits a L) (fb : Fits b L) (l1 : 1 ≤ L) (hL : L < 8796093022207) :
    Calls Try.prog 53 #[.pointer (some ⟨g, 0, none⟩), .pointer none, .pointer none, .pointer (some ⟨ga, oa, none⟩), .pointer (some ⟨gb, ob, none⟩)] w fun e w' => e = .returned (.pointer (some ⟨g, 0, none⟩)) ∧ PutZ w w' g ((Nat.gcd a.natAbs b.natAbs : Nat) : Int) := by
  have HG := Lib.hid hg
  have HA := Lib.hid ha
  have HB := Lib.hid hb
  have FA := Lib.hid (fits_nat fa)
  have FB := Lib.hid (fits_nat fb)
  have HL := Lib.hid (And.intro l1 hL)
  clear hg ha hb fa fb l1 hL
  go_enter Try.func53, Try.ntmps53
  go_wp2_with fail
  refine (abs_any w.heap.size ga oa a _ (newBlk _ _ _) (HA.out.alloc _)).mono ?_
  rintro e w1 ⟨rfl, hp⟩
  have HP := Lib.hid hp.new
  clear hp
  go_wp2_with fail
  refine (abs_any w1.heap.size gb ob b _ (newBlk _ _ _) ((HB.out.below HP.out.2.2.1).alloc _)).mono ?_
  rintro e w2 ⟨rfl, hp⟩
  have HQ := Lib.hid hp.new
  have HP2 : Hid (IntZ w2 w.heap.size 0 (a.natAbs : Int)) := HP.out.1.below HQ.out.2.2.1
  have HPB : Hid (IntBlk w2 w.heap.size) := HP.out.2.1.below HQ.out.2.2.1
  have HW2 : Hid (Below w.heap.size w w2) := HP.out.2.2.1.trans (HQ.out.2.2.1.mono HP.out.2.2.1.size)
  have HZ2 : Hid (w.heap.size ≤ w1.heap.size) := HP.out.2.2.1.size
  clear hp
  go_wp2_with fail
  go_loopg [11, 12] b.natAbs (fun G s11 s12 wr => ∃ gp gq p q : Nat, q ≤ G ∧ s11 = .pointer (some ⟨gp, 0, none⟩) ∧ s12 = .pointer (some ⟨gq, 0, none⟩) ∧ w.heap.size ≤ gp ∧ w.heap.size ≤ gq ∧ Hid (IntZ wr gp 0 (p : Int)) ∧ Hid (IntBlk wr gp) ∧ Hid (IntZ wr gq 0 (q : Int)) ∧ Hid (IntBlk wr gq) ∧ Hid (Nat.gcd p q = Nat.gcd a.natAbs b.natAbs) ∧ Hid (Fits (p : Int) L) ∧ Hid (Fits (q : Int) L) ∧ Hid (Below w.heap.size w wr))
  case atStart => exact ⟨w.heap.size, w1.heap.size, a.natAbs, b.natAbs, Nat.le_refl _, rfl, rfl, Nat.le_refl _, HZ2.out, HP2.out, HPB.out, HQ.out.1, HQ.out.2.1, rfl, FA.out, FB.out, HW2.out⟩
  case round =>
    clear HP HQ HP2 HPB HW2 HZ2
    obtain ⟨gp, gq, p, q, hqG, rfl, rfl, hgp, hgq, hzp, hbp, hzq, hbq, hgc, hfp, hfq, hbw⟩ := hrel
    have HGG := Lib.hid (And.intro hqG (And.intro hgp hgq))
    clear hqG hgp hgq
    go_wp2_with fail
    refine (sign_any gq 0 q wr hzq.out).mono ?_
    rintro e w' ⟨rfl, rfl⟩
    by_cases hq0 : q = 0
    · have hs : sgn (q : Int) = 0 := by unfold sgn; rw [if_pos (by omega)]
      have HR : Hid (Nat.gcd a.natAbs b.natAbs = p) := by unfold Hid; rw [← hgc.out, hq0, Nat.gcd_zero_right]
      rw [hs]
      clear hs hq0
      go_wp2_with fail
      refine (setZ_any g gp 0 p _ (HG.out.below hbw.out) hzp.out).mono ?_
      rintro e w3 ⟨rfl, hp⟩
      have HP3 := Lib.hid hp
      clear hp
      go_wp2_with fail
      go_ret
      exact ⟨rfl, by rw [HR.out]; exact HP3.out.1, HP3.out.2.1, (grown_of_below hbw.out _).trans HP3.out.2.2⟩
    · have hs : sgn (q : Int) = 1 := by unfold sgn; rw [if_neg (by omega), if_neg (by omega)]
      have HQ0 : Hid (0 < q) := by unfold Hid; omega
      rw [hs]
      obtain ⟨bp1, dp, A1, c1, hb1, _, _, _, sp⟩ := hzp.out.open_ hbp.out
      obtain ⟨bq1, dq, A2, c2, hb2, _, _, _, sq⟩ := hzq.out.open_ hbq.out
      have x1 := hb1.cell 1 rfl
      have x2 := hb2.cell 1 rfl
      have HSP := Lib.hid sp
      have HSQ := Lib.hid sq
      clear hb1 hb2 sp sq hs hq0
      by_cases h3 : dp.length < 3 ∧ dq.length < 3
      · have hup : p < 18446744073709551616 := by have h := dv_two HSP.out.1 h3.1; have := HSP.out.abs; omega
        have huq : q < 18446744073709551616 := by have h := dv_two HSQ.out.1 h3.2; have := HSQ.out.abs; omega
        have y1 : (dp.length : Int) < 3 := by omega
        have y2 : (dq.length : Int) < 3 := by omega
        have e1 : (p : Int).natAbs % 18446744073709551616 = p := by rw [Int.natAbs_natCast]; exact Nat.mod_eq_of_lt hup
        have e2 : (q : Int).natAbs % 18446744073709551616 = q := by rw [Int.natAbs_natCast]; exact Nat.mod_eq_of_lt huq
        have HU := Lib.hid (And.intro hup huq)
        clear h3 hup huq
        go_wp2_with fail
        refine (uint64_any gp 0 p _ hzp.out).mono ?_
        rintro e w3 ⟨rfl, rfl⟩
        rw [e1]
        go_wp2_with fail
        refine (uint64_any gq 0 q _ hzq.out).mono ?_
        rintro e w3 ⟨rfl, rfl⟩
        rw [e2]
        clear e1 e2 y1 y2 x1 x2
        go_wp2_with fail
        obtain ⟨wo, hwo⟩ : ∃ wo : World, wo = wr := ⟨_, rfl⟩
        have HWO := Lib.hid hwo
        rw [← hwo]
        clear hwo
        go_loopw [13, 14] (fun s13 s14 wx => ∃ c d m : Nat, s13 = .int .u64 c ∧ s14 = .int .u64 d ∧ Hid (Nat.gcd c d = Nat.gcd p q) ∧ c < 18446744073709551616 ∧ d < 18446744073709551616 ∧ wx = wo.drewN m) (fun _ s14 _ => (intOf s14).toNat)
        case atStart => exact ⟨p, q, 0, rfl, rfl, rfl, HU.out.1, HU.out.2, by first | rfl | simp⟩
        case round =>
          obtain ⟨c, d, m, rfl, rfl, hcd, hc, hd, rfl⟩ := hrel
          by_cases hd0 : d = 0
          · have HR : Hid (Nat.gcd a.natAbs b.natAbs = c) := by unfold Hid; rw [← hgc.out, ← hcd.out, hd0, Nat.gcd_zero_right]
            have i0 : ¬ 0 < (d : Int) := by omega
            have HCL := Lib.hid hc
            have HBX : Hid (Below w.heap.size w wo) := by rw [HWO.out]; exact hbw.out
            clear hd0 hc hd
            go_wp2_with fail
            refine (setU_any g c _ ((HG.out.below HBX.out).drewN _) HCL.out).mono ?_
            rintro e w3 ⟨rfl, hp⟩
            have HP3 := Lib.hid hp
            clear hp
            go_wp2_with fail
            go_ret
            exact ⟨rfl, by rw [HR.out]; exact HP3.out.1, HP3.out.2.1, ((grown_of_below HBX.out _).trans (grown_drewN _ _ _)).trans HP3.out.2.2⟩
          · have i0 : 0 < (d : Int) := by omega
            have hu := urem (c := c) (d := d) (by omega)
            have hlt : c % d < d := Nat.mod_lt _ (by omega)
            have hst : Hid (Nat.gcd d (c % d) = Nat.gcd p q) := by unfold Hid; rw [gcd_step, hcd.out]
            have hz : ¬ (d : Int) = 0 := by omega
            have HDD := Lib.hid (And.intro hlt hd)
            generalize c % d = r at *
            have hwr : IntKind.u64.wrap (r : Int) = (r : Int) := by simp [IntKind.wrap, IntKind.bits, IntKind.signed]; omega
            clear hd0 hc hd hlt
            go_wp2_with fail

            go_quiet (fail)
            go_wp2_with fail
            go_roundw
            case rel => exact ⟨d, r, m + nq, rfl, rfl, hst, HDD.out.2, Nat.lt_trans HDD.out.1 HDD.out.2, by rw [World.drewN_drewN]⟩
            case measure => simp [intOf]; exact HDD.out.1
      · have hcs : (¬ (dp.length : Int) < 3) ∨ ((dp.length : Int) < 3 ∧ ¬ (dq.length : Int) < 3) := by omega
        have hst : Hid (Nat.gcd q (p % q) = Nat.gcd a.natAbs b.natAbs) := by unfold Hid; rw [gcd_step, hgc.out]
        have HML : Hid (p % q < q) := Nat.mod_lt _ HQ0.out
        have HEM : Hid ((p : Int) % (q : Int) = ((p % q : Nat) : Int)) := rfl
        have HFM := Lib.hid (fits_mod (q := q) hfp.out)
        clear h3
        rcases hcs with y1 | ⟨y1, y2⟩
        · go_wp2_with fail
          refine (mod_any wr.heap.size gp 0 gq 0 p q L _ (newBlk _ _ _) (hzp.out.alloc _) (hzq.out.alloc _) (by have := HQ0.out; omega) hfp.out hfq.out HL.out.1 HL.out.2).mono ?_
          rintro e w3 ⟨rfl, hp⟩
          rw [HEM.out] at hp
          have HN3 := Lib.hid hp.new
          clear hp
          go_wp2_with fail
          go_roundg (p % q)
          case measure => have := HML.out; have := HGG.out.1; omega
          case rel => exact ⟨gq, wr.heap.size, q, p % q, Nat.le_refl _, rfl, rfl, HGG.out.2.2, hbw.out.size, hzq.out.below HN3.out.2.2.1, hbq.out.below HN3.out.2.2.1, HN3.out.1, HN3.out.2.1, hst, hfq, HFM, hbw.out.trans (HN3.out.2.2.1.mono hbw.out.size)⟩
        · go_wp2_with fail
          refine (mod_any wr.heap.size gp 0 gq 0 p q L _ (newBlk _ _ _) (hzp.out.alloc _) (hzq.out.alloc _) (by have := HQ0.out; omega) hfp.out hfq.out HL.out.1 HL.out.2).mono ?_
          rintro e w3 ⟨rfl, hp⟩
          rw [HEM.out] at hp
          have HN3 := Lib.hid hp.new
          clear hp
          go_wp2_with fail
          go_roundg (p % q)
          case measure => have := HML.out; have := HGG.out.1; omega
          case rel => exact ⟨gq, wr.heap.size, q, p % q, Nat.le_refl _, rfl, rfl, HGG.out.2.2, hbw.out.size, hzq.out.below HN3.out.2.2.1, hbq.out.below HN3.out.2.2.1, HN3.out.1, HN3.out.2.1, hst, hfq, HFM, hbw.out.trans (HN3.out.2.2.1.mono hbw.out.size)⟩
end Go.Proofs.Ytkffakekakhgdaa
