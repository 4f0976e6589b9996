/- The reference: OAdd, walked, where it says yes. No condition. -/
import Derived.Test.YtaehehoeidnidaaQuaN
import Derived.Test.YtaehehoeidnidaaQuaF
import Derived.Test.YtaehehoeidnidaaQuaQ
import Derived.Deep.DeepCutAuto
import Derived.StillTailTactics
namespace Go.Proofs.Ytaehehoeidnidaa
open Go.ChangeShapes Go.WideShapes Go.ChangeAt Go.RowKit
set_option linter.unusedVariables false

theorem Own3.eq_ {w : World} {base : Nat} {v : Value} {ps qs : List Rk} (h : Own3 w base v ps) (e : qs = ps) : Hid (Own3 w base v qs) := by subst e; exact h
theorem meas_down (J : Nat) : (((J : Int) - 1) + 1).toNat < ((J : Int) + 1).toNat := by omega
theorem own_cells {w : World} {base : Nat} {ad : Addr} {n c : Nat} {ps : List Rk} (h : Own3 w base (.slice (some ad) n c) ps) : ∀ j u, (flat3 ps)[j]? = some u → w.cell? (ad.add j) = some u := by
  intro j u hu
  obtain ⟨A, c', e, _, hs⟩ := h.seg
  injection e with e1 e2 e3
  subst e1
  obtain ⟨a2, e4, _, hc⟩ := hs.get hu
  injection e4 with e4
  subst e4
  exact hc
set_option maxRecDepth 100000 in
set_option maxHeartbeats 8000000 in
theorem oadd_good (parts : Int) (A : Option Addr) (ps : List Rk) (c : Nat) (x : Int) (w : World) (hs : Seg w w.heap.size A (flat3 ps)) (hm : ps.length ≤ 9223372036854775807) (hq : QOk parts ps) (hf : ¬ (ps.length = 400 ∨ qsum ps = 1099511627776)) :
    Calls Try.prog 83 #[.int .i64 parts, .slice A ps.length c, .int .i64 x] w (KOut w.heap.size (qaddR parts ps x) w) := by
  have HS := Lib.hid hs
  have HM := Lib.hid hm
  have HQ := Lib.hid (qokT hq)
  have HOK := Lib.hid hq
  have HF : Hid (qaddR parts ps x = (qnew parts ps x, 0)) := by unfold Hid qaddR; rw [if_neg (by rw [qokT hq]; simp), if_neg hf]
  have hl := hq.len
  have hal := hq.all
  have HL : Hid (ps.length < 400) := by unfold Hid; omega
  have b1 : decide (399 < (ps.length : Int)) = false := decide_eq_false (by omega)
  have b2 : decide (399 < ps.length) = false := decide_eq_false (by omega)
  have b3 : decide (1099511627776 ≤ qsum ps) = false := decide_eq_false (by omega)
  clear hs hm hq hf hl hal
  go_enter Try.func83, Try.ntmps83
  go_wp2_with fail
  refine (oright_any parts A ps c _ HS.out HM.out).mono ?_
  rintro e w1 ⟨rfl, hb⟩
  rw [HQ.out]
  have HB := Lib.hid hb
  clear hb
  go_wp2_with fail
  refine (oall_any A ps c _ ((HS.out.below HB.out).more HB.out.size) HOK.out.len HOK.out.one).mono ?_
  rintro e w2 ⟨rfl, hb⟩
  have HB2 := Lib.hid (HB.out.trans (hb.mono HB.out.size))
  clear hb
  go_wp2_with fail
  clear b1 b2 b3
  go_loopw [8, 9, 35] (fun s8 s9 s35 wx => ∃ k : Nat, k ≤ ps.length ∧ s35 = .int .i64 k ∧ Hid (Own3 wx w.heap.size s8 (lowP x (ps.take k))) ∧ Hid (Own3 wx w.heap.size s9 (highP x (ps.take k))) ∧ Hid (Apart s8 s9) ∧ Hid (Below w.heap.size w wx)) (fun _ _ s35 _ => ps.length - (intOf s35).toNat)
  case atStart => exact ⟨0, Nat.zero_le _, rfl, Own3.none_, Own3.none_, Apart.none_ _, HB2.out⟩
  case round =>
    obtain ⟨k, hk, rfl, hlo, hhi, hap, hb⟩ := hrel
    by_cases hlt : k < ps.length
    · have i1 : (k : Int) < (ps.length : Int) := by omega
      obtain ⟨ad, rfl, _, c0, c1, c2⟩ := HS.out.trip hlt
      have d0 := (hb.out.cell (block_lt c0)).trans c0
      have d1 := (hb.out.cell (block_lt c1)).trans c1
      have d2 := (hb.out.cell (block_lt c2)).trans c2
      have HK := Lib.hid (And.intro hk hlt)
      have uk : Hid (wrap64 ((k : Int) + 1) = ((k + 1 : Nat) : Int)) := qk64 (by have := HL.out; omega)
      have HKat : Hid (kat ps k = ((kat ps k).1, (kat ps k).2.1, (kat ps k).2.2)) := rfl
      have HIN1 : Hid ((kat ps k).1 ≤ x → lowP x (ps.take (k + 1)) = lowP x (ps.take k) ++ [kat ps k] ∧ highP x (ps.take (k + 1)) = highP x (ps.take k)) := lowP_in hlt
      have HIN2 : Hid (¬ (kat ps k).1 ≤ x → lowP x (ps.take (k + 1)) = lowP x (ps.take k) ∧ highP x (ps.take (k + 1)) = highP x (ps.take k) ++ [kat ps k]) := highP_in hlt
      obtain ⟨N, hN⟩ : ∃ N, N = (kat ps k).1 := ⟨_, rfl⟩
      obtain ⟨g, hg⟩ : ∃ g, g = (kat ps k).2.1 := ⟨_, rfl⟩
      obtain ⟨m, hm⟩ : ∃ m, m = (kat ps k).2.2 := ⟨_, rfl⟩
      rw [← hN] at d0 HKat HIN1 HIN2
      rw [← hg] at d1 HKat
      rw [← hm] at d2 HKat
      have hlen := low_high_len x (ps.take k)
      rw [List.length_take] at hlen
      have HLn : Hid ((lowP x (ps.take k)).length ≤ 999 ∧ (highP x (ps.take k)).length ≤ 999) := by have := HL.out; unfold Hid; omega
      clear c0 c1 c2 hN hg hm hk hlt hlen
      have HBk : Hid (Blk ((wr.alloc (.cells #[.int .i64 N, .int .i64 g, .int .i64 m] 104)).alloc (.cells #[.int .i64 N, .int .i64 g, .int .i64 m] 104)) (wr.heap.size + 1) 104 (rkc (N, g, m))) := by
        have := Blk.new (wr.alloc (.cells #[.int .i64 N, .int .i64 g, .int .i64 m] 104)) 104 #[.int .i64 N, .int .i64 g, .int .i64 m]
        rw [show (wr.alloc (.cells #[.int .i64 N, .int .i64 g, .int .i64 m] 104)).heap.size = wr.heap.size + 1 by simp] at this
        exact this
      have HA1 : Hid (Own3 ((wr.alloc (.cells #[.int .i64 N, .int .i64 g, .int .i64 m] 104)).alloc (.cells #[.int .i64 N, .int .i64 g, .int .i64 m] 104)) w.heap.size u8 (lowP x (ps.take k))) := (hlo.out.alloc _).alloc _
      have HA2 : Hid (Own3 ((wr.alloc (.cells #[.int .i64 N, .int .i64 g, .int .i64 m] 104)).alloc (.cells #[.int .i64 N, .int .i64 g, .int .i64 m] 104)) w.heap.size u9 (highP x (ps.take k))) := (hhi.out.alloc _).alloc _
      have HWa : Hid (Below wr.heap.size wr ((wr.alloc (.cells #[.int .i64 N, .int .i64 g, .int .i64 m] 104)).alloc (.cells #[.int .i64 N, .int .i64 g, .int .i64 m] 104))) := ((Below.refl _ _).alloc (Nat.le_refl _) _).alloc (by simp) _
      have HSz : w.heap.size ≤ ((wr.alloc (.cells #[.int .i64 N, .int .i64 g, .int .i64 m] 104)).alloc (.cells #[.int .i64 N, .int .i64 g, .int .i64 m] 104)).heap.size := by have := hb.out.size; simp; omega
      by_cases hc : N ≤ x
      · have b4 : decide (N ≤ x) = true := decide_eq_true hc
        have HE := Lib.hid (HIN1.out hc)
        clear hc
        go_wp2_with (at_builtin; refine wpList_push3B _ rfl (.tmp 43) (.tmp 45) rfl w.heap.size _ (lowP x (ps.take k)) (N, g, m) rfl HA1.out ⟨wr.heap.size + 1, 0, none⟩ 1 rfl (rk_new HBk.out) HLn.out.1 HSz ?_; intro v1 w3 ho1 hg1 hm1)
        have hp := push_two hb.out hb.out.size hlo.out hhi.out hap.out HWa.out hg1.out hm1.out
        have HP := Lib.hid hp
        clear hp
        go_roundw
        case rel =>
          have := HK.out
          exact ⟨k + 1, by omega, by first | rfl | rw [uk.out], by unfold Hid; rw [HE.out.1, HKat.out]; exact ho1.out, by unfold Hid; rw [HE.out.2]; exact HP.out.1, HP.out.2.1, HP.out.2.2⟩
        case measure => (try rw [uk.out]); have := HK.out; simp [intOf]; omega
      · have b4 : decide (N ≤ x) = false := decide_eq_false hc
        have HE := Lib.hid (HIN2.out hc)
        clear hc
        go_wp2_with (at_builtin; refine wpList_push3B _ rfl (.tmp 47) (.tmp 49) rfl w.heap.size _ (highP x (ps.take k)) (N, g, m) rfl HA2.out ⟨wr.heap.size + 1, 0, none⟩ 1 rfl (rk_new HBk.out) HLn.out.2 HSz ?_; intro v1 w3 ho1 hg1 hm1)
        have hp := push_two hb.out hb.out.size hhi.out hlo.out hap.out.symm HWa.out hg1.out hm1.out
        have HP := Lib.hid hp
        clear hp
        go_roundw
        case rel =>
          have := HK.out
          exact ⟨k + 1, by omega, by first | rfl | rw [uk.out], by unfold Hid; rw [HE.out.1]; exact HP.out.1, by unfold Hid; rw [HE.out.2, HKat.out]; exact ho1.out, HP.out.2.1.symm, HP.out.2.2⟩
        case measure => (try rw [uk.out]); have := HK.out; simp [intOf]; omega
    · obtain rfl : k = ps.length := by omega
      rw [List.take_length] at hlo hhi
      have hlh := low_high HOK.out x
      rw [hlh.1] at hlo
      rw [hlh.2] at hhi
      obtain ⟨lo, hlo1⟩ : ∃ lo, lo = qlow ps x := ⟨_, rfl⟩
      obtain ⟨hi, hhi1⟩ : ∃ hi, hi = qhigh ps x := ⟨_, rfl⟩
      rw [← hlo1] at hlo
      rw [← hhi1] at hhi
      have hpl : lo.length + hi.length = ps.length := by
        rw [hlo1, hhi1, ← List.length_append, q_parts]
      have hown : qown ps x = (x, 1, if lo ≠ [] ∧ hi ≠ [] then (kat hi 0).2.1 + (kat hi 0).2.2 - 1 else 0) := by unfold qown; rw [← hlo1, ← hhi1]
      have hqb : ∀ r ∈ hi, 1 ≤ r.2.1 ∧ r.2.1 ≤ 1099511627776 ∧ 0 ≤ r.2.2 ∧ r.2.2 ≤ 1099511627776 := fun r hr => by
        have hr2 : r ∈ ps := by rw [← q_parts ps x, ← hhi1]; exact List.mem_append_right _ hr
        obtain ⟨i, hi, rfl⟩ := List.mem_iff_getElem.1 hr2
        have := HOK.out.one i hi
        unfold Q1 at this
        rw [kat_get hi] at this
        omega
      have HALL : Hid (qall ps x = lo ++ qown ps x :: hi) := by unfold Hid qall; rw [hlo1, hhi1]
      have HOWN := Lib.hid hown
      have HPL := Lib.hid hpl
      have HQB := Lib.hid hqb
      clear hlh hlo1 hhi1 hown hpl hqb hk hlt
      obtain ⟨A1, k1, rfl, hk1, hs1⟩ := hlo.out.seg
      obtain ⟨A2, k2, rfl, hk2, hs2⟩ := hhi.out.seg
      have HS1 := Lib.hid hs1
      have HS2 := Lib.hid hs2
      clear hs1 hs2 hk1 hk2
      obtain ⟨wo, rfl⟩ : ∃ wo : World, wo = wr := ⟨_, rfl⟩
      have HOb := Blk.new wo 104 #[.int .i64 x, .int .i64 1, .int .i64 0]
      have HNB := Lib.hid HOb
      clear HOb
      obtain ⟨bb, hbb⟩ : ∃ bb, bb = decide (lo ≠ [] ∧ hi ≠ []) := ⟨_, rfl⟩
      have HBB := Lib.hid hbb
      have hl1 : lo ≠ [] ↔ 0 < lo.length := by cases lo <;> simp
      have hl2 : hi ≠ [] ↔ 0 < hi.length := by cases hi <;> simp
      have HLL := Lib.hid (And.intro hl1 hl2)
      clear hbb hl1 hl2
      go_upto_region 14 with (fail)
      go_cut [12, 61] (fun s12 s61 wx => s12 = .pointer (some ⟨wo.heap.size, 0, none⟩) ∧ s61 = .bool bb ∧ wx = wo.alloc (.cells #[.int .i64 x, .int .i64 1, .int .i64 0] 104))
      case first =>
        by_cases h1 : 0 < lo.length
        · have a1 : decide (0 < (lo.length : Int)) = true := decide_eq_true (by omega)
          have a2 : decide (0 < lo.length) = true := decide_eq_true h1
          by_cases h2 : 0 < hi.length
          · have a3 : decide (0 < (hi.length : Int)) = true := decide_eq_true (by omega)
            have a4 : decide (0 < hi.length) = true := decide_eq_true h2
            have HE : Hid (bb = true) := by unfold Hid; rw [HBB.out]; exact decide_eq_true ⟨HLL.out.1.2 h1, HLL.out.2.2 h2⟩
            clear h1 h2
            go_wp2_with fail
            go_meet
            case rel => exact ⟨rfl, by rw [HE.out], rfl⟩
          · have a3 : decide (0 < (hi.length : Int)) = false := decide_eq_false (by omega)
            have a4 : decide (0 < hi.length) = false := decide_eq_false h2
            have HE : Hid (bb = false) := by unfold Hid; rw [HBB.out]; exact decide_eq_false (fun h => h2 (HLL.out.2.1 h.2))
            clear h1 h2
            go_wp2_with fail
            go_meet
            case rel => exact ⟨rfl, by rw [HE.out], rfl⟩
        · have a1 : decide (0 < (lo.length : Int)) = false := decide_eq_false (by omega)
          have a2 : decide (0 < lo.length) = false := decide_eq_false h1
          have HE : Hid (bb = false) := by unfold Hid; rw [HBB.out]; exact decide_eq_false (fun h => h1 (HLL.out.1.1 h.1))
          clear h1
          go_wp2_with fail
          go_meet
          case rel => exact ⟨rfl, by rw [HE.out], rfl⟩
      case rest =>
        obtain ⟨rfl, rfl, rfl⟩ := hcut
        go_upto_if 61 with (fail)
        go_cut [12] (fun s12 wx => s12 = .pointer (some ⟨wo.heap.size, 0, none⟩) ∧ Hid (Blk wx wo.heap.size 104 (rkc (qown ps x))) ∧ Hid (Below wo.heap.size wo wx))
        case first =>
          cases hb2 : bb with
          | false =>
            have he : Hid (qown ps x = (x, 1, 0)) := by
              unfold Hid; rw [HOWN.out, if_neg]
              intro h
              have h3 := HBB.out
              rw [hb2, decide_eq_true h] at h3
              cases h3
            clear hb2
            go_wp2_with fail
            go_meet
            case rel => exact ⟨rfl, by unfold Hid; rw [he.out]; exact HNB.out, (Below.refl _ _).alloc (Nat.le_refl _) _⟩
          | true =>
            have hcond : lo ≠ [] ∧ hi ≠ [] := of_decide_eq_true (by have h3 := HBB.out; rw [hb2] at h3; exact h3.symm)
            have hpos := HLL.out.2.1 hcond.2
            obtain ⟨r, hr⟩ : ∃ r, r = kat hi 0 := ⟨_, rfl⟩
            have hrb := HQB.out r (by rw [hr]; exact kat_mem hpos)
            obtain ⟨ad2, rfl, _, c0, c1, c2⟩ := HS2.out.trip hpos
            rw [← hr] at c0 c1 c2
            rw [show ad2.add (0 * 3) = ad2 from rfl] at c0 c1 c2
            obtain ⟨g, hg⟩ : ∃ g, g = r.2.1 := ⟨_, rfl⟩
            obtain ⟨m, hm⟩ : ∃ m, m = r.2.2 := ⟨_, rfl⟩
            rw [← hg] at c1 hrb
            rw [← hm] at c2 hrb
            have he : Hid (qown ps x = (x, 1, g + m - 1)) := by unfold Hid; rw [HOWN.out, if_pos hcond, ← hr, ← hg, ← hm]
            obtain ⟨wq, hwq⟩ : ∃ wq, wq = wo.alloc (.cells #[.int .i64 x, .int .i64 1, .int .i64 0] 104) := ⟨_, rfl⟩
            have d1 : wq.cell? ⟨ad2.block, ad2.off + 1, none⟩ = some (.int .i64 g) := by rw [hwq]; exact (World.cell?_alloc_lt wo _ _ (block_lt c1)).trans c1
            have d2 : wq.cell? ⟨ad2.block, ad2.off + 2, none⟩ = some (.int .i64 m) := by rw [hwq]; exact (World.cell?_alloc_lt wo _ _ (block_lt c2)).trans c2
            have HNQ : Hid (Blk wq wo.heap.size 104 #[.int .i64 x, .int .i64 1, .int .i64 0]) := by unfold Hid; rw [hwq]; exact HNB.out
            have HBQ : Hid (Below wo.heap.size wo wq) := by unfold Hid; rw [hwq]; exact (Below.refl _ _).alloc (Nat.le_refl _) _
            have f1 := HNQ.out.frozen 2
            have f2 := HNQ.out.cell 2 rfl
            have i1 : (0 : Int) < (hi.length : Int) := by omega
            have m1 : IntKind.i64.wrap (g + m) = g + m := IntWalk.i64_in _ (by omega)
            have m2 : IntKind.i64.wrap (g + m - 1) = g + m - 1 := IntWalk.i64_in _ (by omega)
            rw [← hwq]
            have HPO := Lib.hid hpos
            clear hcond hr hrb c0 c1 c2 hg hm hwq
            subst hb2
            go_wp2_with fail
            go_still_tail 11, (by kernel_rfl)
            change wpList _ _ _ _ _ wq.drew
            go_wp2_with fail
            go_meet
            case rel =>
              refine ⟨rfl, ?_, (HBQ.out.drew).setCell (Nat.le_refl _) _⟩
              unfold Hid
              rw [he.out]
              exact Blk.set_ (HNQ.out.drew) 2 _
        case rest =>
          obtain ⟨rfl, HOw, HBo⟩ := hcut
          have HA2 : Hid (A2 = none → hi = [] ∧ k2 = 0) := fun h => by
            rcases hhi.out.open_ with ⟨e1, e2⟩ | ⟨g, cap, X, e1, _⟩
            · injection e1 with _ _ e3
              exact ⟨e2, e3⟩
            · injection e1 with e3
              rw [h] at e3; cases e3
          obtain ⟨ow, how⟩ : ∃ ow, ow = qown ps x := ⟨_, rfl⟩
          rw [← how] at HALL HOw
          have HOW := Lib.hid how
          clear how
          obtain ⟨a0, a1, a2⟩ := ow
          have e0 := HOw.out.cell 0 rfl
          have e1 := HOw.out.cell 1 rfl
          have e2 := HOw.out.cell 2 rfl
          have HBw : Hid (Blk (wc.alloc (.cells #[.int .i64 a0, .int .i64 a1, .int .i64 a2] 104)) wc.heap.size 104 (rkc (a0, a1, a2))) := Blk.new _ _ _
          have HLO2 : Hid (Own3 (wc.alloc (.cells #[.int .i64 a0, .int .i64 a1, .int .i64 a2] 104)) w.heap.size (.slice A1 lo.length k1) lo) := (hlo.out.below HBo.out (Nat.le_refl _)).alloc _
          have HWa : Hid (Below wo.heap.size wo (wc.alloc (.cells #[.int .i64 a0, .int .i64 a1, .int .i64 a2] 104))) := HBo.out.alloc HBo.out.size _
          have HSz : w.heap.size ≤ (wc.alloc (.cells #[.int .i64 a0, .int .i64 a1, .int .i64 a2] 104)).heap.size := Nat.le_trans hb.out.size HWa.out.size
          have HLe : Hid (lo.length ≤ 999 ∧ (lo ++ [(a0, a1, a2)]).length + hi.length ≤ 1000) := by have := HPL.out; have := HL.out; unfold Hid; rw [List.length_append]; simp; omega
          go_upto_region 16 with (fail)
          go_cut [13] (fun s13 wx => Hid (Own3 wx w.heap.size s13 (qall ps x)) ∧ Hid (Below w.heap.size w wx))
          case first =>
            cases A2 with
            | none =>
              obtain ⟨h1, h2⟩ := HA2.out rfl
              subst h1
              subst h2
              go_wp2_with (first
                | (at_builtin; refine wpList_push3B _ rfl (.tmp 73) (.tmp 75) rfl w.heap.size _ lo (a0, a1, a2) rfl HLO2.out ⟨wc.heap.size, 0, none⟩ 1 rfl (rk_new HBw.out) HLe.out.1 HSz ?_; intro v1 w3 ho1 hg1 hm1)
                | (at_builtin; refine wpList_append_own_none rfl (.tmp 76) (.tmp 77) 96 rfl w.heap.size 104 _ 3 Try.underlying96 rk_info.choose_spec.1 _ _ _ rfl ho1.out rfl ?_))
              go_meet
              case rel =>
                have hp := push_two hb.out hb.out.size hlo.out hhi.out hap.out HWa.out hg1.out hm1.out
                exact ⟨by unfold Hid; rw [HALL.out]; exact ho1.out, hp.2.2⟩
            | some ad2 =>
              go_wp2_with (first
                | (at_builtin; refine wpList_push3B _ rfl (.tmp 73) (.tmp 75) rfl w.heap.size _ lo (a0, a1, a2) rfl HLO2.out ⟨wc.heap.size, 0, none⟩ 1 rfl (rk_new HBw.out) HLe.out.1 HSz ?_; intro v1 w3 ho1 hg1 hm1; have hp := Lib.hid (push_two hb.out hb.out.size hlo.out hhi.out hap.out HWa.out hg1.out hm1.out))
                | (at_builtin; refine wpList_push3 _ rfl (.tmp 76) (.tmp 77) rfl w.heap.size _ (lo ++ [(a0, a1, a2)]) hi rfl ho1.out ad2 k2 rfl (own_cells hp.out.1) HLe.out.2 hp.out.2.2.size ?_; intro v2 w4 ho2 hg2; have HO2 := Lib.hid ho2; have HG2 := Lib.hid hg2; clear ho2 hg2))
              go_meet
              case rel => exact ⟨by unfold Hid; rw [HALL.out]; have := HO2.out; rw [List.append_assoc] at this; exact this, hp.out.2.2.grown HG2.out hp.out.2.2.size ho1.out.block⟩
          case rest =>
            obtain ⟨ho3, hb3⟩ := hcut
            have HOK2 := Lib.hid (qall_ok HOK.out x HL.out)
            clear HNB HBo HOw e0 e1 e2 HBw HLO2 HWa HSz HLe hlo hhi hap hb HS1 HS2 HA2 HOWN HPL HQB HBB HLL HALL HOW
            have HFN : Hid (qaddR parts ps x = (qst (2 * qsum (qall ps x) / parts) (qall ps x) 1, 0)) := by unfold Hid; rw [HF.out, ← qsqz_all]; rfl
            obtain ⟨al, hal⟩ : ∃ al, al = qall ps x := ⟨_, rfl⟩
            rw [← hal] at ho3 HOK2 HFN
            clear hal
            obtain ⟨A3, k3, rfl, hk3, hs3⟩ := ho3.out.seg
            have HS3 := Lib.hid hs3
            clear hs3 hk3
            obtain ⟨hl4, hqb, hsm⟩ := HOK2.out
            have hq0 := hqb.sum.1
            have HPre : Hid (∀ k, k ≤ al.length → 0 ≤ qsum (al.take k) ∧ qsum (al.take k) ≤ 439804651110400) := hqb.pre hsm
            obtain ⟨S, hS⟩ : ∃ S, S = qsum al := ⟨_, rfl⟩
            have HSS := Lib.hid hS
            rw [← hS] at hsm hq0 HFN
            obtain ⟨M, hM⟩ : ∃ M, M = 2 * S / parts := ⟨_, rfl⟩
            have hp := HOK.out.lo
            have hp2 := HOK.out.hi
            have hM1 : 0 ≤ M ∧ M ≤ 4398046511104 := by rw [hM]; exact ⟨Int.ediv_nonneg (by omega) (by omega), Int.le_trans (Int.ediv_le_self _ (by omega)) (by omega)⟩
            rw [← hM] at HFN
            have HMb := Lib.hid hM1
            obtain ⟨e1, e2⟩ := hM1
            obtain ⟨e3, e4⟩ := hl4
            have HL4 := Lib.hid (And.intro e3 e4)
            have HQB := Lib.hid hqb
            have m1 : IntKind.i64.wrap (2 * S) = 2 * S := IntWalk.i64_in _ (by omega)
            have m2 : wrap64 (2 * S) = 2 * S := qw64 (by omega) (by omega)
            have m3 : (2 * S).tdiv parts = M := by rw [hM]; exact Int.tdiv_eq_ediv_of_nonneg (by omega)
            have m4 : 2 * S / parts = M := hM.symm
            have p0 : (parts == 0) = false := by simp; omega
            have b2 : 0 ≤ 2 * S := by omega
            clear hqb hS hM hp2
            go_wp2_with fail
            refine (oall_gen A3 al k3 _ HS3.out HL4.out.2 HPre.out).mono ?_
            rintro e w5 ⟨rfl, hb5⟩
            rw [← HSS.out]
            have HB5 := Lib.hid (hb3.out.trans (hb5.mono hb3.out.size))
            have ho5 := Lib.hid (ho3.out.below hb5 (Nat.le_refl _))
            clear hb5
            go_wp2_with fail
            clear m1 m2 m3 m4 p0 b2 hp
            go_loopw [15, 16] (fun s15 s16 wx => ∃ (K : Nat) (y : Int), K ≤ al.length ∧ s16 = .int .i64 y ∧ Hid (y = (K : Int) - 1) ∧ Hid (Own3 wx w.heap.size s15 (bkL M al K)) ∧ Hid (Own3 wx w.heap.size (.slice A3 al.length k3) al) ∧ Hid (Apart s15 (.slice A3 al.length k3)) ∧ Hid (Below w.heap.size w wx)) (fun _ s16 _ => (intOf s16 + 1).toNat)
            case atStart =>
              refine ⟨al.length, _, Nat.le_refl _, rfl, rfl, ?_, ho5.out, Apart.none_ _, HB5.out⟩
              rcases bkL_end M al with h | h
              · unfold Hid; rw [h]; exact Own3.none_
              · omega
            case round =>
              obtain ⟨K, y, hK, rfl, hy, ho15, ho13, hap2, hb6⟩ := hrel
              by_cases hlt : 0 ≤ y
              · obtain ⟨J, rfl⟩ : ∃ J : Nat, K = J + 1 := ⟨K - 1, by have := hy.out; omega⟩
                obtain rfl : y = (J : Int) := by have := hy.out; omega
                have hpush := bkL_push M al J (by omega)
                have hinto := bkL_into M al J (by omega)
                obtain ⟨l, hl⟩ : ∃ l, l = bkL M al (J + 1) := ⟨_, rfl⟩
                have hll : l.length ≤ 400 := by rw [hl]; exact Nat.le_trans (bkL_len _ _ _) e4
                have hlq : ∀ r ∈ l, (0 ≤ r.2.1 ∧ 0 ≤ r.2.2 ∧ r.2.2 ≤ 4398046511104) ∧ r.2.1 ≤ S := fun r hr => by
                  rw [hl] at hr
                  exact ⟨HQB.out.bkL M (J + 1) r hr, by have := bkL_gap HQB.out M (J + 1) r hr; rw [HSS.out]; exact this⟩
                rw [← hl] at ho15 hpush hinto
                obtain ⟨A3s, k3s, e9, _, hs9⟩ := ho13.out.seg
                injection e9 with e9 _ e10
                subst e9
                subst e10
                obtain ⟨ad, rfl, _, c0, c1, c2⟩ := hs9.trip (show J < al.length by omega)
                have hgq := HQB.out _ (kat_mem (show J < al.length by omega))
                have hgs := HQB.out.sum.2 _ (kat_mem (show J < al.length by omega))
                rw [← HSS.out] at hgs
                have hkat : Hid (kat al J = ((kat al J).1, (kat al J).2.1, (kat al J).2.2)) := rfl
                obtain ⟨N, hN⟩ : ∃ N, N = (kat al J).1 := ⟨_, rfl⟩
                obtain ⟨g, hg⟩ : ∃ g, g = (kat al J).2.1 := ⟨_, rfl⟩
                obtain ⟨m, hm⟩ : ∃ m, m = (kat al J).2.2 := ⟨_, rfl⟩
                rw [← hN] at c0 hkat
                rw [← hg] at c1 hkat hgq hgs hpush hinto
                rw [← hm] at c2 hkat hgq
                rw [hkat.out] at hpush
                have d0 := c0
                have d1 := c1
                have d2 := c2
                have uJ : Hid (wrap64 ((J : Int) - 1) = (J : Int) - 1) := qw64 (by omega) (by omega)
                have i1 : (J : Int) < (al.length : Int) := by omega
                have HJle : Hid (J ≤ al.length) := by unfold Hid; omega
                have HK := Lib.hid hK
                have HLl : Hid (l.length ≤ 999) := by unfold Hid; omega
                have HPU := Lib.hid hpush
                have HIN := Lib.hid hinto
                have HLQ := Lib.hid hlq
                have HGQ := Lib.hid (And.intro hgq hgs)
                have HLB := Lib.hid hl
                obtain ⟨A4, k4, rfl, _, hs4⟩ := ho15.out.seg
                clear hpush hinto hlq hgq hgs hs4 hs9 c0 c1 c2 hN hg hm hK hl hkat
                rcases (by omega : l.length = 0 ∨ (0 < l.length ∧ J = 0) ∨ (0 < l.length ∧ 0 < J)) with h1 | ⟨h1, h2⟩ | ⟨h1, h2⟩
                · have HE := Lib.hid (HPU.out (.inl h1))
                  have b1 : decide (0 < (l.length : Int)) = false := decide_eq_false (by omega)
                  have b2 : decide (0 < l.length) = false := decide_eq_false (by omega)
                  clear h1
                  go_wp2_with fail
                  go_quiet (fail)
                  generalize hwz : (wr.alloc (.cells #[.int .i64 N, .int .i64 g, .int .i64 m] 104)).drewN _ = wz
                  have HWZ : Hid (Below wr.heap.size wr wz) := by unfold Hid; rw [← hwz]; exact below_drewN ((Below.refl _ _).alloc (Nat.le_refl _) _) _
                  have HWK : Hid (Blk wz wr.heap.size 104 #[.int .i64 N, .int .i64 g, .int .i64 m]) := by unfold Hid; rw [← hwz]; exact Blk.drewN (Blk.new _ _ _) _
                  have e0 := HWK.out.cell 0 rfl
                  have e1 := HWK.out.cell 1 rfl
                  have e2 := HWK.out.cell 2 rfl
                  have HBw : Hid (Blk (wz.alloc (.cells #[.int .i64 N, .int .i64 g, .int .i64 m] 104)) wz.heap.size 104 (rkc (N, g, m))) := Blk.new _ _ _
                  have HV15 : Hid (Own3 (wz.alloc (.cells #[.int .i64 N, .int .i64 g, .int .i64 m] 104)) w.heap.size (.slice A4 l.length k4) l) := (ho15.out.below HWZ.out (Nat.le_refl _)).alloc _
                  have HWa : Hid (Below wr.heap.size wr (wz.alloc (.cells #[.int .i64 N, .int .i64 g, .int .i64 m] 104))) := HWZ.out.alloc HWZ.out.size _
                  have HSz : w.heap.size ≤ (wz.alloc (.cells #[.int .i64 N, .int .i64 g, .int .i64 m] 104)).heap.size := Nat.le_trans hb6.out.size HWa.out.size
                  clear hwz d0 d1 d2
                  go_wp2_with (at_builtin; refine wpList_push3B _ rfl (.tmp 134) (.tmp 136) rfl w.heap.size _ l (N, g, m) rfl HV15.out ⟨wz.heap.size, 0, none⟩ 1 rfl (rk_new HBw.out) HLl.out HSz ?_; intro v1 w7 ho7 hg7 hm7)
                  have HP := Lib.hid (push_two hb6.out hb6.out.size ho15.out ho13.out hap2.out HWa.out hg7.out hm7.out)
                  go_roundw
                  case rel => exact ⟨J, _, HJle.out, rfl, rfl, Own3.eq_ ho7.out HE.out, HP.out.1, HP.out.2.1, HP.out.2.2⟩
                  case measure => exact meas_down J
                · have HE := Lib.hid (HPU.out (.inr (.inl h2)))
                  have b1 : decide (0 < (l.length : Int)) = true := decide_eq_true (by omega)
                  have b2 : decide (0 < l.length) = true := decide_eq_true (by omega)
                  have b3 : decide (0 < (J : Int)) = false := decide_eq_false (by omega)
                  have b4 : decide (0 < J) = false := decide_eq_false (by omega)
                  clear h1 h2
                  go_wp2_with fail
                  go_quiet (fail)
                  generalize hwz : (wr.alloc (.cells #[.int .i64 N, .int .i64 g, .int .i64 m] 104)).drewN _ = wz
                  have HWZ : Hid (Below wr.heap.size wr wz) := by unfold Hid; rw [← hwz]; exact below_drewN ((Below.refl _ _).alloc (Nat.le_refl _) _) _
                  have HWK : Hid (Blk wz wr.heap.size 104 #[.int .i64 N, .int .i64 g, .int .i64 m]) := by unfold Hid; rw [← hwz]; exact Blk.drewN (Blk.new _ _ _) _
                  have e0 := HWK.out.cell 0 rfl
                  have e1 := HWK.out.cell 1 rfl
                  have e2 := HWK.out.cell 2 rfl
                  have HBw : Hid (Blk (wz.alloc (.cells #[.int .i64 N, .int .i64 g, .int .i64 m] 104)) wz.heap.size 104 (rkc (N, g, m))) := Blk.new _ _ _
                  have HV15 : Hid (Own3 (wz.alloc (.cells #[.int .i64 N, .int .i64 g, .int .i64 m] 104)) w.heap.size (.slice A4 l.length k4) l) := (ho15.out.below HWZ.out (Nat.le_refl _)).alloc _
                  have HWa : Hid (Below wr.heap.size wr (wz.alloc (.cells #[.int .i64 N, .int .i64 g, .int .i64 m] 104))) := HWZ.out.alloc HWZ.out.size _
                  have HSz : w.heap.size ≤ (wz.alloc (.cells #[.int .i64 N, .int .i64 g, .int .i64 m] 104)).heap.size := Nat.le_trans hb6.out.size HWa.out.size
                  clear hwz d0 d1 d2
                  go_wp2_with (at_builtin; refine wpList_push3B _ rfl (.tmp 134) (.tmp 136) rfl w.heap.size _ l (N, g, m) rfl HV15.out ⟨wz.heap.size, 0, none⟩ 1 rfl (rk_new HBw.out) HLl.out HSz ?_; intro v1 w7 ho7 hg7 hm7)
                  have HP := Lib.hid (push_two hb6.out hb6.out.size ho15.out ho13.out hap2.out HWa.out hg7.out hm7.out)
                  go_roundw
                  case rel => exact ⟨J, _, HJle.out, rfl, rfl, Own3.eq_ ho7.out HE.out, HP.out.1, HP.out.2.1, HP.out.2.2⟩
                  case measure => exact meas_down J
                · have b1 : decide (0 < (l.length : Int)) = true := decide_eq_true (by omega)
                  have b2 : decide (0 < l.length) = true := decide_eq_true (by omega)
                  have b3 : decide (0 < (J : Int)) = true := decide_eq_true (by omega)
                  have b4 : decide (0 < J) = true := decide_eq_true (by omega)
                  obtain ⟨L1, hL1⟩ : ∃ L1, L1 = l.length - 1 := ⟨_, rfl⟩
                  have hLl : L1 < l.length := by omega
                  have hin := HIN.out h2 h1
                  have hpu := fun h => HPU.out (.inr (.inr h))
                  rw [← hL1] at hin hpu
                  have hlq := HLQ.out _ (kat_mem hLl)
                  have hgq := HGQ.out
                  rcases ho15.out.open_ with ⟨_, e0⟩ | ⟨g4, cap, X, e0, hg4, hh, hn4, hm4, hX⟩
                  · rw [e0] at h1; simp at h1
                  · injection e0 with e0 _ e1
                    subst e0
                    subst e1
                    obtain ⟨f0, f1, f2⟩ := row_cells hh hLl
                    obtain ⟨b, hb'⟩ : ∃ b, b = (kat l L1).2.1 := ⟨_, rfl⟩
                    obtain ⟨d, hd⟩ : ∃ d, d = (kat l L1).2.2 := ⟨_, rfl⟩
                    rw [← hb'] at f1 hlq hin hpu
                    rw [← hd] at f2 hlq hin hpu
                    have w0 : IntKind.i64.wrap ((l.length : Int) - 1) = (L1 : Int) := by rw [show (l.length : Int) - 1 = (L1 : Int) by omega]; exact IntWalk.i64_in _ (by have := HLl.out; omega)
                    have w1' : IntKind.i64.wrap (g + b) = g + b := IntWalk.i64_in _ (by omega)
                    have w2' : IntKind.i64.wrap (g + b + d) = g + b + d := IntWalk.i64_in _ (by omega)
                    have w3' : IntKind.i64.wrap (b + g) = b + g := IntWalk.i64_in _ (by omega)
                    have i2 : (L1 : Int) < (l.length : Int) := by omega
                    have p1 : ∀ o, (wr.alloc o).cell? ⟨g4, L1 * 3 + 1, none⟩ = some (.int .i64 b) := fun o => (World.cell?_alloc_lt wr o _ (block_lt f1)).trans f1
                    have p2 : ∀ o, (wr.alloc o).cell? ⟨g4, L1 * 3 + 2, none⟩ = some (.int .i64 d) := fun o => (World.cell?_alloc_lt wr o _ (block_lt f2)).trans f2
                    have HHH := Lib.hid hh
                    have HHX := Lib.hid (And.intro hn4 (And.intro hm4 hX))
                    have HLL1 := Lib.hid hLl
                    have HBD := Lib.hid (And.intro hb' hd)
                    have HIN2 := Lib.hid hin
                    have HPU2 := Lib.hid hpu
                    have hglt := block_lt f1
                    clear hin hpu hlq hgq hh hn4 hm4 hX hLl hb' hd f0 f1 f2 h1 h2 hL1
                    by_cases hc : g + b + d ≤ M
                    · have b5 : decide (g + b + d ≤ M) = true := decide_eq_true hc
                      have HE := Lib.hid (HIN2.out hc)
                      clear hc
                      go_wp2_with fail
                      go_quiet (fail)
                      generalize hwz : (wr.alloc (.cells #[.int .i64 N, .int .i64 g, .int .i64 m] 104)).drewN _ = wz
                      have HWZ : Hid (Below wr.heap.size wr wz) := by unfold Hid; rw [← hwz]; exact below_drewN ((Below.refl _ _).alloc (Nat.le_refl _) _) _
                      have HWK : Hid (Blk wz wr.heap.size 104 #[.int .i64 N, .int .i64 g, .int .i64 m]) := by unfold Hid; rw [← hwz]; exact Blk.drewN (Blk.new _ _ _) _
                      have e1 := HWK.out.cell 1 rfl
                      have q1 : wz.cell? ⟨g4, L1 * 3 + 1, none⟩ = some (.int .i64 b) := by rw [← hwz]; exact p1 _
                      have HHW : Hid (wz.heap[g4]? = some (.cells (flat3 l ++ X).toArray 104 (0, 0))) := (HWZ.out.block g4 hglt).trans HHH.out
                      have fz : wz.frozen? ⟨g4, L1 * 3 + 1, none⟩ = false := Blk.frozen (t := 104) HHW.out (L1 * 3 + 1)
                      have HO13 : Hid (Own3 wz w.heap.size (.slice (some ad) al.length k3) al) := ho13.out.below HWZ.out (Nat.le_refl _)
                      have HBz : Hid (Below w.heap.size w wz) := hb6.out.trans (HWZ.out.mono hb6.out.size)
                      clear hwz d0 d1 d2 p1 p2
                      go_wp2_with fail
                      go_still_tail 11, (by kernel_rfl)
                      change wpList _ _ _ _ _ wz.drew
                      go_wp2_with fail
                      go_roundw
                      case rel =>
                        refine ⟨J, _, HJle.out, rfl, rfl, ?_, Own3.far (Own3.drew HO13.out) _ (fun h => hap2.out g4 rfl h), hap2.out, HBz.out.drew.setCell hg4 _⟩
                        unfold Hid
                        rw [HE.out, HBD.out.2]
                        exact Own3.setgap (w := wz.drew) hg4 HHW.out HHX.out.1 HHX.out.2.1 HHX.out.2.2 HLL1.out _
                      case measure => exact meas_down J
                    · have b5 : decide (g + b + d ≤ M) = false := decide_eq_false hc
                      have HE := Lib.hid (HPU2.out (by omega))
                      clear hc
                      go_wp2_with fail
                      go_quiet (fail)
                      generalize hwz : (wr.alloc (.cells #[.int .i64 N, .int .i64 g, .int .i64 m] 104)).drewN _ = wz
                      have HWZ : Hid (Below wr.heap.size wr wz) := by unfold Hid; rw [← hwz]; exact below_drewN ((Below.refl _ _).alloc (Nat.le_refl _) _) _
                      have HWK : Hid (Blk wz wr.heap.size 104 #[.int .i64 N, .int .i64 g, .int .i64 m]) := by unfold Hid; rw [← hwz]; exact Blk.drewN (Blk.new _ _ _) _
                      have e0 := HWK.out.cell 0 rfl
                      have e1 := HWK.out.cell 1 rfl
                      have e2 := HWK.out.cell 2 rfl
                      have HBw : Hid (Blk (wz.alloc (.cells #[.int .i64 N, .int .i64 g, .int .i64 m] 104)) wz.heap.size 104 (rkc (N, g, m))) := Blk.new _ _ _
                      have HV15 : Hid (Own3 (wz.alloc (.cells #[.int .i64 N, .int .i64 g, .int .i64 m] 104)) w.heap.size (.slice (some ⟨g4, 0, none⟩) l.length k4) l) := (ho15.out.below HWZ.out (Nat.le_refl _)).alloc _
                      have HWa : Hid (Below wr.heap.size wr (wz.alloc (.cells #[.int .i64 N, .int .i64 g, .int .i64 m] 104))) := HWZ.out.alloc HWZ.out.size _
                      have HSz : w.heap.size ≤ (wz.alloc (.cells #[.int .i64 N, .int .i64 g, .int .i64 m] 104)).heap.size := Nat.le_trans hb6.out.size HWa.out.size
                      clear hwz d0 d1 d2
                      go_wp2_with (at_builtin; refine wpList_push3B _ rfl (.tmp 134) (.tmp 136) rfl w.heap.size _ l (N, g, m) rfl HV15.out ⟨wz.heap.size, 0, none⟩ 1 rfl (rk_new HBw.out) HLl.out HSz ?_; intro v1 w7 ho7 hg7 hm7)
                      have HP := Lib.hid (push_two hb6.out hb6.out.size ho15.out ho13.out hap2.out HWa.out hg7.out hm7.out)
                      go_roundw
                      case rel => exact ⟨J, _, HJle.out, rfl, rfl, Own3.eq_ ho7.out HE.out, HP.out.1, HP.out.2.1, HP.out.2.2⟩
                      case measure => exact meas_down J
              · obtain rfl : K = 0 := by have := hy.out; omega
                have HBR : Hid ((bkL M al 0).reverse = qst M al 1) := bkL_zero M al
                have hbl : (bkL M al 0).length ≤ 400 := Nat.le_trans (bkL_len _ _ _) e4
                obtain ⟨bk, hbk⟩ : ∃ bk, bk = bkL M al 0 := ⟨_, rfl⟩
                rw [← hbk] at HBR hbl ho15
                have HBL := Lib.hid hbl
                clear hbk hK
                obtain ⟨A5, k5, rfl, _, hs5⟩ := ho15.out.seg
                clear hs5
                go_wp2_with fail
                obtain ⟨wp, rfl⟩ : ∃ wp : World, wp = wr := ⟨_, rfl⟩
                go_loopw [19, 20] (fun s19 s20 wx => ∃ (K : Nat) (y : Int), K ≤ bk.length ∧ s20 = .int .i64 y ∧ Hid (y = (K : Int) - 1) ∧ Hid (Own3 wx w.heap.size s19 (bk.drop K).reverse) ∧ Hid (Own3 wx w.heap.size (.slice A5 bk.length k5) bk) ∧ Hid (Apart s19 (.slice A5 bk.length k5)) ∧ Hid (Below w.heap.size w wx)) (fun _ s20 _ => (intOf s20 + 1).toNat)
                case atStart =>
                  refine ⟨bk.length, _, Nat.le_refl _, rfl, rfl, ?_, ho15.out, Apart.none_ _, hb6.out⟩
                  unfold Hid
                  rw [List.drop_length]
                  exact Own3.none_
                case round =>
                  obtain ⟨K, y, hK, rfl, hy2, ho19, ho15b, hap3, hb7⟩ := hrel
                  by_cases hlt : 0 ≤ y
                  · obtain ⟨J, rfl⟩ : ∃ J : Nat, K = J + 1 := ⟨K - 1, by have := hy2.out; omega⟩
                    obtain rfl : y = (J : Int) := by have := hy2.out; omega
                    have hrs := rev_step (show J < bk.length by omega)
                    obtain ⟨A5s, k5s, e9, _, hs9⟩ := ho15b.out.seg
                    injection e9 with e9 _ e10
                    subst e9
                    subst e10
                    obtain ⟨ad, rfl, _, c0, c1, c2⟩ := hs9.trip (show J < bk.length by omega)
                    have hkat : kat bk J = ((kat bk J).1, (kat bk J).2.1, (kat bk J).2.2) := rfl
                    obtain ⟨N, hN⟩ : ∃ N, N = (kat bk J).1 := ⟨_, rfl⟩
                    obtain ⟨g, hg⟩ : ∃ g, g = (kat bk J).2.1 := ⟨_, rfl⟩
                    obtain ⟨m, hm⟩ : ∃ m, m = (kat bk J).2.2 := ⟨_, rfl⟩
                    rw [← hN] at c0 hkat
                    rw [← hg] at c1 hkat
                    rw [← hm] at c2 hkat
                    rw [hkat] at hrs
                    have HRS := Lib.hid hrs
                    obtain ⟨l, hl⟩ : ∃ l, l = (bk.drop (J + 1)).reverse := ⟨_, rfl⟩
                    have hll : l.length ≤ 999 := by rw [hl, List.length_reverse, List.length_drop]; omega
                    rw [← hl] at ho19 HRS
                    have i1 : (J : Int) < (bk.length : Int) := by omega
                    have HJle : Hid (J ≤ bk.length) := by unfold Hid; omega
                    have HLl := Lib.hid hll
                    have HBw : Hid (Blk (wr.alloc (.cells #[.int .i64 N, .int .i64 g, .int .i64 m] 104)) wr.heap.size 104 (rkc (N, g, m))) := Blk.new _ _ _
                    have HV : Hid (Own3 (wr.alloc (.cells #[.int .i64 N, .int .i64 g, .int .i64 m] 104)) w.heap.size u19 l) := ho19.out.alloc _
                    have HWa : Hid (Below wr.heap.size wr (wr.alloc (.cells #[.int .i64 N, .int .i64 g, .int .i64 m] 104))) := (Below.refl _ _).alloc (Nat.le_refl _) _
                    have HSz : w.heap.size ≤ (wr.alloc (.cells #[.int .i64 N, .int .i64 g, .int .i64 m] 104)).heap.size := Nat.le_trans hb7.out.size HWa.out.size
                    clear hrs hs9 hkat hN hg hm hl hll hK
                    go_wp2_with (at_builtin; refine wpList_push3B _ rfl (.tmp 145) (.tmp 150) rfl w.heap.size _ l (N, g, m) rfl HV.out ⟨wr.heap.size, 0, none⟩ 1 rfl (rk_new HBw.out) HLl.out HSz ?_; intro v1 w7 ho7 hg7 hm7)
                    have HP := Lib.hid (push_two hb7.out hb7.out.size ho19.out ho15b.out hap3.out HWa.out hg7.out hm7.out)
                    go_roundw
                    case rel => exact ⟨J, _, HJle.out, rfl, rfl, Own3.eq_ ho7.out HRS.out, HP.out.1, HP.out.2.1, HP.out.2.2⟩
                    case measure => exact meas_down J
                  · obtain rfl : K = 0 := by have := hy2.out; omega
                    rw [List.drop_zero, HBR.out] at ho19
                    go_wp2_with fail
                    go_ret2
                    exact ⟨_, by rw [HFN.out]; rfl, by rw [HFN.out]; exact ho19.out, hb7.out⟩
theorem oadd_any (parts : Int) (A : Option Addr) (ps : List Rk) (c : Nat) (x : Int) (w : World) (hs : Seg w w.heap.size A (flat3 ps)) (hm : ps.length ≤ 9223372036854775807) :
    Calls Try.prog 83 #[.int .i64 parts, .slice A ps.length c, .int .i64 x] w (KOut w.heap.size (qaddR parts ps x) w) := by
  by_cases hq : QOk parts ps
  · by_cases hf : ps.length = 400 ∨ qsum ps = 1099511627776
    · exact oadd_full parts A ps c x w hs hm hq hf
    · exact oadd_good parts A ps c x w hs hm hq hf
  · exact oadd_bad parts A ps c x w hs hm hq
end Go.Proofs.Ytaehehoeidnidaa
