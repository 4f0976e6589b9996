/- cycles.Times, walked. No condition but the list's own size. -/
import Derived.Test.YtkffakekakhgdaaCycC
namespace Go.Proofs.Ytkffakekakhgdaa
open Go.ChangeShapes Go.WideShapes Go.ChangeAt Go.RowKit
set_option linter.unusedVariables false

def timesR (p : List Int) : Nat := lcms (ofs (qf p) p.length p.length)
/-- How many times, by the first so many rounds. -/
def tk (q : Nat → Nat) (n k : Nat) : Nat := lcms ((ofs q n n).take k)
theorem tk_step {q : Nat → Nat} {n k : Nat} (hk : k < (ofs q n n).length) : tk q n (k + 1) = Nat.lcm (tk q n k) ((ofs q n n)[k]).length := by
  unfold tk
  rw [List.take_succ_eq_append_getElem hk, lcms_snoc]
theorem tk_bd {q : Nat → Nat} {n : Nat} (h : PermF q n) (hn : n ≤ 20) (k : Nat) : 1 ≤ tk q n k ∧ tk q n k ≤ 232792560 :=
  lcms_bd fun r hr => ofs_bd h hn (Nat.le_refl _) r (List.mem_of_mem_take hr)
theorem cgcd_step (p q : Nat) : Nat.gcd q (p % q) = Nat.gcd p q := by
  rw [Nat.gcd_comm q (p % q), ← Nat.gcd_rec, Nat.gcd_comm]
theorem crem {c d : Nat} (h : 0 < d) : Int.tmod (c : Int) (d : Int) = ((c % d : Nat) : Int) := by
  rw [Int.tmod_eq_emod_of_nonneg (by omega)]; rfl
theorem cquo {c d : Nat} (h : 0 < d) : Int.tdiv (c : Int) (d : Int) = ((c / d : Nat) : Int) := by
  rw [Int.tdiv_eq_ediv_of_nonneg (by omega)]; rfl
theorem lcm_quo (a b : Nat) (ha : 0 < a) : a / Nat.gcd a b * b = Nat.lcm a b := by
  unfold Nat.lcm
  obtain ⟨c, hc⟩ := Nat.gcd_dvd_left a b
  have hg : 0 < Nat.gcd a b := Nat.gcd_pos_of_pos_left b ha
  generalize Nat.gcd a b = g at *
  rw [hc, Nat.mul_comm g c, Nat.mul_div_cancel _ hg, Nat.mul_right_comm, Nat.mul_div_cancel _ hg]
set_option maxRecDepth 20000 in
set_option maxHeartbeats 4000000 in
theorem times_bad (p : List Int) (A : Option Addr) (c : Nat) (w : World) (hs : Seg w w.heap.size A (p.map (.int .i64))) (hm : p.length ≤ 9223372036854775807) (hp : permB p = false) :
    Calls Try.prog 29 #[.slice A p.length c] w fun e w' => e = .returned (.tuple #[.int .i64 0, .int .i64 1]) ∧ Below w.heap.size w w' := by
  have HO := Lib.hid (of_bad p A c w hs hm hp)
  clear hs hm hp
  go_enter Try.func29, Try.ntmps29
  go_wp2_with fail
  refine HO.out.mono ?_
  rintro e w1 ⟨rfl, hb⟩
  have HB := Lib.hid hb
  clear hb
  go_wp2_with fail
  go_ret2
  exact ⟨rfl, HB.out⟩
set_option maxRecDepth 20000 in
set_option maxHeartbeats 4000000 in
theorem times_good (p : List Int) (A : Option Addr) (c : Nat) (w : World) (hs : Seg w w.heap.size A (p.map (.int .i64))) (hp : permB p = true) :
    Calls Try.prog 29 #[.slice A p.length c] w fun e w' => e = .returned (.tuple #[.int .i64 (timesR p : Nat), .int .i64 0]) ∧ Below w.heap.size w w' := by
  have HO := Lib.hid (of_any p A c w hs hp)
  have h20 := permB_len hp
  have HP := Lib.hid (permF_of hp)
  obtain ⟨o, ho⟩ : ∃ o, o = timesR p := ⟨_, rfl⟩
  rw [← ho]
  unfold timesR at ho
  obtain ⟨R, hR⟩ : ∃ R, R = ofR p := ⟨_, rfl⟩
  rw [← hR] at HO
  unfold ofR at hR
  obtain ⟨q, hq⟩ : ∃ q, q = qf p := ⟨_, rfl⟩
  rw [← hq] at HP ho hR
  obtain ⟨n, hn⟩ : ∃ n, n = p.length := ⟨_, rfl⟩
  rw [← hn] at HP ho hR h20 HO ⊢
  have HRL : Hid (R.length = (ofs q n n).length ∧ R.length ≤ 20) := by
    have := ofs_len q n n
    unfold Hid
    rw [hR, List.length_map]
    omega
  have HRK : Hid (∀ k (h : k < R.length), (R[k]).length = ((ofs q n n)[k]'(by rw [← HRL.out.1]; exact h)).length) := fun k h => by
    subst hR
    rw [List.getElem_map, List.length_map]
  have HTE : Hid (o = tk q n R.length) := by
    unfold Hid tk
    rw [ho, HRL.out.1, List.take_length]
  have HTB := Lib.hid (fun k => tk_bd HP.out h20 k)
  have HLB : Hid (∀ k (h : k < R.length), 1 ≤ (R[k]).length ∧ (R[k]).length ≤ 20) := fun k h => by
    rw [HRK.out k h]
    exact ofs_bd HP.out h20 (Nat.le_refl _) _ (List.getElem_mem _)
  have HTS : Hid (∀ k (h : k < R.length), tk q n (k + 1) = Nat.lcm (tk q n k) (R[k]).length) := fun k h => by
    rw [tk_step (by rw [← HRL.out.1]; exact h), HRK.out k h]
  clear hs hp h20 ho hR hq hn HRK
  go_enter Try.func29, Try.ntmps29
  go_wp2_with fail
  refine HO.out.mono ?_
  rintro e w1 ⟨A1, c1, rfl, hr, hb⟩
  have HB := Lib.hid hb
  have HR := Lib.hid hr
  clear hb hr HO
  go_wp2_with fail
  go_loopw [6, 21] (fun s6 s21 wx => ∃ (k x : Nat), k ≤ R.length ∧ s21 = .int .i64 k ∧ s6 = .int .i64 x ∧ Hid (x = tk q n k) ∧ Hid (Below w1.heap.size w1 wx)) (fun _ s21 _ => R.length - (intOf s21).toNat)
  case atStart => exact ⟨0, 1, Nat.zero_le _, rfl, rfl, rfl, Below.refl _ _⟩
  case round =>
    obtain ⟨k, x, hk, rfl, rfl, HX, HBX⟩ := hrel
    by_cases hlt : k < R.length
    · have i1 : (k : Int) < (R.length : Int) := by omega
      obtain ⟨ad, A2, c2, rfl, hc, how⟩ := (HR.out.below HBX.out).at_ hlt
      clear how
      obtain ⟨hl1, hl2⟩ := HLB.out k hlt
      have hts := HTS.out k hlt
      obtain ⟨hb1, hb2⟩ := HTB.out k
      obtain ⟨L, hL⟩ : ∃ L, L = (R[k]).length := ⟨_, rfl⟩
      rw [← hL] at hc hl1 hl2 hts
      rw [← HX.out] at hts hb1 hb2
      have HT2 := Lib.hid hts
      have HBD : Hid (1 ≤ x ∧ x ≤ 232792560 ∧ 1 ≤ L ∧ L ≤ 20) := ⟨hb1, hb2, hl1, hl2⟩
      have hb3 := HTB.out (k + 1)
      rw [hts, ← lcm_quo x L (by omega)] at hb3
      have HB3 := Lib.hid hb3
      have uk : Hid (wrap64 ((k : Int) + 1) = ((k + 1 : Nat) : Int)) := rw20 (by have := HRL.out.2; omega)
      have HK := Lib.hid hlt
      clear hL hl1 hl2 hts hb1 hb2 hb3 hlt hk
      go_wp2_with fail
      go_loopw [9, 10] (fun s9 s10 wx => ∃ (a b : Nat), s9 = .int .i64 a ∧ s10 = .int .i64 b ∧ Hid (Nat.gcd a b = Nat.gcd x L) ∧ Hid (a ≤ 232792560 ∧ b ≤ 232792560) ∧ Hid (Below w1.heap.size w1 wx)) (fun _ s10 _ => (intOf s10).toNat)
      case atStart => exact ⟨x, L, rfl, rfl, rfl, ⟨HBD.out.2.1, by have := HBD.out; omega⟩, HBX.out⟩
      case round =>
        obtain ⟨a, b, rfl, rfl, hab, hbd, HBY⟩ := hrel
        by_cases hb0 : b = 0
        · have hv : Hid (a = Nat.gcd x L) := by have := hab.out; rw [hb0, Nat.gcd_zero_right] at this; exact this
          have hg0 : 0 < a := by rw [hv.out]; exact Nat.gcd_pos_of_pos_left L (by have := HBD.out; omega)
          have j1 : ¬ (0 : Int) < (b : Int) := by omega
          have z1 : ¬ (a : Int) = 0 := by omega
          have hq := cquo (c := x) (d := a) hg0
          obtain ⟨y, hy⟩ : ∃ y, y = x / a := ⟨_, rfl⟩
          obtain ⟨Z, hZ⟩ : ∃ Z, Z = y * L := ⟨_, rfl⟩
          have HY : Hid (Z = tk q n (k + 1)) := by unfold Hid; rw [hZ, hy, hv.out, HT2.out]; exact lcm_quo x L (by have := HBD.out; omega)
          have HYB : Hid (1 ≤ Z ∧ Z ≤ 232792560) := by unfold Hid; rw [HY.out]; exact HTB.out (k + 1)
          rw [← hy] at hq
          have u0 : (y : Int) * (L : Int) = (Z : Int) := by rw [hZ, Int.natCast_mul]
          have u1 : wrap64 (Z : Int) = (Z : Int) := by have := HYB.out; unfold wrap64; omega
          have u2 : wrap64 (y : Int) = (y : Int) := by
            have h1 := HBD.out
            have h2 : y ≤ x := by rw [hy]; exact Nat.div_le_self _ _
            unfold wrap64; omega
          have HU0 := Lib.hid u0
          have HU1 := Lib.hid u1
          clear hZ
          clear hb0 hab hy
          go_wp2_with fail
          go_roundw
          case rel => exact ⟨k + 1, Z, HK.out, by first | rfl | rw [uk.out], by first | rfl | rw [HU1.out] | rw [HU0.out] | rw [HU0.out, HU1.out], HY.out, HBY.out⟩
          case measure => (try rw [uk.out]); have := HK.out; simp [intOf]; omega
        · have j1 : (0 : Int) < (b : Int) := by omega
          have hu := crem (c := a) (d := b) (by omega)
          have hlt2 : a % b < b := Nat.mod_lt _ (by omega)
          have hst : Hid (Nat.gcd b (a % b) = Nat.gcd x L) := by unfold Hid; rw [cgcd_step, hab.out]
          have hz : ¬ (b : Int) = 0 := by omega
          have HDD := Lib.hid (And.intro hlt2 hbd.out)
          obtain ⟨r, hr⟩ : ∃ r, r = a % b := ⟨_, rfl⟩
          rw [← hr] at hu hst HDD
          have hwr : IntKind.i64.wrap (r : Int) = (r : Int) := IntWalk.i64_in _ (by have := HDD.out; omega)
          clear hb0 hlt2 hr hab hbd
          go_wp2_with fail
          go_quiet (fail)
          go_wp2_with fail
          go_roundw
          case rel => exact ⟨b, r, rfl, rfl, hst, ⟨HDD.out.2.2, by have := HDD.out; omega⟩, below_drewN HBY.out _⟩
          case measure => have := HDD.out; simp [intOf]; omega
    · have hke : k = R.length := by omega
      have i1 : ¬ (k : Int) < (R.length : Int) := by omega
      have HXO : Hid (x = o) := by unfold Hid; rw [HX.out, HTE.out, hke]
      have HBE : Hid (Below w.heap.size w wr) := HB.out.trans (HBX.out.mono HB.out.size)
      clear hk hlt hke
      go_wp2_with fail
      go_ret2
      exact ⟨by rw [← HXO.out]; rfl, HBE.out⟩
end Go.Proofs.Ytkffakekakhgdaa
