/- Package bayes: Best; slices.Max and slices.Index at []int; walked. No condition but the lists' own size. -/
import Derived.Test.YtaehehoeidnidaaBayN
namespace Go.Proofs.Ytaehehoeidnidaa
open Go.ChangeShapes Go.WideShapes Go.ChangeAt Go.RowKit
set_option linter.unusedVariables false

/-- Where the greatest one of the first k is, the first of them. -/
def bbi (P : List Int) : Nat → Nat
  | 0 => 0
  | k + 1 => if pat P (bbi P k) < pat P k then k else bbi P k
theorem bbi_lt (P : List Int) : ∀ k, 0 < k → bbi P k < k
  | 0, h => absurd h (Nat.not_lt_zero _)
  | 1, _ => by unfold bbi; split <;> exact Nat.zero_lt_one
  | k + 2, _ => by
    have := bbi_lt P (k + 1) (Nat.succ_pos k)
    rw [bbi]; split <;> omega
theorem bbi_max (P : List Int) : ∀ k i, i < k → pat P i ≤ pat P (bbi P k)
  | 0, i, h => absurd h (Nat.not_lt_zero _)
  | k + 1, i, h => by
    rw [bbi]
    by_cases e : i = k
    · subst e
      by_cases h1 : pat P (bbi P i) < pat P i
      · rw [if_pos h1]; exact Int.le_refl _
      · rw [if_neg h1]; omega
    · have h2 := bbi_max P k i (by omega)
      by_cases h1 : pat P (bbi P k) < pat P k
      · rw [if_pos h1]; omega
      · rw [if_neg h1]; exact h2
theorem bbi_first (P : List Int) : ∀ k i, i < bbi P k → pat P i < pat P (bbi P k)
  | 0, i, h => absurd h (Nat.not_lt_zero _)
  | k + 1, i, h => by
    rw [bbi] at h ⊢
    by_cases h1 : pat P (bbi P k) < pat P k
    · rw [if_pos h1] at h ⊢
      have := bbi_max P k i h
      omega
    · rw [if_neg h1] at h ⊢
      exact bbi_first P k i h
/-- The greatest one. -/
def bmost (P : List Int) : Int := pat P (bbi P P.length)
def bbest (prior : List Int) (M : List (List Int)) (seen : List Int) : Int × Int :=
  if (bsee prior M seen).2 ≠ 0 then (0, (bsee prior M seen).2) else if bmost (bsee prior M seen).1 = 0 then (0, 3) else ((bbi (bsee prior M seen).1 (bsee prior M seen).1.length : Nat), 0)
set_option maxRecDepth 20000 in
set_option maxHeartbeats 8000000 in
theorem best_any (A C D : Option Addr) (prior : List Int) (l : List Rw) (seen : List Int) (c d f : Nat) (w : World) (hp : Seg w w.heap.size A (prior.map (.int .i64))) (hl : RowsOk w w.heap.size C l) (hs : Seg w w.heap.size D (seen.map (.int .i64)))
    (hm : prior.length ≤ 9223372036854775807) (hm2 : l.length ≤ 9223372036854775807) (hm3 : seen.length ≤ 9223372036854775807) :
    Calls Try.prog 37 #[.slice A prior.length c, .slice C l.length d, .slice D seen.length f] w fun e w' => e = .returned (.tuple #[.int .i64 (bbest prior (nums l) seen).1, .int .i64 (bbest prior (nums l) seen).2]) ∧ Below w.heap.size w w' := by
  have HW := Lib.hid (see_any A C D prior l seen c d f w hp hl hs hm hm2 hm3)
  by_cases he : (bsee prior (nums l) seen).2 = 0
  · have HSO := sok_of he
    have hf : Hid (bbest prior (nums l) seen = if bmost (bsee prior (nums l) seen).1 = 0 then ((0 : Int), (3 : Int)) else (((bbi (bsee prior (nums l) seen).1 (bsee prior (nums l) seen).1.length : Nat) : Int), 0)) := if_neg (by simp [he])
    rw [he] at HW
    obtain ⟨P, hP⟩ : ∃ P, P = (bsee prior (nums l) seen).1 := ⟨_, rfl⟩
    rw [← hP] at HW HSO hf
    have hP1 : 1 ≤ P.length ∧ P.length ≤ 8 := by have := HSO.ok.pos; have := HSO.ok.le; have := HSO.len; omega
    have HP1 := Lib.hid hP1
    clear hp hl hs HSO hP1 hP
    go_enter Try.func37, Try.ntmps37
    go_wp2_with fail
    refine HW.out.mono ?_
    rintro e w1 ⟨A1, c1, rfl, hc1, hs1, hb⟩
    have HB := Lib.hid hb
    have HPS := Lib.hid hs1
    clear hc1 hs1 hb
    go_wp2_with fail
    go_loopw [10, 25] (fun s10 s25 wx => ∃ (k : Nat), k ≤ P.length ∧ s25 = .int .i64 k ∧ s10 = .int .i64 (bbi P k : Nat) ∧ wx = w1) (fun _ s25 _ => P.length - (intOf s25).toNat)
    case atStart => exact ⟨0, Nat.zero_le _, rfl, rfl, by first | rfl | trivial⟩
    case round =>
      obtain ⟨k, hk, rfl, rfl, rfl⟩ := hrel
      by_cases hkl : k < P.length
      · have i1 : (k : Int) < (P.length : Int) := by omega
        have hbl : bbi P k < P.length := by
          rcases Nat.eq_zero_or_pos k with e | e
          · subst e; exact hkl
          · have := bbi_lt P k e; omega
        obtain ⟨pd, rfl, _, hck⟩ := HPS.out.pat hkl
        obtain ⟨pd2, e2, _, hcb⟩ := HPS.out.pat hbl
        injection e2 with e2
        subst e2
        have i2 : ((bbi P k : Nat) : Int) < (P.length : Int) := by omega
        have HST : Hid (bbi P (k + 1) = if pat P (bbi P k) < pat P k then k else bbi P k) := rfl
        have HK := Lib.hid (And.intro hk hkl)
        have uk : Hid (wrap64 ((k : Int) + 1) = ((k + 1 : Nat) : Int)) := bl64 (by have := HP1.out; omega)
        obtain ⟨b, hbb⟩ : ∃ b, b = bbi P k := ⟨_, rfl⟩
        rw [← hbb] at hcb i2 HST ⊢
        obtain ⟨x, hx⟩ : ∃ x, x = pat P k := ⟨_, rfl⟩
        obtain ⟨y, hy⟩ : ∃ y, y = pat P b := ⟨_, rfl⟩
        rw [← hx] at hck HST
        rw [← hy] at hcb HST
        clear hbb hx hy hbl hk hkl
        by_cases h1 : y < x
        · have hst : Hid (bbi P (k + 1) = k) := by unfold Hid; rw [HST.out, if_pos h1]
          go_wp2_with fail
          go_roundw
          case rel => exact ⟨k + 1, by have := HK.out; omega, by first | rfl | rw [uk.out], by rw [hst.out], by first | rfl | trivial⟩
          case measure => (try rw [uk.out]); have := HK.out; simp [intOf]; omega
        · have hst : Hid (bbi P (k + 1) = b) := by unfold Hid; rw [HST.out, if_neg h1]
          go_wp2_with fail
          go_roundw
          case rel => exact ⟨k + 1, by have := HK.out; omega, by first | rfl | rw [uk.out], by rw [hst.out], by first | rfl | trivial⟩
          case measure => (try rw [uk.out]); have := HK.out; simp [intOf]; omega
      · obtain rfl : k = P.length := by omega
        have hbl : bbi P P.length < P.length := bbi_lt P _ (by have := HP1.out; omega)
        obtain ⟨pd, rfl, _, hcb⟩ := HPS.out.pat hbl
        have i2 : ((bbi P P.length : Nat) : Int) < (P.length : Int) := by omega
        have hfm : Hid (bbest prior (nums l) seen = if pat P (bbi P P.length) = 0 then ((0 : Int), (3 : Int)) else (((bbi P P.length : Nat) : Int), 0)) := hf.out
        obtain ⟨b, hbb⟩ : ∃ b, b = bbi P P.length := ⟨_, rfl⟩
        rw [← hbb] at hcb i2 hfm ⊢
        obtain ⟨y, hy⟩ : ∃ y, y = pat P b := ⟨_, rfl⟩
        rw [← hy] at hcb hfm
        clear hbb hy hbl hk hkl hf
        by_cases h0 : y = 0
        · have hff : Hid (bbest prior (nums l) seen = (0, 3)) := by unfold Hid; rw [hfm.out, if_pos h0]
          subst h0
          go_wp2_with fail
          go_ret2
          exact ⟨by rw [hff.out]; rfl, HB.out⟩
        · have hff : Hid (bbest prior (nums l) seen = (((b : Nat) : Int), 0)) := by unfold Hid; rw [hfm.out, if_neg h0]
          have b0 : (y == 0) = false := by simp [h0]
          go_wp2_with fail
          go_ret2
          exact ⟨by rw [hff.out]; rfl, HB.out⟩
  · have hf : Hid (bbest prior (nums l) seen = (0, (bsee prior (nums l) seen).2)) := if_pos he
    have b0 : ((bsee prior (nums l) seen).2 != 0) = true := by simp [he]
    generalize (bsee prior (nums l) seen).2 = z at *
    generalize (bsee prior (nums l) seen).1 = P at *
    clear hp hl hs
    go_enter Try.func37, Try.ntmps37
    go_wp2_with fail
    refine HW.out.mono ?_
    rintro e w1 ⟨A1, c1, rfl, hc1, hs1, hb⟩
    have HB := Lib.hid hb
    clear hc1 hs1 hb
    go_wp2_with fail
    go_ret2
    exact ⟨by rw [hf.out]; rfl, HB.out⟩
/-- The greatest one of the first k. -/
theorem bmax_step (P : List Int) (k : Nat) : pat P (bbi P (k + 1)) = if pat P (bbi P k) < pat P k then pat P k else pat P (bbi P k) := by
  rw [bbi]; split <;> rfl
set_option maxRecDepth 20000 in
set_option maxHeartbeats 4000000 in
theorem max_any (A : Option Addr) (P : List Int) (c B : Nat) (w : World) (hs : Seg w B A (P.map (.int .i64))) (h0 : 0 < P.length) (hm : P.length ≤ 9223372036854775807) :
    Calls Try.prog 41 #[.slice A P.length c] w fun e w' => e = .returned (.int .i64 (bmost P)) ∧ ∃ m, w' = w.drewN m := by
  have HS := Lib.hid hs
  obtain ⟨ad, rfl, _, hc0⟩ := hs.pat h0
  have hc00 : w.cell? ad = some (.int .i64 (pat P 0)) := hc0
  have i0 : ¬ (P.length : Int) < 1 := by omega
  have i1 : (0 : Int) < (P.length : Int) := by omega
  have h1e : Hid (pat P (bbi P 1) = pat P 0) := by unfold Hid; rw [bmax_step]; show (if pat P 0 < pat P 0 then _ else pat P 0) = _; rw [if_neg (Int.lt_irrefl _)]
  obtain ⟨x0, hx0⟩ : ∃ x, x = pat P 0 := ⟨_, rfl⟩
  rw [← hx0] at hc00 h1e
  have HH := Lib.hid (And.intro h0 hm)
  clear hs hc0 hx0 h0
  go_enter Try.func41, Try.ntmps41
  go_wp2_with fail
  clear hc00 i0 i1
  --LOOK1
  go_loopw [3, 4] (fun s3 s4 wx => ∃ (k : Nat), 1 ≤ k ∧ k ≤ P.length ∧ s4 = .int .i64 k ∧ s3 = .int .i64 (pat P (bbi P k)) ∧ wx = w) (fun _ s4 _ => P.length - (intOf s4).toNat)
  case atStart => exact ⟨1, Nat.le_refl _, by have := HH.out; omega, rfl, by rw [h1e.out], by first | rfl | trivial⟩
  case round =>
    obtain ⟨k, hk1, hk, rfl, rfl, rfl⟩ := hrel
    by_cases hkl : k < P.length
    · have i1 : (k : Int) < (P.length : Int) := by omega
      obtain ⟨ad2, e2, _, hck⟩ := HS.out.pat hkl
      injection e2 with e2
      subst e2
      have HST := Lib.hid (bmax_step P k)
      have HK := Lib.hid (And.intro hk hkl)
      have uk : Hid (wrap64 ((k : Int) + 1) = ((k + 1 : Nat) : Int)) := bl64 (by have := HH.out; omega)
      obtain ⟨x, hx⟩ : ∃ x, x = pat P k := ⟨_, rfl⟩
      obtain ⟨y, hy⟩ : ∃ y, y = pat P (bbi P k) := ⟨_, rfl⟩
      rw [← hx] at hck HST
      rw [← hy] at HST ⊢
      clear hx hy hk hkl hk1
      by_cases h1 : y < x
      · have hst : Hid (pat P (bbi P (k + 1)) = x) := by unfold Hid; rw [HST.out, if_pos h1]
        go_wp2_with fail
        go_roundw
        case rel => exact ⟨k + 1, by omega, by have := HK.out; omega, by first | rfl | rw [uk.out], by rw [hst.out], by first | rfl | trivial⟩
        case measure => (try rw [uk.out]); have := HK.out; simp [intOf]; omega
      · have hst : Hid (pat P (bbi P (k + 1)) = y) := by unfold Hid; rw [HST.out, if_neg h1]
        rcases (by omega : x < y ∨ x = y) with h2 | h2
        · have h3 : ¬ y < x := h1
          go_wp2_with fail
          go_roundw
          case rel => exact ⟨k + 1, by omega, by have := HK.out; omega, by first | rfl | rw [uk.out], by rw [hst.out], by first | rfl | trivial⟩
          case measure => (try rw [uk.out]); have := HK.out; simp [intOf]; omega
        · subst h2
          clear h1
          go_wp2_with fail
          go_roundw
          case rel => exact ⟨k + 1, by omega, by have := HK.out; omega, by first | rfl | rw [uk.out], by rw [hst.out], by first | rfl | trivial⟩
          case measure => (try rw [uk.out]); have := HK.out; simp [intOf]; omega
    · obtain rfl : k = P.length := by omega
      go_wp2_with fail
      go_ret
      exact ⟨rfl, 0, rfl⟩
set_option maxRecDepth 20000 in
set_option maxHeartbeats 4000000 in
theorem index_any (A : Option Addr) (P : List Int) (c B : Nat) (w : World) (hs : Seg w B A (P.map (.int .i64))) (h0 : 0 < P.length) (hm : P.length ≤ 9223372036854775807) :
    Calls Try.prog 42 #[.slice A P.length c, .int .i64 (bmost P)] w fun e w' => e = .returned (.int .i64 (bbi P P.length : Nat)) ∧ ∃ m, w' = w.drewN m := by
  have HS := Lib.hid hs
  have HH := Lib.hid (And.intro h0 hm)
  have hbl := bbi_lt P P.length h0
  have HFI := Lib.hid (bbi_first P P.length)
  have HMO : Hid (bmost P = pat P (bbi P P.length)) := rfl
  obtain ⟨b, hb⟩ : ∃ b, b = bbi P P.length := ⟨_, rfl⟩
  rw [← hb] at hbl HFI HMO ⊢
  obtain ⟨v, hv⟩ : ∃ v, v = bmost P := ⟨_, rfl⟩
  rw [← hv] at HMO ⊢
  have HBL := Lib.hid hbl
  clear hs h0 hb hv hbl
  go_enter Try.func42, Try.ntmps42
  go_wp2_with fail
  go_loopw [8] (fun s8 wx => ∃ (k : Nat), k ≤ b ∧ s8 = .int .i64 k ∧ wx = w) (fun s8 _ => b + 1 - (intOf s8).toNat)
  case atStart => exact ⟨0, Nat.zero_le _, rfl, by first | rfl | trivial⟩
  case round =>
    obtain ⟨k, hk, rfl, rfl⟩ := hrel
    have hkl : k < P.length := by have := HBL.out; omega
    have i1 : (k : Int) < (P.length : Int) := by omega
    obtain ⟨ad, rfl, _, hck⟩ := HS.out.pat hkl
    have uk : Hid (wrap64 ((k : Int) + 1) = ((k + 1 : Nat) : Int)) := bl64 (by have := HH.out; omega)
    by_cases e : k = b
    · subst e
      have hck2 : wr.cell? (ad.add k) = some (.int .i64 v) := by rw [HMO.out]; exact hck
      clear hck hkl hk
      go_wp2_with fail
      go_ret
      exact ⟨rfl, 0, rfl⟩
    · have hlt := HFI.out k (by omega)
      rw [← HMO.out] at hlt
      have HK : Hid (k < b) := by unfold Hid; omega
      obtain ⟨x, hx⟩ : ∃ x, x = pat P k := ⟨_, rfl⟩
      rw [← hx] at hck hlt
      have b0 : (v == x) = false := by rw [beq_eq_false_iff_ne]; omega
      have b1 : (x == v) = false := by rw [beq_eq_false_iff_ne]; omega
      have b2 : ¬ v = x := by omega
      clear hx hlt hkl hk e
      go_wp2_with fail
      go_roundw
      case rel => exact ⟨k + 1, by have := HK.out; omega, by first | rfl | rw [uk.out], by first | rfl | trivial⟩
      case measure => (try rw [uk.out]); have := HK.out; simp [intOf]; omega
end Go.Proofs.Ytaehehoeidnidaa
