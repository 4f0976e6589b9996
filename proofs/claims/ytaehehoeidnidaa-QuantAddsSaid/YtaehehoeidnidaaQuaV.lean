/- The reference's OFind: its closure, walked. No condition but the bounds. -/
import Derived.Test.YtaehehoeidnidaaQuaX
import Derived.Test.YtaehehoeidnidaaQuaA
import Derived.Deep.RegionHeld3
namespace Go.Proofs.Ytaehehoeidnidaa
open Go.ChangeShapes Go.WideShapes Go.ChangeAt Go.RowKit
set_option linter.unusedVariables false

theorem flat3_take (ps : List Rk) (k : Nat) : (flat3 ps).take (k * 3) = flat3 (ps.take k) := by
  by_cases h : k ≤ ps.length
  · have e : flat3 ps = flat3 (ps.take k) ++ flat3 (ps.drop k) := by rw [← flat3_app, List.take_append_drop]
    have hl : (flat3 (ps.take k)).length = k * 3 := by rw [flat3_len, List.length_take]; omega
    rw [e, ← hl, List.take_left]
  · rw [List.take_of_length_le (by rw [flat3_len]; omega), List.take_of_length_le (by omega)]
theorem Seg.takeR {w : World} {B : Nat} {A : Option Addr} {ps : List Rk} (h : Seg w B A (flat3 ps)) (k : Nat) : Seg w B A (flat3 (ps.take k)) := by
  rw [← flat3_take]; exact h.pre _
set_option maxRecDepth 20000 in
set_option maxHeartbeats 4000000 in
theorem far_any (k bl bp : Nat) (A : Option Addr) (ps : List Rk) (c : Nat) (place : Int) (w : World) (hk : k < ps.length) (hc : ps.length ≤ c) (hs : Seg w w.heap.size A (flat3 ps)) {parts : Int} (hq : QOk parts ps) (hp : 1 ≤ place ∧ place ≤ 1099511627776)
    (hl : w.cell? ⟨bl, 0, none⟩ = some (.slice A ps.length c)) (hpl : w.cell? ⟨bp, 0, none⟩ = some (.int .i64 place)) :
    Calls Try.prog 146 #[.int .i64 k, .pointer (some ⟨bl, 0, none⟩), .pointer (some ⟨bp, 0, none⟩)] w fun e w' => e = .returned (.int .i64 (qdist ps place k)) ∧ Below w.heap.size w w' := by
  have HS := Lib.hid hs
  have HC := Lib.hid hc
  have HOK := Lib.hid hq
  have HK := Lib.hid hk
  have HLl : Hid (ps.length ≤ 400) := hq.len
  have hkc : (k : Int) + 1 ≤ (c : Int) := by omega
  have hk0 : (0 : Int) ≤ (k : Int) + 1 := by omega
  have htn : ((k : Int) + 1).toNat = k + 1 := by omega
  have w9 : wrap64 ((k : Int) + 1) = (k : Int) + 1 := qw64 (by omega) (by have := hq.len; omega)
  have HTL : Hid ((ps.take (k + 1)).length = k + 1) := by unfold Hid; rw [List.length_take]; omega
  have HOA : ∀ w1 : World, Below w.heap.size w w1 → Calls Try.prog 91 #[.slice A (k + 1) c] w1 fun e w' => e = .returned (.int .i64 (qsum (ps.take (k + 1)))) ∧ Below w1.heap.size w1 w' := fun w1 hb => by
    have h := oall_gen A (ps.take (k + 1)) c w1 (((hs.below hb).more hb.size).takeR (k + 1)) (by rw [HTL.out]; have := hq.len; omega) (fun j hj => by
      rw [HTL.out] at hj
      rw [List.take_take, Nat.min_eq_left hj]
      have := hq.pre (show j ≤ ps.length by omega)
      omega)
    rw [HTL.out] at h
    exact h
  have HOA' := Lib.hid HOA
  obtain ⟨ad, rfl, _, _, _, c2⟩ := HS.out.trip hk
  have hpre := hq.pre (show k + 1 ≤ ps.length by omega)
  have hq1 := hq.one k hk
  unfold Q1 at hq1
  have hqd : qdist ps place k = max (place - qsum (ps.take (k + 1))) (qsum (ps.take (k + 1)) + (kat ps k).2.2 - place) := rfl
  obtain ⟨V, hV⟩ : ∃ V, V = qsum (ps.take (k + 1)) := ⟨_, rfl⟩
  obtain ⟨m, hm⟩ : ∃ m, m = (kat ps k).2.2 := ⟨_, rfl⟩
  rw [← hV] at hpre hqd HOA'
  rw [← hm] at hq1 hqd c2
  obtain ⟨v1, v2⟩ : 0 ≤ V ∧ V ≤ 1099511627776 := by clear hqd; omega
  obtain ⟨v3, v4⟩ : 0 ≤ m ∧ m ≤ 1099511627776 := by clear hqd; omega
  obtain ⟨v5, v6⟩ := hp
  have HQD := Lib.hid hqd
  have HL1 := Lib.hid hl
  have HP1 := Lib.hid hpl
  have HC2 := Lib.hid c2
  have i1 : (k : Int) < (ps.length : Int) := by omega
  clear hs hc hq hk HOA hV hm hpre hq1 hqd c2
  go_enter Try.func146, Try.ntmps146
  go_wp2_with fail
  refine (HOA'.out _ (Below.refl _ _)).mono ?_
  rintro e w1 ⟨rfl, hb⟩
  have HB := Lib.hid hb
  have d0 := (hb.cell (block_lt HL1.out)).trans HL1.out
  have d1 := (hb.cell (block_lt HP1.out)).trans HP1.out
  have d2 := (hb.cell (block_lt HC2.out)).trans HC2.out
  have m1 : IntKind.i64.wrap (place - V) = place - V := IntWalk.i64_in _ (by omega)
  have m2 : IntKind.i64.wrap (V + m) = V + m := IntWalk.i64_in _ (by omega)
  have m3 : IntKind.i64.wrap (V + m - place) = V + m - place := IntWalk.i64_in _ (by omega)
  clear hb hl hpl w9
  by_cases hxy : V + m - place < place - V
  · have HE : Hid (qdist ps place k = place - V) := by unfold Hid; rw [HQD.out]; omega
    have b1 : decide (V + m - place < place - V) = true := decide_eq_true hxy
    clear hxy
    go_wp2_with fail
    go_quiet (fail)
    go_wp2_with fail
    go_ret
    exact ⟨by rw [HE.out]; rfl, below_drewN HB.out _⟩
  · have HE : Hid (qdist ps place k = V + m - place) := by unfold Hid; rw [HQD.out]; omega
    have b1 : decide (V + m - place < place - V) = false := decide_eq_false hxy
    clear hxy
    go_wp2_with fail
    go_quiet (fail)
    go_wp2_with fail
    go_ret
    exact ⟨by rw [HE.out]; rfl, below_drewN HB.out _⟩
end Go.Proofs.Ytaehehoeidnidaa
