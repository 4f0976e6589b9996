/- Draws by places and levels: the law's function, walked. No condition. -/
import Derived.Test.YtmcbkjepjijfjaaAliH
import Derived.Deep.SlicePairs
namespace Go.Proofs.Ytmcbkjepjijfjaa
open Go.ChangeShapes Go.WideShapes Go.ChangeAt Go.RowKit
set_option linter.unusedVariables false

/-- A slice of pairs that comes in. -/
abbrev PrV (x : Option Addr × List (Int × Int) × Nat) : Value := .slice x.1 x.2.1.length x.2.2
def PrOk (W : World) (x : Option Addr × List (Int × Int) × Nat) : Prop := Seg W W.heap.size x.1 (flat x.2.1) ∧ x.2.1.length ≤ 9223372036854775807
def iv : Value → Int
  | .int _ n => n
  | _ => 0
set_option maxRecDepth 100000 in
theorem open_prs {H : Type} {enc : TypeId × Value → H} {W : World} {v : Value} {d : DataW H} {ps : List MemPlace} {r : Reach} {b0 : Nat}
    (h : DataW.Trod enc Try.prog W 0 (fun _ => true) true 53 v d ps) (hv : Value.okWide Try.prog W r b0 53 v) :
    ∃ x, v = PrV x ∧ PrOk W x := by
  obtain ⟨fuel, hf⟩ := h
  obtain ⟨a, len, cap, rfl⟩ := okWide_slice Try.underlying53 hv
  rcases Deep.open_slice_pairs Try.underlying53 Try.underlying59 (by kernel_rfl) rfl rfl (by kernel_rfl) (by kernel_rfl) hf with ⟨hcs, _⟩ | ⟨x, l, c, m, n, V0, V1, D0, D1, P0, P1, hcs, _, hl, hm, hmm, hx, hcell⟩
  · simp [Value.cells] at hcs
    obtain ⟨rfl, rfl, rfl⟩ := hcs
    exact ⟨(none, [], 0), rfl, Seg.nil, by simp⟩
  · simp [Value.cells] at hcs
    obtain ⟨rfl, rfl, rfl⟩ := hcs
    have hmc : m = cap := by rw [hmm]; rfl
    have hc2 : ∀ i, i < len → W.cell? (x.add (i * 2)) = some (.int .i64 (iv (V0 i))) ∧ W.cell? (x.add (i * 2 + 1)) = some (.int .i64 (iv (V1 i))) := by
      intro i hi
      obtain ⟨h1, h2, h3, h4⟩ := hcell i (by omega)
      obtain ⟨n0, e0, _, _⟩ := DataW.trod_int Try.underlying3 h3
      obtain ⟨n1, e1, _, _⟩ := DataW.trod_int Try.underlying3 h4
      simp at e0 e1
      rw [e0] at h1
      rw [e1] at h2
      rw [h1, h2, e0, e1]
      exact ⟨rfl, rfl⟩
    refine ⟨(some x, ptab (fun i => iv (V0 i)) (fun i => iv (V1 i)) len, cap), by simp [ptab_len], fun h0 => ?_, by rw [ptab_len]; unfold maxLen at hm; omega⟩
    rw [flat_len, ptab_len] at h0
    have hb : x.block < W.heap.size := by
      have h1 := (hc2 0 (by omega)).1
      have e : x.add (0 * 2) = x := rfl
      rw [e] at h1
      exact block_lt h1
    refine ⟨x, rfl, hb, fun i u hu => ?_⟩
    have hi : i < (flat (ptab (fun i => iv (V0 i)) (fun i => iv (V1 i)) len)).length := (List.getElem?_eq_some_iff.1 hu).1
    rw [flat_len, ptab_len] at hi
    have hk : i / 2 < len := by omega
    obtain ⟨h1, h2⟩ := flat_at (ptab (fun i => iv (V0 i)) (fun i => iv (V1 i)) len) (i / 2) (by rw [ptab_len]; exact hk)
    rw [prat_ptab hk] at h1 h2
    obtain ⟨h3, h4⟩ := hc2 (i / 2) hk
    rcases (by omega : i = i / 2 * 2 ∨ i = i / 2 * 2 + 1) with e | e
    · rw [← e] at h1 h3
      rw [h3, ← h1]; exact hu
    · rw [← e] at h2 h4
      rw [h4, ← h2]; exact hu
set_option maxRecDepth 20000 in
set_option maxHeartbeats 2000000 in
theorem AliasMakes_walk (A0 : Option Addr) (z0 : List Int) (c0 : Nat) (x1 : Option Addr × List (Int × Int) × Nat) (a2 a3 : Int) (w : World) (hc0 : z0.length ≤ c0) (hm0 : c0 ≤ maxLen) (_hw0 : ∀ n, n ∈ z0 → (Lit.int .i64 n).wf = true) (s0 : Seg w w.heap.size A0 (z0.map (.int .i64)))
    (s1 : PrOk w x1) (_w2 : (Lit.int .i64 a2).wf = true) (_w3 : (Lit.int .i64 a3).wf = true) :
    Calls Try.prog 8 #[.slice A0 z0.length c0, PrV x1, .int .i64 a2, .int .i64 a3] w fun e w' => e = .returned (.bool true) ∧ Below w.heap.size w w' := by
  obtain ⟨A1, ps, c1⟩ := x1
  show Calls Try.prog 8 #[.slice A0 z0.length c0, .slice A1 ps.length c1, .int .i64 a2, .int .i64 a3] w fun e w' => e = .returned (.bool true) ∧ Below w.heap.size w w'
  obtain ⟨hps, hpl⟩ : Seg w w.heap.size A1 (flat ps) ∧ ps.length ≤ 9223372036854775807 := s1
  have hl : z0.length ≤ 9223372036854775807 := by unfold maxLen at hm0; omega
  obtain ⟨r1, r2, hr⟩ : ∃ r1 r2, asumR z0 = (r1, r2) := ⟨_, _, rfl⟩
  obtain ⟨d, i, hd⟩ : ∃ d i, adrawR ps a2 a3 = (d, i) := ⟨_, _, rfl⟩
  have HS := Lib.hid s0
  have HP := Lib.hid hps
  have C1 : Hid (Calls Try.prog 43 #[.slice A0 z0.length c0] w fun e w' => e = S2 (r1, r2) ∧ w = w') := by have h := asum_any z0 A0 c0 _ w s0 hl; rw [hr] at h; exact h
  have C2 : Hid (Calls Try.prog 44 #[.slice A0 z0.length c0] w fun e w' => e = S2 (r1, r2) ∧ w = w') := by have h := hsum_any z0 A0 c0 _ w s0 hl; rw [hr] at h; exact h
  have C3 : Hid (Calls Try.prog 45 #[.slice A0 z0.length c0] w fun e w' => POut w w' e (amakeL z0) r2) := by have h := amake_any z0 A0 c0 w s0 hl; rw [hr] at h; exact h
  have C4 : Hid (∀ u, Seg u u.heap.size A0 (z0.map (.int .i64)) → Calls Try.prog 46 #[.slice A0 z0.length c0] u fun e w' => POut u w' e (amakeL z0) r2) := fun u hu => by have h := hmake_any z0 A0 c0 u hu hl; rw [hr] at h; exact h
  have C5 : Hid (∀ u, Seg u u.heap.size A1 (flat ps) → Calls Try.prog 47 #[.slice A1 ps.length c1, .int .i64 a2, .int .i64 a3] u fun e w' => e = S2 (d, i) ∧ u = w') := fun u hu => by have h := adraw_any ps A1 c1 _ a2 a3 u hu hpl; rw [hd] at h; exact h
  have HD := Lib.hid hd
  have HLM : Hid ((amakeL z0).length ≤ 9223372036854775807) := by
    unfold Hid amakeL
    split
    · rw [ptab_len]; exact hl
    · simp
  clear s0 hps hr hd _hw0 _w2 _w3 hc0 hm0
  generalize amakeL z0 = M at *
  go_enter Try.func8, Try.ntmps8
  go_wp2_with fail
  refine C1.out.mono ?_
  rintro e w1 ⟨rfl, rfl⟩
  go_wp2_with fail
  refine C2.out.mono ?_
  rintro e w1 ⟨rfl, rfl⟩
  go_wp2_with fail
  refine C3.out.mono ?_
  rintro e w1 ⟨Aa, ca, rfl, hca, hsa, hb1⟩
  have HSA := Lib.hid hsa
  have HB1 := Lib.hid hb1
  clear hca hsa hb1
  go_wp2_with fail
  refine (C4.out w1 (HS.out.on HB1.out)).mono ?_
  rintro e w2 ⟨Ab, cb, rfl, hcb, hsb, hb2⟩
  have HSB := Lib.hid hsb
  have HSA2 := Lib.hid (HSA.out.on hb2)
  have HB2 : Hid (Below w.heap.size w w2) := HB1.out.trans (hb2.mono HB1.out.size)
  clear hcb hsb hb2
  go_wp2_with fail
  refine (C5.out w2 (HP.out.on HB2.out)).mono ?_
  rintro e w3 ⟨rfl, rfl⟩
  go_wp2_with fail
  skip --LOOK1
  have HEQ := eq_prs M M Aa Ab ca cb _ w2 HSA2.out HSB.out HLM.out
  rw [decide_eq_true rfl] at HEQ
  refine HEQ.mono ?_
  rintro e w3 ⟨rfl, nq, rfl⟩
  clear HEQ
  rcases (by omega : a2 < 0 ∨ (¬ a2 < 0 ∧ (ps.length : Int) ≤ a2) ∨ (¬ a2 < 0 ∧ ¬ (ps.length : Int) ≤ a2)) with h | ⟨h, h2⟩ | ⟨h, h2⟩
  · obtain ⟨rfl, rfl⟩ : 0 = d ∧ 3 = i := by have e := HD.out; unfold adrawR at e; rw [if_neg (by omega)] at e; injection e with e1 e2; exact ⟨e1, e2⟩
    go_wp2_with fail
    go_ret
    exact ⟨rfl, below_drewN HB2.out _⟩
  · obtain ⟨rfl, rfl⟩ : 0 = d ∧ 3 = i := by have e := HD.out; unfold adrawR at e; rw [if_neg (by omega)] at e; injection e with e1 e2; exact ⟨e1, e2⟩
    go_wp2_with fail
    go_ret
    exact ⟨rfl, below_drewN HB2.out _⟩
  · obtain ⟨k, rfl⟩ : ∃ k : Nat, a2 = k := ⟨a2.toNat, by omega⟩
    have hk : k < ps.length := by omega
    have i1 : (k : Int) < (ps.length : Int) := by omega
    have HSEG := (HP.out.on HB2.out)
    obtain ⟨ad, rfl, _, hc, hd⟩ := HSEG.pair hk
    have HV : Hid (adrawR ps k a3 = (if a3 < (prat ps k).1 then (k : Int) else (prat ps k).2, 0)) := by unfold adrawR Hid; rw [if_pos (by omega), Int.toNat_natCast]
    clear HSEG
    generalize (prat ps k).1 = x at *
    generalize (prat ps k).2 = y at *
    by_cases h3 : a3 < x
    · obtain ⟨rfl, rfl⟩ : (k : Int) = d ∧ 0 = i := by have e := HD.out; rw [HV.out, if_pos h3] at e; injection e with e1 e2; exact ⟨e1, e2⟩
      go_wp2_with fail
      go_ret
      exact ⟨rfl, below_drewN HB2.out _⟩
    · obtain ⟨rfl, rfl⟩ : y = d ∧ 0 = i := by have e := HD.out; rw [HV.out, if_neg h3] at e; injection e with e1 e2; exact ⟨e1, e2⟩
      go_wp2_with fail
      go_ret
      exact ⟨rfl, below_drewN HB2.out _⟩
end Go.Proofs.Ytmcbkjepjijfjaa
