/- The reference's TCounts, walked. No condition but what the map reads as. -/
import Derived.Test.YtaehehoeidnidaaDicE
import Derived.Test.YtaehehoeidnidaaDicA
namespace Go.Proofs.Ytaehehoeidnidaa
open Go.ChangeShapes Go.WideShapes Go.ChangeAt Go.RowKit Go.Maps
set_option linter.unusedVariables false

def tabG (G : Nat → Int) (N : Nat) : List Int := (List.range N).map G
theorem tabG_len (G : Nat → Int) (N : Nat) : (tabG G N).length = N := by simp [tabG]
theorem tabG_at (G : Nat → Int) {N k : Nat} (h : k < N) : dk (tabG G N) k = G k := by unfold dk tabG; simp [List.getD, h]
/-- What is known of the greatest one that has come. -/
def MostAt (F : Int → Option Int) (N : Nat) (L : Int → Bool) (M : Int) : Prop := -1 ≤ M ∧ M < N ∧ ∀ k v, (Lit.int .i64 k).wf = true → F k = some v → 0 < v → L k = false → k ≤ M
theorem most_end {F : Int → Option Int} {G : Nat → Int} {lim N : Nat} {L : Int → Bool} {M : Int} (v : ValK F G lim) (hl : lim ≤ 400) (h1 : ∀ k, N ≤ k → G k = 0) (h2 : N = 0 ∨ 0 < G (N - 1)) (hm : MostAt F N L M) (hL : ∀ x, (Lit.int .i64 x).wf = true → L x = false) : M + 1 = (N : Int) := by
  obtain ⟨m1, m2, m3⟩ := hm
  rcases h2 with h2 | h2
  · omega
  · rcases Nat.eq_zero_or_pos N with h0 | h0
    · omega
    have hg := v.at (N - 1)
    cases hF : F ((N - 1 : Nat) : Int) with
    | none => rw [hF] at hg; simp at hg; omega
    | some u =>
      rw [hF] at hg
      simp at hg
      have := v.2 _ _ hF
      have hw := wfi (x := ((N - 1 : Nat) : Int)) (by omega) (by omega)
      have := m3 _ u hw hF (by omega) (hL _ hw)
      omega
theorem most_step {F : Int → Option Int} {G : Nat → Int} {lim N : Nat} {L : Int → Bool} {M x c : Int} (v : ValK F G lim) (h1 : ∀ k, N ≤ k → G k = 0) (hm : MostAt F N L M) (hF : F x = some c) (M' : Int) (hM : (0 < c ∧ M < x ∧ M' = x) ∨ ((¬ 0 < c ∨ ¬ M < x) ∧ M' = M)) : MostAt F N (fun y => L y && !decide (y = x)) M' := by
  obtain ⟨m1, m2, m3⟩ := hm
  have hx := v.2 x c hF
  have hg := v.1 x
  rw [hF, if_pos (by omega)] at hg
  simp at hg
  have hxN : 0 < c → x < N := fun h => by
    by_cases h2 : N ≤ x.toNat
    · have := h1 _ h2; omega
    · omega
  refine ⟨by omega, by omega, fun k u hw hk hu hL => ?_⟩
  by_cases e : k = x
  · subst e
    rw [hF] at hk
    injection hk with hk
    omega
  · simp [e] at hL
    have := m3 k u hw hk hu hL
    omega
set_option maxRecDepth 20000 in
set_option maxHeartbeats 4000000 in
theorem tcounts_any (b n : Nat) (F : Int → Option Int) (G : Nat → Int) (lim N : Nat) (w : World) (hm : MapK w b n F) (v : ValK F G lim) (hl : lim ≤ 400) (hN : N ≤ 400) (h1 : ∀ k, N ≤ k → G k = 0) (h2 : N = 0 ∨ 0 < G (N - 1)) (hb : ∀ k, 0 ≤ G k ∧ G k ≤ 99999999999999999) :
    Calls Try.prog 81 #[.map (some b)] w fun e w' => ∃ u, e = .returned u ∧ IsSlice w' u ((tabG G N).map (.int .i64)) ∧ Below w.heap.size w w' := by
  have HM := Lib.hid hm
  have HV := Lib.hid v
  have HL := Lib.hid hl
  have HN := Lib.hid hN
  have H1 := Lib.hid h1
  have H2 := Lib.hid h2
  have HB := Lib.hid hb
  have hblt := hm.lt
  have HBL := Lib.hid hblt
  clear hm v hl h1 h2 hb hblt
  go_enter Try.func81, Try.ntmps81
  go_wp2_with (first
    | (at_range; refine wpList_rngk _ rfl _ 39 rfl Try.underlying39 b n F rfl HM.out ?_; intro w0 cnt0 hrg0 hg0 hs0)
    | go_in)
  go_frame
  go_loopw [3] (fun s3 wr => ∃ (L : Int → Bool) (cnt : Nat) (M : Int), s3 = .int .i64 M ∧ Hid (RngK wr b w.heap.size n F L cnt) ∧ Hid (MostAt F N L M) ∧ Hid (Below w.heap.size w wr)) (fun _ wr => wr.rangeLeft b w.heap.size)
  case atStart =>
    refine ⟨_, _, -1, rfl, hrg0.out, ⟨by omega, by omega, fun k u _ hk _ hL => ?_⟩, (Below.refl _ _).grown hg0.out (Nat.le_refl _) (fun k hk => by cases hk)⟩
    have hL2 : (F k).isSome = false := hL
    rw [hk] at hL2; cases hL2
  case round =>
    obtain ⟨L, cnt, M, rfl, hrg, hmo, hbe⟩ := hrel
    go_wp2_with (first
      | (at_next; refine wpList_nextk _ rfl _ rfl b w.heap.size n F L cnt rfl hrg.out ?_ ?_)
      | go_in)
    · intro hdone
      have he := most_end HV.out HL.out H1.out H2.out hmo.out hdone.out
      have HMo := Lib.hid (And.intro hmo.out.1 hmo.out.2.1)
      have m1 : -1 ≤ M := hmo.out.1
      have m2 : M < (N : Int) := hmo.out.2.1
      have hmk := run_make_row' (P := Try.prog) 41 3 (.int .i64 0) 8 Try.underlying41 (by kernel_rfl) rfl .i64 .i64 N (by omega) (by omega)
      have R0 := Lib.hid (World.rowIs_made wr (.int .i64 0) N 3)
      have HM2 : Hid (MapK (wr.alloc (.cells (madeCells #[.int .i64 0] N) 3)) b n F) := hrg.out.map.alloc _
      have HE := Lib.hid he
      obtain ⟨wo, rfl⟩ : ∃ wo : World, wo = wr := ⟨_, rfl⟩
      go_wp2_with (first
        | (at_range; refine wpList_rngk _ rfl _ 39 rfl Try.underlying39 b n F rfl HM2.out ?_; intro w5 cnt5 hrg5 hg5 hs5)
        | go_in)
      go_frame
      have er : (wo.alloc (.cells (madeCells #[.int .i64 0] N) 3)).heap.size = wo.heap.size + 1 := by simp
      have hbw5 : Below (wo.heap.size + 1) (wo.alloc (.cells (madeCells #[.int .i64 0] N) 3)) w5 := (Below.refl _ _).grown hg5.out (by rw [er]; exact Nat.le_refl _) (fun k hk => by cases hk)
      have HR5 : Hid (w5.rowIs wo.heap.size 3 N (fun _ => .int .i64 0)) := rowIs_below R0.out hbw5 (by omega)
      have HB5 : Hid (Below w.heap.size w w5) := (hbe.out.alloc hbe.out.size _).trans (hbw5.mono (by have := hbe.out.size; omega))
      have HRG5 : Hid (RngK w5 b (wo.heap.size + 1) n F (fun x => (F x).isSome) cnt5) := by have := hrg5.out; rw [er] at this; exact this
      have hsz := hbe.out.size
      rw [er]
      clear er hbw5 hmk he hrg5 hg5 hs5
      go_loopw [7] (fun s7 wr => ∃ (L : Int → Bool) (cnt : Nat), Hid (RngK wr b (wo.heap.size + 1) n F L cnt) ∧ Hid (wr.rowIs wo.heap.size 3 N (fun k => .int .i64 (if L k = true then 0 else G k))) ∧ Hid (Below w.heap.size w wr)) (fun _ wr => wr.rangeLeft b (wo.heap.size + 1))
      case atStart =>
        refine ⟨_, _, HRG5.out, HR5.out.congr (fun i hi => ?_), HB5.out⟩
        have hv := HV.out.at i
        cases hF : F (i : Int) with
        | none => rw [hF] at hv; simp at hv; simp [← hv]
        | some u => simp
      case round =>
        obtain ⟨L2, cnt2, hrg2, hrow, hb2⟩ := hrel
        go_wp2_with (first
          | (at_next; refine wpList_nextk _ rfl _ rfl b (wo.heap.size + 1) n F L2 cnt2 rfl hrg2.out ?_ ?_)
          | go_in)
        · intro hdone2
          go_wp2_with fail
          go_ret
          refine ⟨_, rfl, isSlice_row hrow.out (tabG_len G N) (fun i hi => ?_), hb2.out⟩
          rw [tabG_at G hi, hdone2.out _ (wfi (by omega) (by omega)), if_neg (by simp)]
        · intro x c w1 cnt1 hwf hlx hF hrg1 hlt hg1 hs1 hen
          have hx0 := HV.out.2 _ _ hF.out
          obtain ⟨K, rfl⟩ : ∃ K : Nat, x = (K : Int) := ⟨x.toNat, by omega⟩
          have hc : c = G K := by have := HV.out.at K; rw [hF.out] at this; simpa using this
          have HC := Lib.hid hc
          have HB1 : Hid (Below w.heap.size w w1) := hb2.out.grown hg1.out hb2.out.size (fun k hk => by injection hk with hk; omega)
          have hrow1 : w1.rowIs wo.heap.size 3 N (fun k => .int .i64 (if L2 k = true then 0 else G k)) := hrow.out.of_block (hg1.out.block _ hrow.out.lt (by simp))
          have HRW := Lib.hid hrow1
          clear hx0 hc
          by_cases hkN : K < N
          · have b1 : decide ((K : Int) ≤ M) = true := decide_eq_true (by have := HE.out; omega)
            have c1 := hrow1.cell hkN
            have f1 := hrow1.frozen K
            have i1 : (K : Int) < (N : Int) := by omega
            have i2 : (0 : Int) ≤ (K : Int) := by omega
            have HRG : Hid (RngK (w1.setCell ⟨wo.heap.size, K, none⟩ (.int .i64 c)) b (wo.heap.size + 1) n F (fun y => L2 y && !decide (y = (K : Int))) cnt1) :=
              hrg1.out.kept (row := some wo.heap.size) ⟨rfl, rfl, rfl, by simp, fun q _ hq => Below.heap_setCell w1 _ _ q (fun e => hq (by rw [e]))⟩ (by have := HBL.out; simp; omega) (by simp)
            clear hrow1
            go_wp2_with fail
            go_roundw
            case rel =>
              refine ⟨_, cnt1, HRG.out, (HRW.out.set K _).congr (fun i hi => ?_), HB1.out.setCell (by show w.heap.size ≤ wo.heap.size; omega) _⟩
              by_cases e : i = K
              · subst e; rw [if_pos rfl, if_neg (by simp), HC.out]
              · rw [if_neg e]
                have : decide ((i : Int) = (K : Int)) = false := decide_eq_false (by omega)
                simp [this]
            case measure => rw [HRG.out.left_eq, hrg2.out.left_eq]; exact hlt.out
          · have b1 : decide ((K : Int) ≤ M) = false := decide_eq_false (by have := HE.out; omega)
            clear hrow1
            go_wp2_with fail
            go_roundw
            case rel =>
              refine ⟨_, cnt1, hrg1.out, HRW.out.congr (fun i hi => ?_), HB1.out⟩
              have : decide ((i : Int) = (K : Int)) = false := decide_eq_false (by omega)
              simp [this]
            case measure => rw [hrg1.out.left_eq, hrg2.out.left_eq]; exact hlt.out
    · intro x c w1 cnt1 hwf hlx hF hrg1 hlt hg1 hs1 hen
      have HB1 : Hid (Below w.heap.size w w1) := hbe.out.grown hg1.out hbe.out.size (fun k hk => by injection hk with hk; omega)
      rcases (by omega : (0 < c ∧ M < x) ∨ (0 < c ∧ ¬ M < x) ∨ ¬ 0 < c) with ⟨h3, h4⟩ | ⟨h3, h4⟩ | h3
      · have HMS : Hid (MostAt F N (fun y => L y && !decide (y = x)) x) := most_step HV.out H1.out hmo.out hF.out x (.inl ⟨h3, h4, rfl⟩)
        have b1 : decide (0 < c) = true := decide_eq_true h3
        have b2 : decide (M < x) = true := decide_eq_true h4
        clear h3 h4
        go_wp2_with fail
        go_roundw
        case rel => exact ⟨_, cnt1, x, rfl, hrg1.out, HMS.out, HB1.out⟩
        case measure => rw [hrg1.out.left_eq, hrg.out.left_eq]; exact hlt.out
      · have HMS : Hid (MostAt F N (fun y => L y && !decide (y = x)) M) := most_step HV.out H1.out hmo.out hF.out M (.inr ⟨.inr h4, rfl⟩)
        have b1 : decide (0 < c) = true := decide_eq_true h3
        have b2 : decide (M < x) = false := decide_eq_false h4
        clear h3 h4
        go_wp2_with fail
        go_roundw
        case rel => exact ⟨_, cnt1, M, rfl, hrg1.out, HMS.out, HB1.out⟩
        case measure => rw [hrg1.out.left_eq, hrg.out.left_eq]; exact hlt.out
      · have HMS : Hid (MostAt F N (fun y => L y && !decide (y = x)) M) := most_step HV.out H1.out hmo.out hF.out M (.inr ⟨.inl h3, rfl⟩)
        have b1 : decide (0 < c) = false := decide_eq_false h3
        clear h3
        go_wp2_with fail
        go_roundw
        case rel => exact ⟨_, cnt1, M, rfl, hrg1.out, HMS.out, HB1.out⟩
        case measure => rw [hrg1.out.left_eq, hrg.out.left_eq]; exact hlt.out
end Go.Proofs.Ytaehehoeidnidaa
