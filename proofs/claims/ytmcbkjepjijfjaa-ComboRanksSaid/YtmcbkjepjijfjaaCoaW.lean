/- The number of a choice, walked twice. No condition. -/
import Derived.Test.YtmcbkjepjijfjaaCoaM
import Derived.Test.YtmcbkjepjijfjaaComO
import Derived.Test.YtmcbkjepjijfjaaComR
import Derived.Test.YtmcbkjepjijfjaaEOf
import Derived.Test.YtmcbkjepjijfjaaHeld
import Derived.Test.YtmcbkjepjijfjaaSeq2
import Derived.IntWalk
namespace Go.Proofs.Ytmcbkjepjijfjaa
open Go.ChangeShapes Go.WideShapes Go.ChangeAt Go.RowKit
set_option linter.unusedVariables false

theorem Seg.zat {w : World} {B : Nat} {A : Option Addr} {p : List Int} (h : Seg w B A (p.map (.int .i64))) {k : Nat} (hk : k < p.length) : ∃ ad, A = some ad ∧ ad.block < B ∧ w.cell? (ad.add k) = some (.int .i64 (zat p k)) := h.pat hk
set_option maxRecDepth 20000 in
set_option maxHeartbeats 2000000 in
theorem crank_any (n : Int) (zs : List Int) (A : Option Addr) (c : Nat) (w : World) (hs : Seg w w.heap.size A (zs.map (.int .i64))) (hm : zs.length ≤ 9223372036854775807) :
    Calls Try.prog 63 #[.int .i64 n, .slice A zs.length c] w fun e w' => e = .returned (.tuple (if eright n zs = true then #[.int .i64 (erk zs zs.length : Nat), .int .i64 0] else #[.int .i64 0, .int .i64 1])) ∧ ∃ d, w' = w.drewN d := by
  have hr := cright_any n zs A c _ w hs hm
  have HS := Lib.hid hs
  cases hg : eright n zs with
  | false =>
    rw [hg] at hr
    have HR := Lib.hid hr
    rw [if_neg (by decide)]
    clear hr hg hs
    go_enter Try.func63, Try.ntmps63
    go_wp2_with fail
    refine HR.out.mono ?_
    rintro e w1 ⟨rfl, rfl⟩
    go_wp2_with fail
    go_ret2
    exact ⟨rfl, 0, rfl⟩
  | true =>
    rw [hg] at hr
    have HR := Lib.hid hr
    rw [if_pos rfl]
    unfold eright at hg
    simp at hg
    obtain ⟨⟨h0, h60⟩, hok⟩ := hg
    have HOK := Lib.hid hok
    have hlen : zs.length ≤ 60 := by
      rcases Nat.eq_zero_or_pos zs.length with h | h
      · omega
      · have key : ∀ j, j < zs.length → (j : Int) ≤ zat zs j := by
          intro j
          induction j with
          | zero => intro hj; exact eokc_nn hok hj
          | succ j ih => intro hj; have := ih (by omega); have := eokc_lt hok (show j < j + 1 by omega) hj; omega
        have h1 := key (zs.length - 1) (by omega)
        have h2 := (eokc_at hok (show zs.length - 1 < zs.length by omega)).2
        omega
    have HEB : Hid (∀ i, i ≤ zs.length → erk zs i ≤ 2305843009213693952) := fun i hi => Nat.le_trans (Nat.le_of_lt (erk_bound hok h0 hi)) (bin_small (by omega) i)
    clear hr hs
    go_enter Try.func63, Try.ntmps63
    clear hok
    go_wp2_with fail
    refine HR.out.mono ?_
    rintro e w1 ⟨rfl, rfl⟩
    go_wp2_with fail
    go_loopw [6, 15] (fun s6 s15 wr => ∃ k : Nat, k ≤ zs.length ∧ s15 = .int .i64 k ∧ s6 = .int .i64 (erk zs k : Nat) ∧ ∃ d, wr = w.drewN d) (fun _ s15 _ => zs.length - (intOf s15).toNat)
    case atStart => exact ⟨0, Nat.zero_le _, rfl, rfl, 0, rfl⟩
    case round =>
      obtain ⟨k, hk, rfl, rfl, d, rfl⟩ := hrel
      by_cases hlt : k < zs.length
      · have i3 : (k : Int) < (zs.length : Int) := by omega
        obtain ⟨ae, rfl, _, hcell⟩ := HS.out.zat hlt
        have hnn := eokc_nn HOK.out hlt
        have hxn := (eokc_at HOK.out hlt).2
        obtain ⟨X, hX⟩ : ∃ X : Nat, zat zs k = X := ⟨(zat zs k).toNat, by omega⟩
        have HST : Hid (erk zs (k + 1) = erk zs k + bin X (k + 1)) := by unfold Hid; rw [erk, hX, Int.toNat_natCast]
        have hb := HEB.out (k + 1) (by omega)
        have hb0 := HEB.out k hk
        rw [HST.out] at hb
        rw [hX] at hcell hnn hxn
        have HOF := Lib.hid (fun u => of_any X (k + 1) u (by omega))
        have hk1 : (k : Int) + 1 = ((k + 1 : Nat) : Int) := rfl
        clear hX
        generalize bin X (k + 1) = v at *
        generalize erk zs k = q at *
        generalize hK : k + 1 = K at *
        have HK := Lib.hid hK
        clear hK
        go_wp2_with fail
        refine (HOF.out _).mono ?_
        rintro e w' ⟨rfl, d2, rfl⟩
        go_wp2_with fail
        go_roundw
        case rel => exact ⟨K, by have := HK.out; omega, rfl, by rw [HST.out]; rfl, _, rfl⟩
        case measure => simp [intOf]; omega
      · have i3 : ¬ (k : Int) < (zs.length : Int) := by omega
        have HK : Hid (k = zs.length) := by unfold Hid; omega
        go_wp2_with fail
        go_ret2
        exact ⟨by rw [HK.out]; rfl, d, rfl⟩
set_option maxRecDepth 20000 in
set_option maxHeartbeats 2000000 in
theorem erank_any (zs : List Int) (A : Option Addr) (c : Nat) (hz : ∀ j, j < zs.length → 0 ≤ zat zs j ∧ zat zs j ≤ 60) (hb : ∀ i, i ≤ zs.length → erk zs i ≤ 2305843009213693952) (hl : zs.length ≤ 60) (hlc : zs.length ≤ c) : ∀ (k : Nat) (w : World), k ≤ zs.length → Seg w w.heap.size A (zs.map (.int .i64)) →
    Calls Try.prog 67 #[.slice A k c] w fun e w' => e = .returned (.int .i64 (erk zs k : Nat)) ∧ Below w.heap.size w w' := by
  intro k
  induction k with
  | zero =>
    intro w _ _
    go_enter Try.func67, Try.ntmps67
    go_wp2_with fail
    go_ret
    exact ⟨rfl, Below.refl _ _⟩
  | succ k ih =>
    intro w hk hs
    have HS := Lib.hid hs
    have HI := Lib.hid ih
    obtain ⟨ae, rfl, _, hcell⟩ := hs.zat (p := zs) (k := k) (by omega)
    have hzk := hz k (by omega)
    obtain ⟨X, hX⟩ : ∃ X : Nat, zat zs k = X := ⟨(zat zs k).toNat, by omega⟩
    have HST : Hid (erk zs (k + 1) = erk zs k + bin X (k + 1)) := by unfold Hid; rw [erk, hX, Int.toNat_natCast]
    have hb1 := hb (k + 1) hk
    have hb0 := hb k (by omega)
    rw [HST.out] at hb1
    rw [hX] at hcell hzk
    have hEO := fun u => eof_any X ((k + 1 : Nat) : Int) u (by omega)
    rw [ebin_nat] at hEO
    have HEO := Lib.hid hEO
    have i1 : ((k + 1 : Nat) : Int) - 1 = (k : Int) := by omega
    have i2 : (k : Int) < ((k + 1 : Nat) : Int) := by omega
    have i3 : (k : Int) ≤ (c : Int) := by omega
    have b1 : (((k + 1 : Nat) : Int) == 0) = false := by rw [beq_eq_false_iff_ne]; omega
    have HCELL := Lib.hid hcell
    have hsl := slice_to (A := some ae) (n := k + 1) (x := k) (c := c) (k : Int) rfl (by omega)
    have HSX : Hid (∀ u, Below w.heap.size w u → u.cell? (ae.add k) = some (.int .i64 X)) := fun u hu => by
      rw [hu.cell (by rw [addr_block]; assumption)]; exact hcell
    clear hs ih hX hb hz hcell hEO
    generalize bin X (k + 1) = v at *
    generalize erk zs k = q at *
    generalize hK : k + 1 = K at *
    have HK := Lib.hid hK
    clear hK
    go_enter Try.func67, Try.ntmps67
    go_wp2_with fail
    have hwk : IntKind.i64.wrap (k : Int) = (k : Int) := IntWalk.i64_in _ (by omega)
    refine wp_region_plan [(0, 0), (1, 0), (2, 0), (3, 0), (4, 1), (5, 0), (7, 0), (8, 0), (9, 0), (10, 0), (6, 2), (11, 2), (12, 0), (13, 0)] (fun w' => w'.cell? (ae.add k) = some (.int .i64 X) ∧ Below w.heap.size w w') (by kernel_rfl) (by kernel_rfl) (fun _ d _ _ _ h => by cases d <;> exact h) ⟨HCELL.out, Below.drew (Below.refl _ _)⟩ ?_
    iterate 10 ((first | (refine plan0 (v := ?_) rfl rfl (by rfl) ?_ ?_) | (refine plan1 (v := ?_) rfl rfl (by rfl) ?_ ?_)); rotate_left; (first | (intro w'; go_simp; with_reducible rfl) | (intro w' hS; obtain ⟨h1, h2⟩ := hS; go_simp; with_reducible rfl)); simp only [List.setIfInBounds_toArray, List.set_cons_zero, List.set_cons_succ])
    refine plan2 rfl rfl fun K' hK' => ?_
    go_simp
    refine (HEO.out _).mono ?_
    rintro e w1 ⟨rfl, hb⟩
    have HB1 : Hid (Below w.heap.size w w1) := (Below.drew (Below.refl _ _)).trans hb
    have HS1 : Hid (Seg w1 w1.heap.size (some ae) (zs.map (.int .i64))) := HS.out.on HB1.out
    dsimp only
    refine hK' _ _ ⟨HSX.out _ HB1.out, HB1.out⟩ ?_
    clear hK' K' hb
    refine plan2 rfl rfl fun K' hK' => ?_
    go_simp
    refine (HI.out _ (by omega) HS1.out).mono ?_
    rintro e w2 ⟨rfl, hb⟩
    have HB2 : Hid (Below w.heap.size w w2) := HB1.out.trans (hb.mono HB1.out.size)
    dsimp only
    refine hK' _ _ ⟨HSX.out _ HB2.out, HB2.out⟩ ?_
    clear hK' K' hb
    have hwq : IntKind.i64.wrap ((v : Int) + (q : Int)) = (v : Int) + (q : Int) := IntWalk.i64_in _ (by omega)
    iterate 2 ((refine plan0 (v := ?_) rfl rfl (by rfl) ?_ ?_); rotate_left; (intro w'; go_simp; with_reducible rfl))
    refine planEnd ?_
    go_wp2_with fail
    go_ret
    exact ⟨by rw [HST.out]; go_num, HB2.out⟩
end Go.Proofs.Ytmcbkjepjijfjaa
