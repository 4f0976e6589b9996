/- The reference's VParts walked. No condition. -/
import Derived.Test.YtakjcodfcoaadabUrnO
import Derived.Test.YtakjcodfcoaadabMapI
import Derived.WalkArith
namespace Go.Proofs.Ytakjcodfcoaadab
open Go.ChangeShapes Go.WideShapes Go.ChangeAt Go.RowKit Go.Maps Go.WideMaps

theorem arr2 : ArrKey Try.prog 74 3 2 := ⟨Try.underlying74, by kernel_rfl, by kernel_rfl, by kernel_rfl⟩
theorem key2 : Keyed Try.prog 74 := Keyed.of_law arr2.law
theorem key2_at (a b : Int) (h1 : -9223372036854775808 ≤ a ∧ a ≤ 9223372036854775807) (h2 : -9223372036854775808 ≤ b ∧ b ≤ 9223372036854775807) : ∃ kl, keyOf Try.prog 74 (.agg #[.int .i64 a, .int .i64 b]) = some kl :=
  ⟨_, keyOf_pair arr2 Try.underlying3 ⟨_, rfl⟩ (WalkArith.wf_i64 h1) (WalkArith.wf_i64 h2)⟩
theorem zero_int (w : World) : (zeroValue 3).run Try.prog w = .ok (.int .i64 0) w := by kernel_rfl

/-- The table, when the rows before i are there, and of row i what is before j. -/
def vtab (i j : Nat) (a b : Int) : Int := if 0 ≤ a ∧ 0 ≤ b ∧ (a < i ∨ (a = i ∧ b < j)) then (stir a.toNat b.toNat : Nat) else 0
theorem vtab_next (i a b) : vtab i (i + 1) a b = vtab (i + 1) 1 a b := by
  unfold vtab
  by_cases h : 0 ≤ a ∧ 0 ≤ b
  · by_cases h1 : a < (i : Int)
    · rw [if_pos ⟨h.1, h.2, .inl h1⟩, if_pos ⟨h.1, h.2, .inl (by omega)⟩]
    · by_cases h2 : a = (i : Int)
      · subst h2
        by_cases h3 : b < ((i + 1 : Nat) : Int)
        · rw [if_pos ⟨h.1, h.2, .inr ⟨rfl, h3⟩⟩, if_pos ⟨h.1, h.2, .inl (by omega)⟩]
        · rw [if_neg (by omega), if_pos ⟨h.1, h.2, .inl (by omega)⟩, stir_gt (by omega)]; rfl
      · by_cases h3 : a = ((i + 1 : Nat) : Int) ∧ b < 1
        · obtain ⟨rfl, h3⟩ := h3
          obtain rfl : b = 0 := by omega
          rw [if_neg (by omega), if_pos ⟨h.1, h.2, .inr ⟨rfl, h3⟩⟩]; rfl
        · rw [if_neg (by omega), if_neg (by omega)]
  · rw [if_neg (by omega), if_neg (by omega)]
theorem vtab_put (i j : Nat) : vtab i (j + 1) (i : Int) (j : Int) = (stir i j : Nat) := by
  unfold vtab; rw [if_pos (by omega)]; rfl
theorem vtab_far (i j : Nat) (a b : Int) (h : (a, b) ≠ ((i : Int), (j : Int))) : vtab i (j + 1) a b = vtab i j a b := by
  unfold vtab
  by_cases h1 : 0 ≤ a ∧ 0 ≤ b ∧ (a < i ∨ (a = i ∧ b < j))
  · rw [if_pos h1, if_pos (by omega)]
  · rw [if_neg h1, if_neg]
    rintro ⟨h2, h3, h4 | ⟨h4, h5⟩⟩
    · exact h1 ⟨h2, h3, .inl h4⟩
    · have : b ≠ (j : Int) := fun e => h (by rw [h4, e])
      exact h1 ⟨h2, h3, .inr ⟨h4, by omega⟩⟩
def vat (N : Nat) (k : Int) : Nat := if k < 0 then 0 else stir N k.toNat
theorem vtab_done (N : Nat) (k : Int) : vtab (N + 1) 1 (N : Int) k = (vat N k : Nat) := by
  unfold vtab vat
  by_cases h : k < 0
  · rw [if_neg (by omega), if_pos h]; rfl
  · rw [if_pos (by omega), if_neg h]; rfl
theorem vtab_old (i j : Nat) (b : Nat) : vtab (i + 1) j (i : Int) (b : Int) = (stir i b : Nat) := by
  unfold vtab; rw [if_pos (by omega)]; rfl
abbrev MapT (w : World) (b n : Nat) (G : Int → Int → Int) : Prop := MapI Try.prog 74 3 w b n (at2 G)

set_option maxRecDepth 20000 in
set_option maxHeartbeats 2000000 in
theorem vparts_any (N : Nat) (k : Int) (w : World) (hN : N ≤ 20) (hk1 : -9223372036854775808 ≤ k) (hk2 : k ≤ 9223372036854775807) : Calls Try.prog 32 #[.int .i64 N, .int .i64 k] w fun e w' => e = .returned (.int .i64 (vat N k : Nat)) ∧ Below w.heap.size w w' := by
  have hmm := @run_makeMap Try.prog
  obtain ⟨w1, hr1, m1, g1⟩ := (MapI.made Try.prog 74 3 w).update (F' := at2 (vtab 1 1)) key2 (t := 75) Try.underlying75 Try.underlying3 (by decide) (key2_at 0 0 (by omega) (by omega)) (v := 1) (WalkArith.wf_i64 (by omega)) rfl
    (fun x hx => (at2_other (G := fun _ _ => 0) (fun a b h => by
      unfold vtab
      by_cases h2 : 0 ≤ a ∧ 0 ≤ b ∧ (a < (1 : Nat) ∨ (a = (1 : Nat) ∧ b < (1 : Nat)))
      · rw [if_pos h2]
        have : a = 0 ∨ a = 1 ∧ b = 0 := by omega
        rcases this with rfl | ⟨rfl, rfl⟩
        · have hb : b ≠ 0 := fun e => h (by rw [e])
          obtain ⟨c, hc⟩ : ∃ c : Nat, b.toNat = c + 1 := ⟨b.toNat - 1, by omega⟩
          rw [hc]; rfl
        · rfl
      · rw [if_neg h2]) x hx).trans (by unfold at2; split <;> rfl))
  have M1 := Lib.hid m1
  have G1 : Hid (Below w.heap.size w w1) := ((Below.refl _ _).alloc (Nat.le_refl _) (.map #[] 0)).grown g1 (by simp) (fun k hk => by injection hk with hk; omega)
  clear m1 g1
  go_enter Try.func32, Try.ntmps32
  go_wp2_with fail
  clear hr1
  go_loopw [6] (fun s6 wr => ∃ i n : Nat, i ≤ N ∧ n ≤ 21 * i + 1 ∧ s6 = .int .i64 ((i : Int) + 1) ∧ MapT wr w.heap.size n (vtab (i + 1) 1) ∧ Below w.heap.size w wr) (fun s6 _ => N + 1 - (intOf s6).toNat)
  case atStart => exact ⟨0, 1, by omega, by omega, rfl, M1.out, G1.out⟩
  case round =>
    obtain ⟨i, n, hi, hn, rfl, hm, hb⟩ := hrel
    have HM := Lib.hid hm
    have HB := Lib.hid hb
    clear hm hb
    by_cases hlt : i < N
    · obtain ⟨wo, rfl⟩ : ∃ wo : World, wo = wr := ⟨_, rfl⟩
      have d1 : decide ((i : Int) + 1 ≤ (N : Int)) = true := decide_eq_true (by omega)
      go_wp2_with fail
      clear d1
      go_loopw [7] (fun s7 wr => ∃ j m : Nat, j ≤ i + 1 ∧ m ≤ 21 * i + 1 + j ∧ s7 = .int .i64 ((j : Int) + 1) ∧ MapT wr w.heap.size m (vtab (i + 1) (j + 1)) ∧ Below w.heap.size w wr) (fun s7 _ => i + 2 - (intOf s7).toNat)
      case atStart => exact ⟨0, n, by omega, by omega, rfl, HM.out, HB.out⟩
      case round =>
        obtain ⟨j, m, hj, hm, rfl, hmap, hbel⟩ := hrel
        have HM2 := Lib.hid hmap
        have HB2 := Lib.hid hbel
        clear hbel
        by_cases hjlt : j < i + 1
        · have l1 := hmap.drew.look key2 (t := 75) Try.underlying75 Try.underlying3 (zero_int _) (key2_at i j (by omega) (by omega))
          have l2 := hmap.drew.look key2 (t := 75) Try.underlying75 Try.underlying3 (zero_int _) (key2_at i ((j : Int) + 1) (by omega) (by omega))
          rw [at2_key] at l1 l2
          rw [vtab_old] at l1
          rw [show (j : Int) + 1 = ((j + 1 : Nat) : Int) by omega, vtab_old, show ((j + 1 : Nat) : Int) = (j : Int) + 1 by omega] at l2
          have m1 : IntKind.i64.wrap (i : Int) = (i : Int) := IntWalk.i64_in _ (by omega)
          have m2 : IntKind.i64.wrap (j : Int) = (j : Int) := IntWalk.i64_in _ (by omega)
          have b1 := stir_small (show i ≤ 20 by omega) (show j + 1 ≤ 20 by omega)
          have b2 := stir_small (show i ≤ 20 by omega) (show j ≤ 20 by omega)
          have b3 := stir_small (show i + 1 ≤ 20 by omega) (show j + 1 ≤ 20 by omega)
          have HX : Hid (stir (i + 1) (j + 1) = (j + 1) * stir i (j + 1) + stir i j) := rfl
          have hX : ((stir i j : Nat) + ((j : Int) + 1) * (stir i (j + 1) : Nat) : Int) = (stir (i + 1) (j + 1) : Nat) := by rw [HX.out]; simp; omega
          have h0 : 0 ≤ ((j : Int) + 1) * (stir i (j + 1) : Nat) := Int.mul_nonneg (by omega) (by omega)
          have m3 : IntKind.i64.wrap (((j : Int) + 1) * (stir i (j + 1) : Nat)) = ((j : Int) + 1) * (stir i (j + 1) : Nat) := IntWalk.i64_in _ (by omega)
          have m4 : IntKind.i64.wrap ((stir i j : Nat) + ((j : Int) + 1) * (stir i (j + 1) : Nat)) = (stir (i + 1) (j + 1) : Nat) := by rw [hX]; exact IntWalk.i64_in _ (by omega)
          have hc : -9223372036854775808 ≤ ((stir (i + 1) (j + 1) : Nat) : Int) ∧ ((stir (i + 1) (j + 1) : Nat) : Int) ≤ 9223372036854775807 := by omega
          have HC := Lib.hid hc
          have HP : Hid (at2 (vtab (i + 1) (j + 1 + 1)) (.agg #[.int .i64 ((i : Int) + 1), .int .i64 ((j : Int) + 1)]) = (stir (i + 1) (j + 1) : Nat)) := vtab_put (i + 1) (j + 1)
          have HQ : Hid (∀ x, x ≠ .agg #[.int .i64 ((i : Int) + 1), .int .i64 ((j : Int) + 1)] → at2 (vtab (i + 1) (j + 1 + 1)) x = at2 (vtab (i + 1) (j + 1)) x) := at2_other (fun a b h => vtab_far (i + 1) (j + 1) a b h)
          clear hmap hX h0 hc
          generalize stir i (j + 1) = x at *
          generalize stir i j = y at *
          generalize stir (i + 1) (j + 1) = z at *
          go_wp2_with fail
          go_still_tail 20, (by kernel_rfl)
          change wpList _ _ _ _ _ wr.drew
          clear m1 m2 m3 m4 l1 l2
          go_wp2_with (at_mapUpdate; go_must (refine wpList_mapi_store _ rfl _ _ _ _ rfl 74 3 key2 Try.underlying75 Try.underlying3 w.heap.size m (at2 (vtab (i + 1) (j + 1))) (at2 (vtab (i + 1) (j + 1 + 1))) rfl HM2.out.drew (by unfold maxLen; omega) _ z rfl rfl (key2_at _ _ (by omega) (by omega)) (WalkArith.wf_i64 HC.out) HP.out HQ.out ?_); intro w3 h31 h32; have H31 := Lib.hid h31; have H32 := Lib.hid h32; clear h31 h32)
          go_roundw
          case rel => first | exact ⟨j + 1, m + 1, by omega, by omega, by go_num, H31.out, (Below.drew HB2.out).grown H32.out (by have := HB2.out.size; simpa using this) (fun k hk => by injection hk with hk; omega)⟩ | ((repeat apply Exists.intro); exact ⟨⟨j + 1, m + 1, by omega, by omega, by go_num, H31.out, (Below.drew HB2.out).grown H32.out (by have := HB2.out.size; simpa using this) (fun k hk => by injection hk with hk; omega)⟩, rfl⟩)
          case measure => simp [intOf]; omega
        · obtain rfl : j = i + 1 := by omega
          clear hmap
          go_wp2_with fail
          go_roundw
          case rel => exact ⟨i + 1, m, by omega, by omega, by go_num, by have := HM2.out; rwa [show vtab (i + 1) (i + 1 + 1) = vtab (i + 1 + 1) 1 from funext fun a => funext fun b => vtab_next _ _ _] at this, HB2.out⟩
          case measure => simp [intOf]; omega
    · obtain rfl : i = N := by omega
      have l1 := HM.out.look key2 (t := 75) Try.underlying75 Try.underlying3 (zero_int _) (key2_at i k (by omega) (by omega))
      rw [at2_key, vtab_done] at l1
      go_wp2_with fail
      go_ret
      exact ⟨rfl, HB.out⟩
end Go.Proofs.Ytakjcodfcoaadab
