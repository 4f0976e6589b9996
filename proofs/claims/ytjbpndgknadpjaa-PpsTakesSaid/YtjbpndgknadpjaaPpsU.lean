/- The reference's Take walked. No condition. -/
import Derived.Test.YtjbpndgknadpjaaPpsT
namespace Go.Proofs.Ytjbpndgknadpjaa
open Go.ChangeShapes Go.WideShapes Go.ChangeAt Go.RowKit

set_option maxRecDepth 20000 in
set_option maxHeartbeats 2000000 in
theorem jtake_any (A : Option Addr) (zs : List Int) (c B : Nat) (many start : Int) (w : World) (hs : Seg w B A (zs.map (.int .i64))) (hB : B ≤ w.heap.size) (hm : zs.length ≤ maxLen) :
    Calls Try.prog 12 #[.slice A zs.length c, .int .i64 many, .int .i64 start] w fun e w' => (∃ v, e = .returned (.tuple #[v, .int .i64 (ptake zs many start).2]) ∧ IsSlice w' v ((ptake zs many start).1.map (.int .i64))) ∧ Below w.heap.size w w' := by
  go_enter Try.func12, Try.ntmps12
  go_wp2_with fail
  refine (jsum_any A zs c B many w hs hm).mono ?_
  rintro e w1 ⟨rfl, rfl⟩
  by_cases h0 : (psum zs many).2 = 0
  · have g0 : ((psum zs many).2 != 0) = false := by simp [h0]
    have hps := Lib.hid (psum_zero zs many h0)
    have H0 := Lib.hid h0
    clear h0
    have e1 := hps.out.2.2.2.2.1
    rw [e1]
    clear e1
    by_cases hk : 0 ≤ start ∧ start < zs.sum
    · obtain ⟨hk1, hk2⟩ := hk
      have hl := hps.out.1
      have hm1 := hps.out.2.1
      have hm2 := hps.out.2.2.1
      have hw := Lib.hid hps.out.2.2.2.1
      have hsum : zs.sum ≤ 419430400 := by have := (wok_sum zs hw.out).2; omega
      have hf : Hid (ptake zs many start = (ppts zs many start many.toNat, 0)) := by
        unfold Hid ptake
        rw [if_pos H0.out, if_pos ⟨hk1, hk2⟩]
      generalize (psum zs many).2 = e2 at *
      go_wp2
      go_loopw [10, 11] (fun o i wr => ∃ j : Nat, i = .int .i64 j ∧ Own wr w.heap.size 3 o (tout zs many start j) ∧ Below w.heap.size w wr ∧ Hid ((j : Int) ≤ many)) (fun _ i _ => many.toNat - (intOf i).toNat)
      case atStart => exact ⟨0, rfl, Own.none_, Below.refl _ _, by unfold Hid; omega⟩
      case round =>
        obtain ⟨j, rfl, hown, hbel, hj⟩ := hrel
        have hj := hj.out
        by_cases hjm : (j : Int) < many
        · have n0 := pnext_nonneg zs start j hk1 hps.out.2.2.2.2.2
          have n1 := pnext_ge zs start many.toNat j hk1 hk2 (by omega)
          rw [Int.toNat_of_nonneg (by omega)] at n1
          have m1 : 0 ≤ (j : Int) * zs.sum := Int.mul_nonneg (by omega) (by omega)
          have m2 : (j : Int) * zs.sum ≤ 167772160000 := by
            have h1 : (j : Int) * zs.sum ≤ 400 * zs.sum := Int.mul_le_mul_of_nonneg_right (by omega) (by omega)
            omega
          obtain ⟨js, hS⟩ : ∃ js, js = (j : Int) * zs.sum := ⟨_, rfl⟩
          rw [← hS] at m1 m2
          have HW : Hid (wrap64 (start + wrap64 ((j : Int) * zs.sum)) = start + js) := by unfold Hid; rw [← hS]; unfold wrap64; omega
          have HPN : Hid (pnext zs start j = start + js) := by unfold Hid; rw [hS]; rfl
          clear hS
          have HT := Lib.hid (tout_succ zs many start j)
          have HL := Lib.hid (tout_len zs many start j)
          have hs1 := hs.keep (fun p hp => hbel.cell (p := p) (by omega))
          have HN1 := Lib.hid n1
          have HN0 := Lib.hid n0
          clear n0 n1
          go_wp2
          go_loop [12, 13] (fun nx i => ∃ k : Nat, k ≤ zs.length ∧ i = .int .i64 k ∧ nx = .int .i64 (start + js - pend zs many k) ∧ Hid (pend zs many k ≤ start + js)) (fun _ i => zs.length - (intOf i).toNat)
          case atStart => exact ⟨0, Nat.zero_le _, rfl, by rw [pend_zero, HW.out]; simp, by unfold Hid; rw [pend_zero]; omega⟩
          case round =>
            obtain ⟨k, hk, rfl, rfl, hn⟩ := hrel
            have hlt : k < zs.length := by
              by_cases h : k < zs.length
              · exact h
              · exfalso
                have e : k = zs.length := by omega
                subst e
                have h1 := hn.out
                have h2 := HN1.out
                rw [HPN.out] at h2
                unfold pend at h1
                rw [List.take_of_length_le (Nat.le_refl _)] at h1
                omega
            obtain ⟨ad, rfl, _, hc⟩ := hs1.int hlt
            have HP := Lib.hid (pend_succ zs many k hlt)
            obtain ⟨b1, b2⟩ := wok_mul zs hw.out many hm1 hm2 k hlt
            obtain ⟨b3, b4⟩ := pend_bounds zs hw.out many hm1 hm2 k hk hl
            have b5 : pend zs many k ≤ 167772160000 := by omega
            have b6 := hn.out
            clear b4
            have Z1 : 0 ≤ zs[k] ∧ zs[k] ≤ 1048576 := hw.out _ (List.getElem_mem hlt)
            obtain ⟨z1, z2⟩ := Z1
            by_cases hin : pend zs many (k + 1) ≤ start + js
            · have d1 : zs[k] * many ≤ start + js - pend zs many k := by rw [HP.out] at hin; omega
              have HI := Lib.hid hin
              clear hin
              generalize hz : zs[k] = z at *
              clear hz
              go_wp2
              go_round
              case rel => exact ⟨k + 1, by omega, by go_num, by rw [HP.out]; go_num, HI.out⟩
              case measure => simp [intOf]; omega
            · have d1 : start + js - pend zs many k < zs[k] * many := by rw [HP.out] at hin; omega
              have HQ : Hid (loc zs many (pnext zs start j) = k) := loc_at zs many (by omega) k _ hw.out hlt (by rw [HPN.out]; exact hn.out) (by rw [HPN.out]; omega)
              clear hin
              generalize hz : zs[k] = z at *
              clear hz
              go_wp2_with (first
                | (at_builtin; go_must (refine wpList_push _ rfl _ _ 24 3 8 elem_ints rfl w.heap.size _ _ rfl (Own.alloc' hown _) (.int .i64 k) ⟨wr.heap.size, 0, none⟩ 1 rfl (cell_new1 _ _ _) rfl (by rw [HL.out]; omega) (by rw [HL.out]; unfold maxLen; omega) (by have := hbel.size; first | omega | (simp; done) | (simp; omega)) ?_); intro v3 w3 hown3 hbel3))
              go_roundw
              case rel => exact ⟨j + 1, by go_num, by rw [HT.out, HQ.out]; exact hown3, (hbel.alloc hbel.size _).trans (hbel3.mono (by have := hbel.size; first | omega | (simp; done) | (simp; omega))), by unfold Hid; omega⟩
              case measure => simp [intOf]; omega
        · have hjm : j = many.toNat := by omega
          subst hjm
          have hbel' := Lib.hid hbel
          have hown' := Lib.hid hown
          clear hbel hown hj
          go_wp2
          go_ret2
          exact ⟨take_is zs many start _ hf.out hown'.out.res, hbel'.out⟩
    · have hf : Hid (ptake zs many start = ([], 2)) := by
        unfold Hid ptake
        rw [if_pos H0.out, if_neg hk]
      have hsum : zs.sum ≤ 419430400 := by have := (wok_sum zs hps.out.2.2.2.1).2; have := hps.out.1; omega
      generalize (psum zs many).2 = e2 at *
      generalize hS : zs.sum = S at *
      clear hS
      by_cases hk1 : start < 0
      · clear hk
        go_wp2
        go_ret2
        exact ⟨take_is zs many start _ hf.out (Own.none_ (w := w) (base := w.heap.size) (e := 3)).res, Below.refl _ _⟩
      · have hk2 : S ≤ start := by omega
        clear hk
        go_wp2
        go_ret2
        exact ⟨take_is zs many start _ hf.out (Own.none_ (w := w) (base := w.heap.size) (e := 3)).res, Below.refl _ _⟩
  · have g0 : ((psum zs many).2 != 0) = true := by simpa using h0
    have hf : Hid (ptake zs many start = ([], (psum zs many).2)) := by
      unfold Hid ptake
      rw [if_neg h0]
    clear h0
    generalize (psum zs many).2 = e2, (psum zs many).1 = e1 at *
    go_wp2
    go_ret2
    exact ⟨take_is zs many start _ hf.out (Own.none_ (w := w) (base := w.heap.size) (e := 3)).res, Below.refl _ _⟩
end Go.Proofs.Ytjbpndgknadpjaa
