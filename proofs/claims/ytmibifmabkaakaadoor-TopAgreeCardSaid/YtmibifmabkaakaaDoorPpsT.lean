/- Take walked. No condition. -/
import Derived.Test.YtmibifmabkaakaaDoorPpsS
namespace Go.Proofs.YtmibifmabkaakaaDoor
open Go.ChangeShapes Go.WideShapes Go.ChangeAt Go.RowKit

def ptake (zs : List Int) (many start : Int) : List Int × Int :=
  if (psum zs many).2 = 0 then (if 0 ≤ start ∧ start < zs.sum then (ppts zs many start many.toNat, 0) else ([], 2)) else ([], (psum zs many).2)
theorem psum_zero (zs : List Int) (many : Int) (h : (psum zs many).2 = 0) : zs.length ≤ 400 ∧ 1 ≤ many ∧ many ≤ 400 ∧ wok zs ∧ (psum zs many).1 = zs.sum ∧ 0 < zs.sum := by
  unfold psum at h ⊢
  by_cases hc : zs.length ≤ 400 ∧ 1 ≤ many ∧ many ≤ 400 ∧ wok zs
  · rw [if_pos hc] at h ⊢
    by_cases h0 : zs.sum = 0
    · rw [if_pos h0] at h; simp at h
    · rw [if_neg h0]
      have := (wok_sum zs hc.2.2.2).1
      exact ⟨hc.1, hc.2.1, hc.2.2.1, hc.2.2.2, rfl, by omega⟩
  · rw [if_neg hc] at h; simp at h
theorem pnext_nonneg (zs : List Int) (start : Int) (j : Nat) (h : 0 ≤ start) (h0 : 0 < zs.sum) : 0 ≤ pnext zs start j := by
  unfold pnext
  have := Int.mul_nonneg (a := (j : Int)) (b := zs.sum) (by omega) (by omega)
  omega
abbrev tout (zs : List Int) (many start : Int) (j : Nat) : List Value := (ppts zs many start j).map (.int .i64)
theorem tout_succ (zs : List Int) (many start : Int) (j : Nat) : tout zs many start (j + 1) = tout zs many start j ++ [.int .i64 (loc zs many (pnext zs start j))] := by
  unfold tout; rw [ppts_succ, List.map_append]; rfl
theorem tout_len (zs : List Int) (many start : Int) (j : Nat) : (tout zs many start j).length = j := by simp [tout, ppts_len]
theorem take_is (zs : List Int) (many start : Int) (p : List Int × Int) (h : ptake zs many start = p) {w : World} {B : Nat} {v : Value} (hv : Own w B 3 v (p.1.map (.int .i64))) :
    ∃ u, Ending.returned (.tuple #[v, .int .i64 p.2]) = .returned (.tuple #[u, .int .i64 (ptake zs many start).2]) ∧ Own w B 3 u ((ptake zs many start).1.map (.int .i64)) := by
  subst h; exact ⟨v, rfl, hv⟩

set_option maxRecDepth 20000 in
set_option maxHeartbeats 2000000 in
theorem take_own (A : Option Addr) (zs : List Int) (c B : Nat) (many start : Int) (w : World) (hs : Seg w B A (zs.map (.int .i64))) (hB : B ≤ w.heap.size) :
    Calls Tryd.prog 26 #[.slice A zs.length c, .int .i64 many, .int .i64 start] w fun e w' => (∃ v, e = .returned (.tuple #[v, .int .i64 (ptake zs many start).2]) ∧ Own w' w.heap.size 3 v ((ptake zs many start).1.map (.int .i64))) ∧ Below w.heap.size w w' := by
  go_enter Tryd.func26, Tryd.ntmps26
  go_wp2_with fail
  refine (psum_any A zs c B many w hs).mono ?_
  rintro e w1 ⟨rfl, rfl⟩
  by_cases h0 : (psum zs many).2 = 0
  · have g0 : ((psum zs many).2 != 0) = false := by simp [h0]
    have hps := Lib.hid (psum_zero zs many h0)
    have H0 := Lib.hid h0
    clear h0
    have e1 := hps.out.2.2.2.2.1
    rw [e1]
    clear e1
    by_cases hk : 0 ≤ start ∧ start < zs.sum
    · obtain ⟨hk1, hk2⟩ := hk
      have hl := hps.out.1
      have hm1 := hps.out.2.1
      have hm2 := hps.out.2.2.1
      have hw := Lib.hid hps.out.2.2.2.1
      have hsum : zs.sum ≤ 419430400 := by have := (wok_sum zs hw.out).2; omega
      have hf : Hid (ptake zs many start = (ppts zs many start many.toNat, 0)) := by
        unfold Hid ptake
        rw [if_pos H0.out, if_pos ⟨hk1, hk2⟩]
      generalize (psum zs many).2 = e2 at *
      go_wp2
      go_loopw [10, 11, 12, 36] (fun o en nx i wr => ∃ k j : Nat, k ≤ zs.length ∧ i = .int .i64 k ∧ en = .int .i64 (pend zs many k) ∧ nx = .int .i64 (pnext zs start j) ∧ Own wr w.heap.size 3 o (tout zs many start j) ∧ Below w.heap.size w wr ∧ Hid ((j : Int) ≤ many ∧ pend zs many k ≤ pnext zs start j)) (fun _ _ _ i _ => zs.length - (intOf i).toNat)
      case atStart => exact ⟨0, 0, Nat.zero_le _, rfl, by rw [pend_zero], by rw [pnext_zero], Own.none_, Below.refl _ _, by unfold Hid; rw [pend_zero, pnext_zero]; exact ⟨by omega, by omega⟩⟩
      case round =>
        obtain ⟨k, j, hk, rfl, rfl, rfl, hown, hbel, hj⟩ := hrel
        by_cases hlt : k < zs.length
        · have hs1 := hs.keep (fun p hp => hbel.cell (p := p) (by omega))
          obtain ⟨ad, rfl, _, hc⟩ := hs1.int hlt
          have HP := Lib.hid (pend_succ zs many k hlt)
          obtain ⟨b1, b2⟩ := wok_mul zs hw.out many hm1 hm2 k hlt
          obtain ⟨b3, b4⟩ := pend_bounds zs hw.out many hm1 hm2 k hk hl
          have b5 : pend zs many k ≤ 167772160000 := by omega
          clear b4
          have Z1 : 0 ≤ zs[k] ∧ zs[k] ≤ 1048576 := hw.out _ (List.getElem_mem hlt)
          obtain ⟨z1, z2⟩ := Z1
          have HE := Lib.hid (pend_mono zs hw.out many hm1 hm2 (k + 1) (by omega))
          generalize hz : zs[k] = z at *
          clear hz
          go_wp2
          go_loopw [10, 12] (fun o nx wr2 => ∃ j : Nat, nx = .int .i64 (pnext zs start j) ∧ Own wr2 w.heap.size 3 o (tout zs many start j) ∧ Below w.heap.size w wr2 ∧ Hid ((j : Int) ≤ many ∧ pend zs many k ≤ pnext zs start j)) (fun _ nx _ => (pend zs many k + z * many - intOf nx).toNat)
          case atStart => exact ⟨j, rfl, hown, hbel, hj⟩
          case round =>
            clear hown hbel hj hs1 hc
            obtain ⟨j, rfl, hown, hbel, hj⟩ := hrel
            have HN := Lib.hid (pnext_succ zs start j)
            have n0 := pnext_nonneg zs start j hk1 hps.out.2.2.2.2.2
            have HT := Lib.hid (tout_succ zs many start j)
            have HL := Lib.hid (tout_len zs many start j)
            by_cases hin : pnext zs start j < pend zs many k + z * many
            · have hjm : (j : Int) < many := by
                have := pnext_lt zs start many.toNat j hk1 hps.out.2.2.2.2.2 (by have := HE.out; have := HP.out; rw [Int.toNat_of_nonneg (by omega)]; omega)
                omega
              have HQ : Hid (loc zs many (pnext zs start j) = k) := loc_at zs many (by omega) k _ hw.out hlt hj.out.2 (by rw [HP.out]; exact hin)
              have HM : Hid (pend zs many k ≤ pnext zs start j) := hj.out.2
              generalize pnext zs start j = nx at *
              go_wp2_with (first
                | (at_builtin; go_must (refine wpList_push _ rfl _ _ 23 3 8 elem_ints rfl w.heap.size _ _ rfl (Own.alloc' hown _) (.int .i64 k) ⟨wr.heap.size, 0, none⟩ 1 rfl (cell_new1 _ _ _) rfl (by rw [HL.out]; omega) (by rw [HL.out]; unfold maxLen; omega) (by have := hbel.size; first | omega | (simp; done) | (simp; omega)) ?_); intro v3 w3 hown3 hbel3))
              go_roundw
              case rel => exact ⟨j + 1, by rw [HN.out], by rw [HT.out, HQ.out]; exact hown3, (hbel.alloc hbel.size _).trans (hbel3.mono (by have := hbel.size; first | omega | (simp; done) | (simp; omega))), by have := HM.out; have := HN.out; unfold Hid; omega⟩
              case measure => simp [intOf]; have := hps.out.2.2.2.2.2; omega
            · go_wp2
              go_roundw
              case rel => exact ⟨k + 1, j, by omega, by go_num, by rw [HP.out], rfl, hown, hbel, by unfold Hid; rw [HP.out]; exact ⟨hj.out.1, by omega⟩⟩
              case measure => simp [intOf]; omega
        · have hkl : k = zs.length := by omega
          subst hkl
          have hjm : j = many.toNat := by
            have h1 := hj.out.1
            have h2 := hj.out.2
            by_cases hjl : j < many.toNat
            · have := pnext_ge zs start many.toNat j hk1 hk2 hjl
              rw [Int.toNat_of_nonneg (by omega)] at this
              unfold pend at h2
              rw [List.take_of_length_le (Nat.le_refl _)] at h2
              omega
            · omega
          subst hjm
          have hbel' := Lib.hid hbel
          have hown' := Lib.hid hown
          clear hbel hown hj
          go_wp2
          go_ret2
          exact ⟨take_is zs many start _ hf.out hown'.out, hbel'.out⟩
    · have hf : Hid (ptake zs many start = ([], 2)) := by
        unfold Hid ptake
        rw [if_pos H0.out, if_neg hk]
      have hsum : zs.sum ≤ 419430400 := by have := (wok_sum zs hps.out.2.2.2.1).2; have := hps.out.1; omega
      generalize (psum zs many).2 = e2 at *
      generalize hS : zs.sum = S at *
      clear hS
      by_cases hk1 : start < 0
      · clear hk
        go_wp2
        go_ret2
        exact ⟨take_is zs many start _ hf.out (Own.none_ (w := w) (base := w.heap.size) (e := 3)), Below.refl _ _⟩
      · have hk2 : S ≤ start := by omega
        clear hk
        go_wp2
        go_ret2
        exact ⟨take_is zs many start _ hf.out (Own.none_ (w := w) (base := w.heap.size) (e := 3)), Below.refl _ _⟩
  · have g0 : ((psum zs many).2 != 0) = true := by simpa using h0
    have hf : Hid (ptake zs many start = ([], (psum zs many).2)) := by
      unfold Hid ptake
      rw [if_neg h0]
    clear h0
    generalize (psum zs many).2 = e2, (psum zs many).1 = e1 at *
    go_wp2
    go_ret2
    exact ⟨take_is zs many start _ hf.out (Own.none_ (w := w) (base := w.heap.size) (e := 3)), Below.refl _ _⟩
theorem take_any (A : Option Addr) (zs : List Int) (c B : Nat) (many start : Int) (w : World) (hs : Seg w B A (zs.map (.int .i64))) (hB : B ≤ w.heap.size) :
    Calls Tryd.prog 26 #[.slice A zs.length c, .int .i64 many, .int .i64 start] w fun e w' => (∃ v, e = .returned (.tuple #[v, .int .i64 (ptake zs many start).2]) ∧ IsSlice w' v ((ptake zs many start).1.map (.int .i64))) ∧ Below w.heap.size w w' :=
  (take_own A zs c B many start w hs hB).mono fun _ _ ⟨⟨v, h1, h2⟩, h3⟩ => ⟨⟨v, h1, h2.res⟩, h3⟩
end Go.Proofs.YtmibifmabkaakaaDoor
