/- The reference's FAdd walked. No condition. -/
import Derived.Test.YtmibifmabkaakaaDoorPoolB
namespace Go.Proofs.YtmibifmabkaakaaDoor
open Go.ChangeShapes Go.WideShapes Go.ChangeAt Go.RowKit

set_option maxRecDepth 20000 in
set_option maxHeartbeats 2000000 in
theorem fadd_bad (A : Option Addr) (zs : List Int) (r k x d : Int) (c : Nat) (w : World) (h : padde r k d zs.length ≠ 0) :
    Calls Tryd.prog 77 #[PoolV r k (.slice A zs.length c), .int .i64 x, .int .i64 d] w fun e w' => (∃ v, e = .returned (.tuple #[v, .int .i64 (padd r k zs x d).2]) ∧ PoolIs w' v (padd r k zs x d).1) ∧ Below w.heap.size w w' := by
  have hf : Hid (padd r k zs x d = ((0, 0, []), padde r k d zs.length)) := padd_bad rfl h
  have hend : ∀ (w1 w2 : World), Below w.heap.size w w1 → w1.grownBy w2 (some (w.heap.size + 1)) → Below w.heap.size w w2 := fun w1 w2 h1 h2 => h1.grown h2 h1.size (by simp)
  have HEND := Lib.hid hend
  clear hend
  by_cases h0 : fright r k zs.length
  · have hr : decide (fright r k zs.length) = true := decide_eq_true h0
    have h1 := h0.2.2.1
    have h2 := h0.2.2.2.1
    by_cases h3 : k = 1099511627776
    · have he : Hid (padde r k d zs.length = 4) := by unfold Hid padde; rw [if_pos h0, if_pos h3]
      have hk : (1099511627776 : Int) ≤ k := by omega
      clear h h0 h3
      go_enter Tryd.func77, Tryd.ntmps77
      go_wp2_with fail
      refine (rright_any A r k _ c _).mono ?_
      rintro e w1 ⟨rfl, hb⟩
      rw [hr]
      obtain ⟨B0, B1, hb⟩ := two_blocks (by simpa using hb)
      have HB1 := Lib.hid B1
      have HB := Lib.hid hb
      have c1 := B0.cell 1 (u := .int .i64 k) rfl
      clear B0 B1 hb hr
      go_wp2_with (first | (refine wpList_store_blk rfl _ _ _ rfl (w.heap.size + 1) (pcells 0 0 (.slice none 0 0)) rfl rfl _ _ HB1.out (by kernel_rfl) rfl (pcells_one _ _ _ _ _) ?_; intro w2 hb2 hg2 hs2; have HS2 := Lib.hid hs2; have HB2 := Lib.hid hb2; have HG2 := Lib.hid hg2; clear hs2 hb2 hg2) | fail)
      refine bodyPost_ret (v := .tuple #[PoolV 0 0 (.slice none 0 0), .int .i64 4]) (results_ct (a := 7) Tryd.results77 _ rfl HB2.out Tryd.underlying113 rfl (by kernel_rfl)) rfl ⟨pool_is (hf.out.trans (by rw [he.out])) (nil_is _ _ _), HEND.out _ _ HB.out HG2.out⟩
    · have he : Hid (padde r k d zs.length = 2 ∧ (d < 0 ∨ k < d)) := by
        unfold Hid
        unfold padde at h ⊢
        rw [if_pos h0, if_neg h3] at h ⊢
        by_cases hh : d < 0 ∨ k < d
        · rw [if_pos hh]; exact ⟨rfl, hh⟩
        · rw [if_neg hh] at h; exact absurd rfl h
      have hk : k < 1099511627776 := by omega
      clear h h0 h3
      by_cases hd0 : d < 0
      all_goals
        try have hd1 : k < d := by have := he.out.2; omega
        go_enter Tryd.func77, Tryd.ntmps77
        go_wp2_with fail
        refine (rright_any A r k _ c _).mono ?_
        rintro e w1 ⟨rfl, hb⟩
        rw [hr]
        obtain ⟨B0, B1, hb⟩ := two_blocks (by simpa using hb)
        have HB1 := Lib.hid B1
        have HB := Lib.hid hb
        have c1 := B0.cell 1 (u := .int .i64 k) rfl
        clear B0 B1 hb hr
        go_wp2_with (first | (refine wpList_store_blk rfl _ _ _ rfl (w.heap.size + 1) (pcells 0 0 (.slice none 0 0)) rfl rfl _ _ HB1.out (by kernel_rfl) rfl (pcells_one _ _ _ _ _) ?_; intro w2 hb2 hg2 hs2; have HS2 := Lib.hid hs2; have HB2 := Lib.hid hb2; have HG2 := Lib.hid hg2; clear hs2 hb2 hg2) | fail)
        refine bodyPost_ret (v := .tuple #[PoolV 0 0 (.slice none 0 0), .int .i64 2]) (results_ct (a := 7) Tryd.results77 _ rfl HB2.out Tryd.underlying113 rfl (by kernel_rfl)) rfl ⟨pool_is (hf.out.trans (by rw [he.out.1])) (nil_is _ _ _), HEND.out _ _ HB.out HG2.out⟩
  · have he : Hid (padde r k d zs.length = 1) := by unfold Hid padde; rw [if_neg h0]
    have hr : decide (fright r k zs.length) = false := decide_eq_false h0
    clear h h0
    go_enter Tryd.func77, Tryd.ntmps77
    go_wp2_with fail
    refine (rright_any A r k _ c _).mono ?_
    rintro e w1 ⟨rfl, hb⟩
    rw [hr]
    obtain ⟨B0, B1, hb⟩ := two_blocks (by simpa using hb)
    have HB1 := Lib.hid B1
    have HB := Lib.hid hb
    clear B0 B1 hb hr
    go_wp2_with (first | (refine wpList_store_blk rfl _ _ _ rfl (w.heap.size + 1) (pcells 0 0 (.slice none 0 0)) rfl rfl _ _ HB1.out (by kernel_rfl) rfl (pcells_one _ _ _ _ _) ?_; intro w2 hb2 hg2 hs2; have HS2 := Lib.hid hs2; have HB2 := Lib.hid hb2; have HG2 := Lib.hid hg2; clear hs2 hb2 hg2) | fail)
    refine bodyPost_ret (v := .tuple #[PoolV 0 0 (.slice none 0 0), .int .i64 1]) (results_ct (a := 7) Tryd.results77 _ rfl HB2.out Tryd.underlying113 rfl (by kernel_rfl)) rfl ⟨pool_is (hf.out.trans (by rw [he.out])) (nil_is _ _ _), HEND.out _ _ HB.out HG2.out⟩
end Go.Proofs.YtmibifmabkaakaaDoor
