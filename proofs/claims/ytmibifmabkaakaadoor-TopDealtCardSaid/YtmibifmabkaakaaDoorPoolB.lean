/- pool.Add walked. No condition. -/
import Derived.Test.YtmibifmabkaakaaDoorPoolA
namespace Go.Proofs.YtmibifmabkaakaaDoor
open Go.ChangeShapes Go.WideShapes Go.ChangeAt Go.RowKit

/-- What is wrong with one that comes to a pool. -/
def padde (r k d : Int) (n : Nat) : Int := if fright r k n then (if k = 1099511627776 then 4 else if d < 0 ∨ k < d then 2 else 0) else 1
def paddl (r x d : Int) (zs : List Int) : List Int := if (zs.length : Int) < r then zs ++ [x] else if d < r then zs.set d.toNat x else zs
def padd (r k : Int) (zs : List Int) (x d : Int) : (Int × Int × List Int) × Int :=
  if padde r k d zs.length = 0 then ((r, k + 1, paddl r x d zs), 0) else ((0, 0, []), padde r k d zs.length)
theorem padd_bad {r k x d e : Int} {zs : List Int} (h : padde r k d zs.length = e) (he : e ≠ 0) : padd r k zs x d = ((0, 0, []), e) := by
  unfold padd; rw [h, if_neg he]
theorem padd_good {r k x d : Int} {zs l : List Int} (h : padde r k d zs.length = 0) (hl : paddl r x d zs = l) : padd r k zs x d = ((r, k + 1, l), 0) := by
  unfold padd; rw [h, if_pos rfl, hl]

section
variable {w w1 : World} {r k : Int} {v : Value}
theorem two_blocks (hb : Below (w.heap.size + 2) ((w.alloc (.cells (pcells r k v) 113)).alloc (.cells (pcells 0 0 (.slice none 0 0)) 113)) w1) :
    Blk w1 w.heap.size 113 (pcells r k v) ∧ Blk w1 (w.heap.size + 1) 113 (pcells 0 0 (.slice none 0 0)) ∧ Below w.heap.size w w1 := by
  refine ⟨((Blk.new w _ _).alloc _).below hb (by omega), ?_, ?_⟩
  · have := (Blk.new (w.alloc (.cells (pcells r k v) 113)) 113 (pcells 0 0 (.slice none 0 0))).below hb (by simp)
    simpa using this
  · exact (((Below.refl _ _).alloc (Nat.le_refl _) _).alloc (by simp) _).trans (hb.mono (by omega))
end

set_option maxRecDepth 20000 in
set_option maxHeartbeats 2000000 in
theorem add_bad (A : Option Addr) (zs : List Int) (r k x d : Int) (c : Nat) (w : World) (h : padde r k d zs.length ≠ 0) :
    Calls Tryd.prog 75 #[PoolV r k (.slice A zs.length c), .int .i64 x, .int .i64 d] w fun e w' => (∃ v, e = .returned (.tuple #[v, .int .i64 (padd r k zs x d).2]) ∧ PoolIs w' v (padd r k zs x d).1) ∧ Below w.heap.size w w' := by
  have hf : Hid (padd r k zs x d = ((0, 0, []), padde r k d zs.length)) := padd_bad rfl h
  have hend : ∀ (w1 w2 : World), Below w.heap.size w w1 → w1.grownBy w2 (some (w.heap.size + 1)) → Below w.heap.size w w2 := fun w1 w2 h1 h2 => h1.grown h2 h1.size (by simp)
  have HEND := Lib.hid hend
  clear hend
  by_cases h0 : fright r k zs.length
  · have hr : decide (fright r k zs.length) = true := decide_eq_true h0
    have h1 := h0.2.2.1
    have h2 := h0.2.2.2.1
    by_cases h3 : k = 1099511627776
    · have he : Hid (padde r k d zs.length = 4) := by unfold Hid padde; rw [if_pos h0, if_pos h3]
      have hk : (k == 1099511627776) = true := by simp [h3]
      clear h h0 h3
      go_enter Tryd.func75, Tryd.ntmps75
      go_wp2_with fail
      refine (right_any A r k _ c _).mono ?_
      rintro e w1 ⟨rfl, hb⟩
      rw [hr]
      obtain ⟨B0, B1, hb⟩ := two_blocks (by simpa using hb)
      have HB0 := Lib.hid B0
      have HB1 := Lib.hid B1
      have HB := Lib.hid hb
      have c1 := B0.cell 1 (u := .int .i64 k) rfl
      clear B0 B1 hb hr
      go_wp2_with (first | (refine wpList_store_blk rfl _ _ _ rfl (w.heap.size + 1) (pcells 0 0 (.slice none 0 0)) rfl rfl _ _ HB1.out (by kernel_rfl) rfl (pcells_one _ _ _ _ _) ?_; intro w2 hb2 hg2 hs2; have HS2 := Lib.hid hs2; have HB2 := Lib.hid hb2; have HG2 := Lib.hid hg2; clear hs2 hb2 hg2) | fail)
      refine bodyPost_ret (v := .tuple #[PoolV 0 0 (.slice none 0 0), .int .i64 4]) (results_ct (a := 7) Tryd.results75 _ rfl HB2.out Tryd.underlying113 rfl (by kernel_rfl)) rfl ⟨pool_is (hf.out.trans (by rw [he.out])) (nil_is _ _ _), HEND.out _ _ HB.out HG2.out⟩
    · have he : Hid (padde r k d zs.length = 2) := by
        unfold Hid
        unfold padde at h ⊢
        rw [if_pos h0, if_neg h3] at h ⊢
        by_cases hh : d < 0 ∨ k < d
        · rw [if_pos hh]
        · rw [if_neg hh] at h; exact absurd rfl h
      have hk : (k == 1099511627776) = false := by simp [h3]
      have hd : Hid (d < 0 ∨ k < d) := by
        unfold Hid
        unfold padde at h
        rw [if_pos h0, if_neg h3] at h
        by_cases hh : d < 0 ∨ k < d
        · exact hh
        · rw [if_neg hh] at h; exact absurd rfl h
      clear h h0 h3
      by_cases hd0 : d < 0
      all_goals
        try have hd1 : k < d := by have := hd.out; omega
        go_enter Tryd.func75, Tryd.ntmps75
        go_wp2_with fail
        refine (right_any A r k _ c _).mono ?_
        rintro e w1 ⟨rfl, hb⟩
        rw [hr]
        obtain ⟨B0, B1, hb⟩ := two_blocks (by simpa using hb)
        have HB0 := Lib.hid B0
        have HB1 := Lib.hid B1
        have HB := Lib.hid hb
        have c1 := B0.cell 1 (u := .int .i64 k) rfl
        clear B0 B1 hb hr
        go_wp2_with (first | (refine wpList_store_blk rfl _ _ _ rfl (w.heap.size + 1) (pcells 0 0 (.slice none 0 0)) rfl rfl _ _ HB1.out (by kernel_rfl) rfl (pcells_one _ _ _ _ _) ?_; intro w2 hb2 hg2 hs2; have HS2 := Lib.hid hs2; have HB2 := Lib.hid hb2; have HG2 := Lib.hid hg2; clear hs2 hb2 hg2) | fail)
        refine bodyPost_ret (v := .tuple #[PoolV 0 0 (.slice none 0 0), .int .i64 2]) (results_ct (a := 7) Tryd.results75 _ rfl HB2.out Tryd.underlying113 rfl (by kernel_rfl)) rfl ⟨pool_is (hf.out.trans (by rw [he.out])) (nil_is _ _ _), HEND.out _ _ HB.out HG2.out⟩
  · have he : Hid (padde r k d zs.length = 1) := by unfold Hid padde; rw [if_neg h0]
    have hr : decide (fright r k zs.length) = false := decide_eq_false h0
    clear h h0
    go_enter Tryd.func75, Tryd.ntmps75
    go_wp2_with fail
    refine (right_any A r k _ c _).mono ?_
    rintro e w1 ⟨rfl, hb⟩
    rw [hr]
    obtain ⟨B0, B1, hb⟩ := two_blocks (by simpa using hb)
    have HB1 := Lib.hid B1
    have HB := Lib.hid hb
    clear B0 B1 hb hr
    go_wp2_with (first | (refine wpList_store_blk rfl _ _ _ rfl (w.heap.size + 1) (pcells 0 0 (.slice none 0 0)) rfl rfl _ _ HB1.out (by kernel_rfl) rfl (pcells_one _ _ _ _ _) ?_; intro w2 hb2 hg2 hs2; have HS2 := Lib.hid hs2; have HB2 := Lib.hid hb2; have HG2 := Lib.hid hg2; clear hs2 hb2 hg2) | fail)
    refine bodyPost_ret (v := .tuple #[PoolV 0 0 (.slice none 0 0), .int .i64 1]) (results_ct (a := 7) Tryd.results75 _ rfl HB2.out Tryd.underlying113 rfl (by kernel_rfl)) rfl ⟨pool_is (hf.out.trans (by rw [he.out])) (nil_is _ _ _), HEND.out _ _ HB.out HG2.out⟩
end Go.Proofs.YtmibifmabkaakaaDoor
