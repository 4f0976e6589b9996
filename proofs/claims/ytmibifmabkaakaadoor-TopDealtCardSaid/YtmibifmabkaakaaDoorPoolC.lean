/- pool.Add walked, where nothing is wrong. No condition. -/
import Derived.Test.YtmibifmabkaakaaDoorPoolB
namespace Go.Proofs.YtmibifmabkaakaaDoor
open Go.ChangeShapes Go.WideShapes Go.ChangeAt Go.RowKit

theorem padde_zero {r k d : Int} {n : Nat} (h : padde r k d n = 0) : fright r k n ∧ k ≠ 1099511627776 ∧ 0 ≤ d ∧ d ≤ k := by
  unfold padde at h
  by_cases h0 : fright r k n
  · rw [if_pos h0] at h
    by_cases h1 : k = 1099511627776
    · rw [if_pos h1] at h; simp at h
    · rw [if_neg h1] at h
      by_cases h2 : d < 0 ∨ k < d
      · rw [if_pos h2] at h; simp at h
      · exact ⟨h0, h1, by omega, by omega⟩
  · rw [if_neg h0] at h; simp at h

theorem own_is {w : World} {base : Nat} {A : Option Addr} {n c : Nat} {l : List Int} {r k : Int} (h : Own w base 3 (.slice A n c) (l.map (.int .i64))) (hn : n = l.length) : PoolIs w (PoolV r k (.slice A n c)) (r, k, l) := by
  subst hn
  exact ⟨_, _, rfl, h.tseg⟩

set_option maxRecDepth 20000 in
set_option maxHeartbeats 2000000 in
theorem add_good (A : Option Addr) (zs : List Int) (r k x d : Int) (c : Nat) (w : World) (hs : Seg w w.heap.size A (zs.map (.int .i64))) (h : padde r k d zs.length = 0) :
    Calls Tryd.prog 75 #[PoolV r k (.slice A zs.length c), .int .i64 x, .int .i64 d] w fun e w' => (∃ v, e = .returned (.tuple #[v, .int .i64 (padd r k zs x d).2]) ∧ PoolIs w' v (padd r k zs x d).1) ∧ Below w.heap.size w w' := by
  obtain ⟨h0, h1, d0, d1⟩ := padde_zero h
  have hf : Hid (padd r k zs x d = ((r, k + 1, paddl r x d zs), 0)) := padd_good h rfl
  have hend : ∀ (w1 w2 : World), Below w.heap.size w w1 → w1.grownBy w2 (some (w.heap.size + 1)) → Below w.heap.size w w2 := fun w1 w2 h1 h2 => h1.grown h2 h1.size (by simp)
  have HEND := Lib.hid hend
  clear hend
  have hr : decide (fright r k zs.length) = true := decide_eq_true h0
  have HS := Lib.hid hs
  obtain ⟨g1, g2, g3, g4, g5⟩ := h0
  have hk : (k == 1099511627776) = false := by simpa using h1
  have hl : zs.length ≤ 400 := by omega
  have G5 := Lib.hid g5
  clear hs g5 h1 h
  go_enter Tryd.func75, Tryd.ntmps75
  go_wp2_with fail
  refine (right_any A r k _ c _).mono ?_
  rintro e w1 ⟨rfl, hb⟩
  rw [hr]
  obtain ⟨B0, B1, hb⟩ := two_blocks (by simpa using hb)
  have HB0 := Lib.hid B0
  have HB1 := Lib.hid B1
  have HB := Lib.hid hb
  have c0 := B0.cell 0 (u := .int .i64 r) rfl
  have c1 := B0.cell 1 (u := .int .i64 k) rfl
  have c2 := B0.cell 2 (u := .slice A zs.length c) rfl
  clear B0 B1 hb hr
  go_wp2_with fail
  refine (clone_ints A zs c _ w1 (HS.out.below HB.out) (by omega)).mono ?_
  rintro e w2 ⟨⟨v, rfl, hown⟩, hb⟩
  obtain ⟨A2, n2, hv, hn2, _⟩ := hown.res
  rw [List.length_map] at hv hn2
  subst hv
  have HOWN := Lib.hid hown
  have HN2 := Lib.hid hn2
  have HCB := Lib.hid hb
  have HLT := Lib.hid HB0.out.lt
  have HLT1 := Lib.hid HB1.out.lt
  have B0 := HB0.out.below hb HB0.out.lt
  have B1 := HB1.out.below hb HB1.out.lt
  have KB0 := Lib.hid B0
  have KB1 := Lib.hid B1
  clear c0 c1 c2
  have c0 := B0.cell 0 (u := .int .i64 r) rfl
  have c1 := B0.cell 1 (u := .int .i64 k) rfl
  have c2 := B0.cell 2 (u := .slice A zs.length c) rfl
  have f1 := B0.frozen 1
  have f2 := B0.frozen 2
  clear B0 B1 hb hown hn2
  by_cases hlt : k < r
  · have hlr : (zs.length : Int) < r := by have := G5.out; omega
    have hL : Hid (paddl r x d zs = zs ++ [x]) := if_pos hlr
    have q1 := (cell_new1 ((w2.setCell ⟨w.heap.size, 2, none⟩ (.slice A2 zs.length n2)).setCell ⟨w.heap.size, 1, none⟩ (.int .i64 (k + 1))) (.int .i64 x) 3)
    simp only [World.size_setCell] at q1
    have Q1 := Lib.hid q1
    clear q1
    have Q2 := Lib.hid (Own.alloc' ((HOWN.out.far HLT.out (p := ⟨w.heap.size, 2, none⟩) (.slice A2 zs.length n2)).far HLT.out (p := ⟨w.heap.size, 1, none⟩) (.int .i64 (k + 1))) (.cells #[.int .i64 x] 3))
    have Q3 : (zs.map (Value.int .i64)).length + 1 ≤ 401 := by rw [List.length_map]; omega
    have Q4 : w1.heap.size ≤ w2.heap.size := HCB.out.size
    go_wp2_with (first
      | (at_builtin; go_must (refine wpList_push _ rfl _ _ 23 3 8 elem_ints rfl w1.heap.size _ (zs.map (.int .i64)) rfl Q2.out (.int .i64 x) ⟨w2.heap.size, 0, none⟩ 1 rfl Q1.out rfl (by omega) (by unfold maxLen; omega) (by simp; omega) ?_); intro v3 w3 hown3 hbel3; obtain ⟨A3, n3, e3, _, s3⟩ := hown3.res; rw [List.length_append, List.length_map, List.length_singleton] at e3; subst e3; have HO3 := Lib.hid hown3; have HE3 := Lib.hid hbel3; have KC0 := Lib.hid ((((KB0.out.set_ 2 (.slice A2 zs.length n2)).set_ 1 (.int .i64 (k + 1))).alloc (.cells #[.int .i64 x] 3)).below hbel3 HLT.out); have KC1 := Lib.hid (((((KB1.out.far (p := ⟨w.heap.size, 2, none⟩) (Nat.succ_ne_self _) (.slice A2 zs.length n2)).far (p := ⟨w.heap.size, 1, none⟩) (Nat.succ_ne_self _) (.int .i64 (k + 1))).alloc (.cells #[.int .i64 x] 3)).below hbel3 HLT1.out).far (p := ⟨w.heap.size, 2, none⟩) (Nat.succ_ne_self _) (.slice A3 (zs.length + 1) n3)); have f2' := KC0.out.frozen 2; have c2' := KC0.out.cell 2 (u := .slice A2 zs.length n2) rfl; clear hown3 hbel3; clear s3)
      | (refine wpList_load_blk rfl _ _ rfl w.heap.size rfl 113 (pcells r (k + 1) (.slice A3 (zs.length + 1) n3)) _ (KC0.out.set_ 2 (.slice A3 (zs.length + 1) n3)) Tryd.underlying113 rfl (by kernel_rfl) ?_)
      | (refine wpList_store_blk rfl _ _ _ rfl (w.heap.size + 1) (pcells r (k + 1) (.slice A3 (zs.length + 1) n3)) rfl rfl _ _ KC1.out (by kernel_rfl) rfl (pcells_one _ _ _ _ _) ?_; intro w4 hb4 hg4 hs4; have HS4 := Lib.hid hs4; have HB4 := Lib.hid hb4; have HG4 := Lib.hid hg4; clear hs4 hb4 hg4)
      | fail)
    have HO5 : Hid (Own w4 w1.heap.size 3 (.slice A3 (zs.length + 1) n3) ((zs ++ [x]).map (.int .i64))) := by
      unfold Hid
      rw [List.map_append]
      exact (HO3.out.far (p := ⟨w.heap.size, 2, none⟩) HLT.out _).grown HG4.out HLT1.out
    have HE5 : Hid (Below w.heap.size w w4) := by
      have h1 := HLT.out
      have h2 := HLT1.out
      have h3 := HCB.out.size
      have h4 := ((((HB.out.trans (HCB.out.mono (by omega))).setCell (p := ⟨w.heap.size, 2, none⟩) (Nat.le_refl _) (.slice A2 zs.length n2)).setCell (p := ⟨w.heap.size, 1, none⟩) (Nat.le_refl _) (.int .i64 (k + 1))).alloc (by simp; omega) (.cells #[.int .i64 x] 3)).trans (HE3.out.mono (by omega))
      exact HEND.out _ _ (h4.setCell (p := ⟨w.heap.size, 2, none⟩) (Nat.le_refl _) _) HG4.out
    refine bodyPost_ret (v := .tuple #[PoolV r (k + 1) (.slice A3 (zs.length + 1) n3), .int .i64 0]) (results_ct (a := 7) Tryd.results75 _ rfl HB4.out Tryd.underlying113 rfl (by kernel_rfl)) rfl ⟨pool_is (hf.out.trans (by rw [hL.out])) (own_is HO5.out (by simp)), HE5.out⟩
  · have hlr : ¬ (zs.length : Int) < r := by have := G5.out; omega
    have hlr' : r ≤ (zs.length : Int) := by omega
    by_cases hdr : d < r
    · have hL : Hid (paddl r x d zs = zs.set d.toNat x) := by unfold Hid paddl; rw [if_neg hlr, if_pos hdr]
      have hdl : d < (zs.length : Int) := by omega
      obtain ⟨m, rfl⟩ : ∃ m : Nat, d = m := ⟨d.toNat, by omega⟩
      have hm : m < zs.length := by omega
      obtain ⟨g, rfl, hg⟩ := HOWN.out.at_ (by omega)
      have hc3 : w2.cell? ⟨g, m, none⟩ = some (.int .i64 zs[m]) := HOWN.out.cell (by simp [hm])
      have hf3 : w2.frozen? ⟨g, m, none⟩ = false := HOWN.out.frozen m
      have hne : ¬ g = w.heap.size := by have := HLT.out; omega
      have HG := Lib.hid hg
      clear hg
      generalize zs[m] = z at *
      have KC1 := Lib.hid ((((KB1.out.far (p := ⟨w.heap.size, 2, none⟩) (Nat.succ_ne_self _) (.slice (some ⟨g, 0, none⟩) zs.length n2)).far (p := ⟨w.heap.size, 1, none⟩) (Nat.succ_ne_self _) (.int .i64 (k + 1))).far (p := ⟨g, m, none⟩) (by have := HLT1.out; have := HG.out; first | omega | (simp; done) | (simp; omega)) (.int .i64 x)))
      go_wp2_with (first
        | (refine wpList_store_blk rfl _ _ _ rfl (w.heap.size + 1) (pcells r (k + 1) (.slice (some ⟨g, 0, none⟩) zs.length n2)) rfl rfl 113 (pcells 0 0 (.slice none 0 0)) ?_ (by kernel_rfl) rfl (pcells_one _ _ _ _ _) ?_; exact KC1.out; intro w4 hb4 hg4 hs4; have HS4 := Lib.hid hs4; have HB4 := Lib.hid hb4; have HG4 := Lib.hid hg4; clear hs4 hb4 hg4)
        | fail)
      have HO5 : Hid (Own w4 w1.heap.size 3 (.slice (some ⟨g, 0, none⟩) zs.length n2) ((zs.set m x).map (.int .i64))) := by
        unfold Hid
        rw [List.map_set]
        exact (((HOWN.out.far (p := ⟨w.heap.size, 2, none⟩) HLT.out _).far (p := ⟨w.heap.size, 1, none⟩) HLT.out _).set m _).grown HG4.out HLT1.out
      have HE5 : Hid (Below w.heap.size w w4) := by
        have h1 := HLT.out
        have h2 := HLT1.out
        have h3 := HCB.out.size
        have h5 := HG.out
        have h4 := ((((HB.out.trans (HCB.out.mono (by omega))).setCell (p := ⟨w.heap.size, 2, none⟩) (Nat.le_refl _) (.slice (some ⟨g, 0, none⟩) zs.length n2)).setCell (p := ⟨w.heap.size, 1, none⟩) (Nat.le_refl _) (.int .i64 (k + 1))).setCell (p := ⟨g, m, none⟩) (by first | omega | (simp; done) | (simp; omega)) (.int .i64 x))
        exact HEND.out _ _ h4 HG4.out
      refine bodyPost_ret (v := .tuple #[PoolV r (k + 1) (.slice (some ⟨g, 0, none⟩) zs.length n2), .int .i64 0]) (results_ct (a := 7) Tryd.results75 _ rfl HB4.out Tryd.underlying113 rfl (by kernel_rfl)) rfl ⟨pool_is (hf.out.trans (by rw [hL.out])) (own_is HO5.out (by simp)), HE5.out⟩
    · have hL : Hid (paddl r x d zs = zs) := by unfold Hid paddl; rw [if_neg hlr, if_neg hdr]
      have KC1 := Lib.hid (((KB1.out.far (p := ⟨w.heap.size, 2, none⟩) (Nat.succ_ne_self _) (.slice A2 zs.length n2)).far (p := ⟨w.heap.size, 1, none⟩) (Nat.succ_ne_self _) (.int .i64 (k + 1))))
      go_wp2_with (first
        | (refine wpList_store_blk rfl _ _ _ rfl (w.heap.size + 1) (pcells r (k + 1) (.slice A2 zs.length n2)) rfl rfl 113 (pcells 0 0 (.slice none 0 0)) ?_ (by kernel_rfl) rfl (pcells_one _ _ _ _ _) ?_; exact KC1.out; intro w4 hb4 hg4 hs4; have HS4 := Lib.hid hs4; have HB4 := Lib.hid hb4; have HG4 := Lib.hid hg4; clear hs4 hb4 hg4)
        | fail)
      have HO5 : Hid (Own w4 w1.heap.size 3 (.slice A2 zs.length n2) (zs.map (.int .i64))) := by
        unfold Hid
        exact ((HOWN.out.far (p := ⟨w.heap.size, 2, none⟩) HLT.out _).far (p := ⟨w.heap.size, 1, none⟩) HLT.out _).grown HG4.out HLT1.out
      have HE5 : Hid (Below w.heap.size w w4) := by
        have h1 := HLT.out
        have h2 := HLT1.out
        have h3 := HCB.out.size
        have h4 := (((HB.out.trans (HCB.out.mono (by omega))).setCell (p := ⟨w.heap.size, 2, none⟩) (Nat.le_refl _) (.slice A2 zs.length n2)).setCell (p := ⟨w.heap.size, 1, none⟩) (Nat.le_refl _) (.int .i64 (k + 1)))
        exact HEND.out _ _ h4 HG4.out
      refine bodyPost_ret (v := .tuple #[PoolV r (k + 1) (.slice A2 zs.length n2), .int .i64 0]) (results_ct (a := 7) Tryd.results75 _ rfl HB4.out Tryd.underlying113 rfl (by kernel_rfl)) rfl ⟨pool_is (hf.out.trans (by rw [hL.out])) (own_is HO5.out rfl), HE5.out⟩
end Go.Proofs.YtmibifmabkaakaaDoor
