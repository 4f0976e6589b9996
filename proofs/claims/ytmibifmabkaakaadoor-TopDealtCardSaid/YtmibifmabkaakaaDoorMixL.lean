/- Words of the mixer and the reference's, and its bits, walked. No condition. -/
import Derived.Test.YtmibifmabkaakaaDoorMixW
import Derived.Test.YtmibifmabkaakaaDoorEqu64s
namespace Go.Proofs.YtmibifmabkaakaaDoor
open Go.ChangeShapes Go.WideShapes Go.ChangeAt Go.RowKit

abbrev Mx := BitVec 64 × BitVec 64 × BitVec 64 × BitVec 64
abbrev mcells (m : Mx) : Array Value := #[W64 m.1, W64 m.2.1, W64 m.2.2.1, W64 m.2.2.2]
theorem mcells_one (m : Mx) : (mcells m).all (·.oneCell') = true := by simp [mcells, Value.oneCell']
abbrev mlist (m : Mx) (j : Nat) : List Value := ((mwords m j).map wv).map (.int .u64)
theorem mlist_succ (m : Mx) (j : Nat) : mlist m (j + 1) = mlist m j ++ [W64 (mout (mat m j))] := by
  unfold mlist; rw [mwords_succ, List.map_append, List.map_append]; rfl
theorem mlist_len (m : Mx) (j : Nat) : (mlist m j).length = j := by simp [mlist, mwords_len]

set_option maxHeartbeats 2000000 in
theorem words_ok (m : Mx) (n : Nat) (w : World) (hn : n ≤ 10000) :
    Calls Tryd.prog 71 #[MV m, .int .i64 n] w fun e w' => (∃ v, e = .returned (.tuple #[v, MV (mat m n), .int .i64 0]) ∧ IsSlice w' v (mlist m n)) ∧ Below w.heap.size w w' := by
  go_enter Tryd.func71, Tryd.ntmps71
  go_wp2
  have hblk0 : Blk ((w.alloc (.cells (mcells m) 57)).alloc (.cells #[.int .u64 0, .int .u64 0, .int .u64 0, .int .u64 0] 57)) w.heap.size 57 (mcells m) := (Blk.new _ _ _).alloc _
  have hblk1 : Blk ((w.alloc (.cells (mcells m) 57)).alloc (.cells #[.int .u64 0, .int .u64 0, .int .u64 0, .int .u64 0] 57)) (w.heap.size + 1) 57 #[.int .u64 0, .int .u64 0, .int .u64 0, .int .u64 0] := by
    have := Blk.new (w.alloc (.cells (mcells m) 57)) 57 #[.int .u64 0, .int .u64 0, .int .u64 0, .int .u64 0]
    simpa using this
  have hbel0 : Below w.heap.size w ((w.alloc (.cells (mcells m) 57)).alloc (.cells #[.int .u64 0, .int .u64 0, .int .u64 0, .int .u64 0] 57)) := ((Below.refl _ _).alloc (Nat.le_refl _) _).alloc (by simp) _
  go_loopw [7, 17] (fun v i wr => ∃ j : Nat, j ≤ n ∧ i = .int .i64 j ∧ Own wr (w.heap.size + 2) 34 v (mlist m j) ∧ Blk wr w.heap.size 57 (mcells (mat m j)) ∧ Blk wr (w.heap.size + 1) 57 #[.int .u64 0, .int .u64 0, .int .u64 0, .int .u64 0] ∧ Below w.heap.size w wr) (fun _ i _ => n - (intOf i).toNat)
  case atStart => exact ⟨0, Nat.zero_le _, rfl, Own.none_, hblk0, hblk1, hbel0⟩
  case round =>
    clear hblk0 hblk1 hbel0
    obtain ⟨j, hj, rfl, hown, hb0, hb1, hbel⟩ := hrel
    have HL := Lib.hid (mlist_len m j)
    have HS := Lib.hid (mlist_succ m j)
    by_cases hlt : j < n
    · go_wp2_with (first | (refine wpList_load_blk rfl _ _ rfl w.heap.size rfl _ _ _ hb0 Tryd.underlying57 rfl (by kernel_rfl) ?_) | fail)
      refine (step_at (mat m j) _).mono ?_
      rintro e w1 ⟨rfl, hw1⟩
      have hsz := hw1.size
      have hlt0 := hb0.lt
      have hlt1 := hb1.lt
      have hb0' := hb0.below hw1 hlt0
      have hb1' := hb1.below hw1 hlt1
      have ho1 := hown.below hw1 (Nat.le_refl _)
      have hbel1 := hbel.trans (hw1.mono (by omega))
      clear hown hb0 hb1 hbel hw1
      go_wp2_with (first
        | (refine wpList_store_blk rfl _ _ _ rfl w.heap.size (mcells (mnext (mat m j))) rfl rfl _ _ hb0' (by kernel_rfl) rfl (mcells_one _) ?_; intro w2 hb2 hg2 hs2; have HS2 := Lib.hid hs2; clear hs2)
        | (at_builtin; go_must (refine wpList_push _ rfl _ _ 31 34 8 elem_u64s rfl (w.heap.size + 2) _ _ rfl ((ho1.grown hg2 (by omega)).alloc _) (W64 (mout (mat m j))) ⟨w2.heap.size, 0, none⟩ 1 rfl (cell_new1 _ _ _) rfl (by rw [HL.out]; omega) (by rw [HL.out]; unfold maxLen; omega) (by have := HS2.out; simp; omega) ?_); intro v3 w3 hown3 hbel3))
      go_roundw
      case rel =>
        refine ⟨j + 1, by omega, by go_num, ?_, ?_, ?_, ?_⟩
        · rw [HS.out]; exact hown3
        · exact (hb2.alloc _).below hbel3 (by omega)
        · exact ((hb1'.grown hg2 (by omega)).alloc _).below hbel3 (by omega)
        · exact (((hbel1.grown hg2 (by omega) (by simp)).alloc (by have := HS2.out; omega) _).trans (hbel3.mono (by omega)))
      case measure => simp [intOf]; omega
    · have hjn : j = n := by omega
      subst hjn
      have h0 := hb0.cell 0 (u := W64 (mat m j).1) rfl
      have h1 := hb0.cell 1 (u := W64 (mat m j).2.1) rfl
      have h2 := hb0.cell 2 (u := W64 (mat m j).2.2.1) rfl
      have h3 := hb0.cell 3 (u := W64 (mat m j).2.2.2) rfl
      have k0 := hb1.cell 0 (u := .int .u64 0) rfl
      have k1 := hb1.cell 1 (u := .int .u64 0) rfl
      have k2 := hb1.cell 2 (u := .int .u64 0) rfl
      have k3 := hb1.cell 3 (u := .int .u64 0) rfl
      have f0 := hb1.frozen 0
      have f1 := hb1.frozen 1
      have f2 := hb1.frozen 2
      have f3 := hb1.frozen 3
      have HB0 := Lib.hid hb0
      have HB1 := Lib.hid hb1
      have HO := Lib.hid hown
      have HB := Lib.hid hbel
      clear hb0 hb1 hown hbel
      go_wp2
      go_region
      clear h0 h1 h2 h3 k0 k1 k2 k3 f0 f1 f2 f3
      go_wp2
      have ho := ((((HO.out.far (p := ⟨w.heap.size + 1, 0, none⟩) (by simp) (W64 (mat m j).1)).far (p := ⟨w.heap.size + 1, 1, none⟩) (by simp) (W64 (mat m j).2.1)).far (p := ⟨w.heap.size + 1, 2, none⟩) (by simp) (W64 (mat m j).2.2.1)).far (p := ⟨w.heap.size + 1, 3, none⟩) (by simp) (W64 (mat m j).2.2.2)).res
      have hb := (((HB1.out.set_ 0 (W64 (mat m j).1)).set_ 1 (W64 (mat m j).2.1)).set_ 2 (W64 (mat m j).2.2.1)).set_ 3 (W64 (mat m j).2.2.2)
      refine bodyPost_ret (results_tct rfl _ rfl hb Tryd.underlying57 rfl (by kernel_rfl)) rfl ⟨⟨_, rfl, ho⟩, ?_⟩
      refine Below.drew ?_
      repeat (refine Below.setCell ?_ (by simp) _)
      exact HB.out

end Go.Proofs.YtmibifmabkaakaaDoor
