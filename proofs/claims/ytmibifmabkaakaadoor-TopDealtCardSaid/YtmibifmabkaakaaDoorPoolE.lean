/- The reference's FAdd walked, where nothing is wrong. No condition. -/
import Derived.Test.YtmibifmabkaakaaDoorPoolC
import Derived.Test.YtmibifmabkaakaaDoorPoolD
namespace Go.Proofs.YtmibifmabkaakaaDoor
open Go.ChangeShapes Go.WideShapes Go.ChangeAt Go.RowKit

/-- What the reference's loop copies. -/
def pcopy (r k x d : Int) (zs : List Int) : List Int := if r ≤ k ∧ d < zs.length then zs.set d.toNat x else zs
theorem pcopy_len (r k x d : Int) (zs : List Int) : (pcopy r k x d zs).length = zs.length := by unfold pcopy; split <;> simp
/-- Where the reference stands in its loop. -/
def FInv (w w1 wr : World) (r k x d : Int) (cs : Array Value) (zs : List Int) (j : Nat) : Prop :=
  ∃ A c, Own wr (w1.heap.size + 1) 3 (.slice A j c) (((pcopy r k x d zs).take j).map (.int .i64)) ∧ Blk wr w1.heap.size 113 (pcells r (k + 1) (.slice A j c)) ∧
    Blk wr w.heap.size 113 cs ∧ Blk wr (w.heap.size + 1) 113 (pcells 0 0 (.slice none 0 0)) ∧ Below w.heap.size w wr ∧ w1.heap.size + 1 ≤ wr.heap.size

set_option maxRecDepth 20000 in
set_option maxHeartbeats 4000000 in
theorem fadd_good (A : Option Addr) (zs : List Int) (r k x d : Int) (c : Nat) (w : World) (hs : Seg w w.heap.size A (zs.map (.int .i64))) (h : padde r k d zs.length = 0) :
    Calls Tryd.prog 77 #[PoolV r k (.slice A zs.length c), .int .i64 x, .int .i64 d] w fun e w' => (∃ v, e = .returned (.tuple #[v, .int .i64 (padd r k zs x d).2]) ∧ PoolIs w' v (padd r k zs x d).1) ∧ Below w.heap.size w w' := by
  obtain ⟨h0, h1, d0, d1⟩ := padde_zero h
  have hf : Hid (padd r k zs x d = ((r, k + 1, paddl r x d zs), 0)) := padd_good h rfl
  have hend : ∀ (w1 w2 : World), Below w.heap.size w w1 → w1.grownBy w2 (some (w.heap.size + 1)) → Below w.heap.size w w2 := fun w1 w2 h1 h2 => h1.grown h2 h1.size (by simp)
  have HEND := Lib.hid hend
  clear hend
  have hr : decide (fright r k zs.length) = true := decide_eq_true h0
  have HS := Lib.hid hs
  obtain ⟨g1, g2, g3, g4, g5⟩ := h0
  have hk : k < 1099511627776 := by omega
  have hl : zs.length ≤ 400 := by omega
  have G5 := Lib.hid g5
  clear hs g5 h1 h
  go_enter Tryd.func77, Tryd.ntmps77
  go_wp2_with fail
  refine (rright_any A r k _ c _).mono ?_
  rintro e w1 ⟨rfl, hb⟩
  rw [hr]
  obtain ⟨B0, B1, hb⟩ := two_blocks (by simpa using hb)
  have HB0 := Lib.hid B0
  have HB1 := Lib.hid B1
  have HB := Lib.hid hb
  have HLT := Lib.hid B0.lt
  have HLT1 := Lib.hid B1.lt
  have c0 := B0.cell 0 (u := .int .i64 r) rfl
  have c1 := B0.cell 1 (u := .int .i64 k) rfl
  have c2 := B0.cell 2 (u := .slice A zs.length c) rfl
  have hl0 := HLT.out
  clear B0 B1 hb hr
  go_wp2_with fail
  clear c0 c1 c2 hl0
  go_loopw [37] (fun i wr => ∃ j : Nat, j ≤ zs.length ∧ i = .int .i64 j ∧ Hid (FInv w w1 wr r k x d (pcells r k (.slice A zs.length c)) zs j)) (fun i _ => zs.length - (intOf i).toNat)
  case atStart =>
    refine ⟨0, Nat.zero_le _, rfl, none, 0, Own.none_, Blk.new _ _ _, HB0.out.alloc _, HB1.out.alloc _, HB.out.alloc HB.out.size _, by simp⟩
  case round =>
    obtain ⟨j, hj, rfl, hinv⟩ := hrel
    by_cases hlt : j < zs.length
    · obtain ⟨A2, n2, hown, b2, b0, b1, hbel, hsz⟩ := hinv.out
      obtain ⟨ad, rfl, _, hc⟩ := (HS.out.below hbel).int hlt
      have HO := Lib.hid hown
      have HB2 := Lib.hid b2
      have HB0' := Lib.hid b0
      have HB1' := Lib.hid b1
      have HBE := Lib.hid hbel
      have c0 := b0.cell 0 (u := .int .i64 r) rfl
      have c1 := b0.cell 1 (u := .int .i64 k) rfl
      have c2 := b2.cell 2 (u := .slice A2 j n2) rfl
      have f2 := b2.frozen 2
      have hl2 := b2.lt
      clear hown b2 b0 b1 hbel hinv
      have HT : Hid ((pcopy r k x d zs).take (j + 1) = (pcopy r k x d zs).take j ++ [(pcopy r k x d zs)[j]'(by rw [pcopy_len]; exact hlt)]) := List.take_succ_eq_append_getElem _
      have HL : ((List.take j (pcopy r k x d zs)).map (Value.int .i64)).length ≤ 400 := by rw [List.length_map, List.length_take]; omega
      by_cases hjd : (j : Int) = d
      · have hb : ((j : Int) == d) = true := by simpa using hjd
        by_cases hrk : r ≤ k
        · have hy : Hid ((pcopy r k x d zs)[j]'(by rw [pcopy_len]; exact hlt) = x) := by
            unfold Hid
            have e : pcopy r k x d zs = zs.set j x := by unfold pcopy; rw [if_pos ⟨hrk, by omega⟩, ← hjd]; rfl
            simp [e]
          clear hjd
          generalize zs[j] = z at *
          go_wp2_with (first
            | (at_builtin; go_must (refine wpList_push _ rfl _ _ 23 3 8 elem_ints rfl (w1.heap.size + 1) _ _ rfl (Own.alloc' HO.out _) (.int .i64 x) ⟨wr.heap.size, 0, none⟩ 1 rfl (cell_new1 _ _ _) rfl (by omega) (by unfold maxLen; omega) (by simp; omega) ?_); intro v3 w3 hown3 hbel3; obtain ⟨A3, n3, e3, _, s3⟩ := hown3.res; rw [List.length_append, List.length_map, List.length_singleton, List.length_take, pcopy_len, Nat.min_eq_left hj] at e3; subst e3; have HO3 := Lib.hid hown3; have HE3 := Lib.hid hbel3; have KC2 := Lib.hid ((HB2.out.alloc (.cells #[.int .i64 x] 3)).below hbel3 (by omega)); have f2' := KC2.out.frozen 2; have c2' := KC2.out.cell 2 (u := .slice A2 j n2) rfl; clear hown3 hbel3; clear s3)
            | fail)
          go_roundw
          case rel =>
            refine ⟨j + 1, by omega, by go_num, A3, n3, ?_, KC2.out.set_ 2 _, ((HB0'.out.alloc _).below HE3.out (by have := HLT.out; omega)).far (by have := HLT.out; simp; omega) _, ((HB1'.out.alloc _).below HE3.out (by have := HLT1.out; omega)).far (by have := HLT1.out; simp; omega) _, ?_, ?_⟩
            · rw [HT.out, List.map_append, List.map_singleton, hy.out]
              exact HO3.out.far (by simp) _
            · exact ((HBE.out.alloc (by have := HLT.out; omega) _).trans (HE3.out.mono (by have := HLT.out; omega))).setCell (by have := HLT.out; simp; omega) _
            · have := HE3.out.size; simp at this ⊢; omega
          case measure => simp [intOf]; omega
        · have hy : Hid ((pcopy r k x d zs)[j]'(by rw [pcopy_len]; exact hlt) = zs[j]) := by
            unfold Hid
            have e : pcopy r k x d zs = zs := by unfold pcopy; rw [if_neg (by omega)]
            simp [e]
          clear hjd
          generalize zs[j] = z at *
          go_wp2_with (first
            | (at_builtin; go_must (refine wpList_push _ rfl _ _ 23 3 8 elem_ints rfl (w1.heap.size + 1) _ _ rfl (Own.alloc' HO.out _) (.int .i64 z) ⟨wr.heap.size, 0, none⟩ 1 rfl (cell_new1 _ _ _) rfl (by omega) (by unfold maxLen; omega) (by simp; omega) ?_); intro v3 w3 hown3 hbel3; obtain ⟨A3, n3, e3, _, s3⟩ := hown3.res; rw [List.length_append, List.length_map, List.length_singleton, List.length_take, pcopy_len, Nat.min_eq_left hj] at e3; subst e3; have HO3 := Lib.hid hown3; have HE3 := Lib.hid hbel3; have KC2 := Lib.hid ((HB2.out.alloc (.cells #[.int .i64 z] 3)).below hbel3 (by omega)); have f2' := KC2.out.frozen 2; have c2' := KC2.out.cell 2 (u := .slice A2 j n2) rfl; clear hown3 hbel3; clear s3)
            | fail)
          go_roundw
          case rel =>
            refine ⟨j + 1, by omega, by go_num, A3, n3, ?_, KC2.out.set_ 2 _, ((HB0'.out.alloc _).below HE3.out (by have := HLT.out; omega)).far (by have := HLT.out; simp; omega) _, ((HB1'.out.alloc _).below HE3.out (by have := HLT1.out; omega)).far (by have := HLT1.out; simp; omega) _, ?_, ?_⟩
            · rw [HT.out, List.map_append, List.map_singleton, hy.out]
              exact HO3.out.far (by simp) _
            · exact ((HBE.out.alloc (by have := HLT.out; omega) _).trans (HE3.out.mono (by have := HLT.out; omega))).setCell (by have := HLT.out; simp; omega) _
            · have := HE3.out.size; simp at this ⊢; omega
          case measure => simp [intOf]; omega
      · have hb : ((j : Int) == d) = false := by simpa using hjd
        have hy : Hid ((pcopy r k x d zs)[j]'(by rw [pcopy_len]; exact hlt) = zs[j]) := by
          unfold Hid
          by_cases hh : r ≤ k ∧ d < zs.length
          · have e : pcopy r k x d zs = zs.set d.toNat x := by unfold pcopy; rw [if_pos hh]
            simp only [e]
            rw [List.getElem_set_ne (by omega)]
          · have e : pcopy r k x d zs = zs := by unfold pcopy; rw [if_neg hh]
            simp only [e]
        clear hjd
        generalize zs[j] = z at *
        go_wp2_with (first
          | (at_builtin; go_must (refine wpList_push _ rfl _ _ 23 3 8 elem_ints rfl (w1.heap.size + 1) _ _ rfl (Own.alloc' HO.out _) (.int .i64 z) ⟨wr.heap.size, 0, none⟩ 1 rfl (cell_new1 _ _ _) rfl (by omega) (by unfold maxLen; omega) (by simp; omega) ?_); intro v3 w3 hown3 hbel3; obtain ⟨A3, n3, e3, _, s3⟩ := hown3.res; rw [List.length_append, List.length_map, List.length_singleton, List.length_take, pcopy_len, Nat.min_eq_left hj] at e3; subst e3; have HO3 := Lib.hid hown3; have HE3 := Lib.hid hbel3; have KC2 := Lib.hid ((HB2.out.alloc (.cells #[.int .i64 z] 3)).below hbel3 (by omega)); have f2' := KC2.out.frozen 2; have c2' := KC2.out.cell 2 (u := .slice A2 j n2) rfl; clear hown3 hbel3; clear s3)
          | fail)
        go_roundw
        case rel =>
          refine ⟨j + 1, by omega, by go_num, A3, n3, ?_, KC2.out.set_ 2 _, ((HB0'.out.alloc _).below HE3.out (by have := HLT.out; omega)).far (by have := HLT.out; simp; omega) _, ((HB1'.out.alloc _).below HE3.out (by have := HLT1.out; omega)).far (by have := HLT1.out; simp; omega) _, ?_, ?_⟩
          · rw [HT.out, List.map_append, List.map_singleton, hy.out]
            exact HO3.out.far (by simp) _
          · exact ((HBE.out.alloc (by have := HLT.out; omega) _).trans (HE3.out.mono (by have := HLT.out; omega))).setCell (by have := HLT.out; simp; omega) _
          · have := HE3.out.size; simp at this ⊢; omega
        case measure => simp [intOf]; omega
    · obtain ⟨A2, n2, hown, b2, b0, b1, hbel, hsz⟩ := hinv.out
      have hjl : j = zs.length := by omega
      subst hjl
      have htk : (pcopy r k x d zs).take zs.length = pcopy r k x d zs := List.take_of_length_le (by rw [pcopy_len]; exact Nat.le_refl _)
      rw [htk] at hown
      have HO := Lib.hid hown
      have HB2 := Lib.hid b2
      have HB1' := Lib.hid b1
      have HBE := Lib.hid hbel
      have c0 := b0.cell 0 (u := .int .i64 r) rfl
      have c1 := b0.cell 1 (u := .int .i64 k) rfl
      have c2 := b2.cell 2 (u := .slice A2 zs.length n2) rfl
      have f2 := b2.frozen 2
      have hl2 := b2.lt
      have HL : ((pcopy r k x d zs).map (Value.int .i64)).length ≤ 400 := by rw [List.length_map, pcopy_len]; omega
      clear hown b2 b0 b1 hbel hinv htk
      by_cases hkr : k < r
      · have hL : Hid (paddl r x d zs = pcopy r k x d zs ++ [x]) := by
          unfold Hid paddl pcopy; rw [if_pos (by have := G5.out; omega), if_neg (by omega)]
        go_wp2_with (first
          | (at_builtin; go_must (refine wpList_push _ rfl _ _ 23 3 8 elem_ints rfl (w1.heap.size + 1) _ _ rfl (Own.alloc' HO.out _) (.int .i64 x) ⟨wr.heap.size, 0, none⟩ 1 rfl (cell_new1 _ _ _) rfl (by omega) (by unfold maxLen; omega) (by simp; omega) ?_); intro v3 w3 hown3 hbel3; obtain ⟨A3, n3, e3, _, s3⟩ := hown3.res; rw [List.length_append, List.length_map, List.length_singleton, pcopy_len] at e3; subst e3; have HO3 := Lib.hid hown3; have HE3 := Lib.hid hbel3; have KC2 := Lib.hid ((HB2.out.alloc (.cells #[.int .i64 x] 3)).below hbel3 (by omega)); have f2' := KC2.out.frozen 2; have c2' := KC2.out.cell 2 (u := .slice A2 zs.length n2) rfl; have KC1 := Lib.hid (((HB1'.out.alloc (.cells #[.int .i64 x] 3)).below hbel3 (by have := HLT1.out; omega)).far (p := ⟨w1.heap.size, 2, none⟩) (by have := HLT1.out; simp; omega) (.slice A3 (zs.length + 1) n3)); clear hown3 hbel3; clear s3)
          | (refine wpList_load_blk rfl _ _ rfl w1.heap.size rfl 113 (pcells r (k + 1) (.slice A3 (zs.length + 1) n3)) _ (KC2.out.set_ 2 (.slice A3 (zs.length + 1) n3)) Tryd.underlying113 rfl (by kernel_rfl) ?_)
          | (refine wpList_store_blk rfl _ _ _ rfl (w.heap.size + 1) (pcells r (k + 1) (.slice A3 (zs.length + 1) n3)) rfl rfl _ _ KC1.out (by kernel_rfl) rfl (pcells_one _ _ _ _ _) ?_; intro w4 hb4 hg4 hs4; have HS4 := Lib.hid hs4; have HB4 := Lib.hid hb4; have HG4 := Lib.hid hg4; clear hs4 hb4 hg4)
          | fail)
        have HO5 : Hid (Own w4 (w1.heap.size + 1) 3 (.slice A3 (zs.length + 1) n3) ((pcopy r k x d zs ++ [x]).map (.int .i64))) := by
          unfold Hid
          rw [List.map_append]
          exact (HO3.out.far (p := ⟨w1.heap.size, 2, none⟩) (by simp) _).grown HG4.out (by have := HLT1.out; omega)
        have HE5 : Hid (Below w.heap.size w w4) := HEND.out _ _ (((HBE.out.alloc (by have := HLT.out; omega) _).trans (HE3.out.mono (by have := HLT.out; omega))).setCell (p := ⟨w1.heap.size, 2, none⟩) (by have := HLT.out; simp; omega) _) HG4.out
        refine bodyPost_ret (v := .tuple #[PoolV r (k + 1) (.slice A3 (zs.length + 1) n3), .int .i64 0]) (results_ct (a := 7) Tryd.results77 _ rfl HB4.out Tryd.underlying113 rfl (by kernel_rfl)) rfl ⟨pool_is (hf.out.trans (by rw [hL.out])) (own_is HO5.out (by simp [pcopy_len])), HE5.out⟩
      · have hL : Hid (paddl r x d zs = pcopy r k x d zs) := by
          unfold Hid paddl pcopy
          have := G5.out
          rw [if_neg (by omega)]
          by_cases hdr : d < r
          · rw [if_pos hdr, if_pos (by omega)]
          · rw [if_neg hdr, if_neg (by omega)]
        have hkr' : r ≤ k := by omega
        go_wp2_with (first
          | (refine wpList_load_blk rfl _ _ rfl w1.heap.size rfl 113 (pcells r (k + 1) (.slice A2 zs.length n2)) _ HB2.out Tryd.underlying113 rfl (by kernel_rfl) ?_)
          | (refine wpList_store_blk rfl _ _ _ rfl (w.heap.size + 1) (pcells r (k + 1) (.slice A2 zs.length n2)) rfl rfl _ _ HB1'.out (by kernel_rfl) rfl (pcells_one _ _ _ _ _) ?_; intro w4 hb4 hg4 hs4; have HS4 := Lib.hid hs4; have HB4 := Lib.hid hb4; have HG4 := Lib.hid hg4; clear hs4 hb4 hg4)
          | fail)
        have HO5 : Hid (Own w4 (w1.heap.size + 1) 3 (.slice A2 zs.length n2) ((pcopy r k x d zs).map (.int .i64))) := HO.out.grown HG4.out (by have := HLT1.out; omega)
        refine bodyPost_ret (v := .tuple #[PoolV r (k + 1) (.slice A2 zs.length n2), .int .i64 0]) (results_ct (a := 7) Tryd.results77 _ rfl HB4.out Tryd.underlying113 rfl (by kernel_rfl)) rfl ⟨pool_is (hf.out.trans (by rw [hL.out])) (own_is HO5.out (by simp [pcopy_len])), HEND.out _ _ HBE.out HG4.out⟩
end Go.Proofs.YtmibifmabkaakaaDoor
