/- The reference's FSmaller walked. No condition. -/
import Derived.Test.YtakjcodfcoaadabPoolJ
import Derived.Laws.AppendOwnNone
namespace Go.Proofs.Ytakjcodfcoaadab
open Go.ChangeShapes Go.WideShapes Go.ChangeAt Go.RowKit

theorem Own.lower {w : World} {base base' : Nat} {e : TypeId} {v : Value} {xs : List Value} (h : Own w base e v xs) (hb : base' ≤ base) : Own w base' e v xs := by
  refine ⟨h.1, ?_⟩
  rcases h.2 with h2 | ⟨g, cap, cur, hv, hg, r⟩
  · exact .inl h2
  · exact .inr ⟨g, cap, cur, hv, by omega, r⟩
theorem pdel_at (room : Int) (ds zs : List Int) (j : Nat) (h : j < ds.length) (hl : room < (zs.length : Int)) (m : Nat) (hd : ds[j] = m) (hm : m < zs.length) : pdel room (ds.drop j) zs = pdel room (ds.drop (j + 1)) (zs.eraseIdx m) := by
  rw [List.drop_eq_getElem_cons h, hd, pdel_go room m _ zs hl hm]
theorem pdel_bad (room : Int) (ds zs : List Int) (j : Nat) (h : j < ds.length) (hl : room < (zs.length : Int)) (hd : ds[j] < 0 ∨ (zs.length : Int) ≤ ds[j]) : pdel room (ds.drop j) zs = ([], 2) := by
  rw [List.drop_eq_getElem_cons h, pdel_wrong room _ _ zs hl hd]
/-- All but one of the first ones. -/
def lbut (zs : List Int) (m i : Nat) : List Int := (zs.take i).eraseIdx m
theorem lbut_zero (zs : List Int) (m : Nat) : lbut zs m 0 = [] := by simp [lbut]
theorem lbut_all (zs : List Int) (m i : Nat) (h : zs.length ≤ i) : lbut zs m i = zs.eraseIdx m := by unfold lbut; rw [List.take_of_length_le h]
theorem lbut_same (zs : List Int) (m : Nat) (h : m < zs.length) : lbut zs m (m + 1) = lbut zs m m := by
  unfold lbut
  rw [List.eraseIdx_of_length_le (l := zs.take m) (by simp; omega), List.eraseIdx_eq_take_drop_succ, List.take_take, Nat.min_eq_left (by omega), List.drop_eq_nil_iff.2 (by simp; omega), List.append_nil]
theorem lbut_more (zs : List Int) (m i : Nat) (h : i < zs.length) (hne : i ≠ m) : lbut zs m (i + 1) = lbut zs m i ++ [zs[i]] := by
  unfold lbut
  rw [List.take_succ_eq_append_getElem h]
  rcases Nat.lt_or_ge m i with hlt | hge
  · rw [List.eraseIdx_append_of_lt_length (by simp; omega)]
  · rw [List.eraseIdx_of_length_le (by simp; omega), List.eraseIdx_of_length_le (by simp; omega)]
theorem lbut_len (zs : List Int) (m i : Nat) (h : zs.length ≤ 400) : (lbut zs m i).length ≤ 400 := by
  unfold lbut
  have := List.length_eraseIdx_le (zs.take i) m
  rw [List.length_take] at this
  omega

/-- Where the reference stands in its outer loop. -/
def TInv (w w1 wr : World) (cs : Array Value) (room : Int) (ds : List Int) (t : List Int × Int) (j : Nat) (v : Value) (zs : List Int) : Prop :=
  Own wr w1.heap.size 3 v (zs.map (.int .i64)) ∧ Blk wr w.heap.size 35 cs ∧
    Blk wr (w.heap.size + 1) 35 (pcells 0 0 (.slice none 0 0)) ∧ Below w.heap.size w wr ∧ w1.heap.size ≤ wr.heap.size ∧ pdel room (ds.drop j) zs = t

set_option maxRecDepth 20000 in
set_option maxHeartbeats 4000000 in
theorem fsmall_good (A C : Option Addr) (zs ds : List Int) (r k room : Int) (c c' : Nat) (w : World) (hA : A = none → c = 0) (hs : Seg w w.heap.size A (zs.map (.int .i64))) (ht : Seg w w.heap.size C (ds.map (.int .i64))) (hdc : ds.length ≤ maxLen)
    (h0 : fright r k zs.length) (h1 : 1 ≤ room) (h2 : room ≤ r) :
    Calls Try.prog 25 #[PoolV r k (.slice A zs.length c), .int .i64 room, .slice C ds.length c'] w fun e w' => (∃ v, e = .returned (.tuple #[v, .int .i64 (psmall r k zs room ds).2]) ∧ PoolIs w' v (psmall r k zs room ds).1) ∧ Below w.heap.size w w' := by
  have hend : ∀ (w1 w2 : World), Below w.heap.size w w1 → w1.grownBy w2 (some (w.heap.size + 1)) → Below w.heap.size w w2 := fun w1 w2 h1 h2 => h1.grown h2 h1.size (by simp)
  have HEND := Lib.hid hend
  clear hend
  have hr : decide (fright r k zs.length) = true := decide_eq_true h0
  have hf : Hid (psmall r k zs room ds = if (pdel room ds zs).2 = 0 then ((room, k, (pdel room ds zs).1), 0) else ((0, 0, []), (pdel room ds zs).2)) := by unfold Hid psmall; rw [if_pos h0, if_neg (by omega)]
  obtain ⟨i0, hi, hz0, hz1, hz2⟩ := info_parts (show (Try.prog.info? 3).map (fun i => (i.zero, i.size, i.bytes)) = some (some (.int .i64 0), 1, 8) by kernel_rfl)
  have HS := Lib.hid hs
  have HT := Lib.hid ht
  obtain ⟨g1, g2, g3, g4, g5⟩ := h0
  have hl : zs.length ≤ 400 := by omega
  unfold maxLen at hdc
  clear hs ht g5
  go_enter Try.func25, Try.ntmps25
  go_wp2_with fail
  refine (rright_any A r k _ c _).mono ?_
  rintro e w1 ⟨rfl, hb⟩
  rw [hr]
  obtain ⟨B0, B1, hb⟩ := two_blocks (by simpa using hb)
  have HB0 := Lib.hid B0
  have HB1 := Lib.hid B1
  have HB := Lib.hid hb
  have c0 := B0.cell 0 (u := .int .i64 r) rfl
  have c1 := B0.cell 1 (u := .int .i64 k) rfl
  have c2 := B0.cell 2 (u := .slice A zs.length c) rfl
  have HLT := Lib.hid B0.lt
  have HLT1 := Lib.hid B1.lt
  have hl0 := B0.lt
  clear B0 B1 hb hr
  have HW : Hid (Own (w1.alloc (.cells #[] 3)) w1.heap.size 3 (.slice (some ⟨w1.heap.size, 0, none⟩) 0 0) []) := World.ownsRow_made w1 #[] 0 (Nat.le_refl _) (Nat.zero_le _) rfl
  have HAL : Hid (∀ w2, Below w1.heap.size (w1.alloc (.cells #[] 3)) w2 → Blk w2 w.heap.size 35 (pcells r k (.slice A zs.length c)) ∧ Blk w2 (w.heap.size + 1) 35 (pcells 0 0 (.slice none 0 0)) ∧ Below w.heap.size w w2 ∧ w1.heap.size ≤ w2.heap.size) := fun w2 h =>
    ⟨(HB0.out.alloc _).below h HLT.out, (HB1.out.alloc _).below h HLT1.out, (HB.out.alloc HB.out.size _).trans (h.mono HB.out.size), by have := h.size; simp at this; omega⟩
  cases A with
  | none =>
    obtain rfl := hA rfl
    have hz : zs = [] := by
      by_cases h : 0 < zs.length
      · obtain ⟨ad, h1, _⟩ := HS.out (by simpa using h)
        simp at h1
      · exact List.length_eq_zero_iff.1 (by omega)
    subst hz
    have HQ : Hid (pdel room ds [] = ([], 0)) := pdel_done room ds [] (by simp; omega)
    obtain ⟨KB0, KB1, KBE, KSZ⟩ := HAL.out _ (Below.refl _ _)
    have K0 := Lib.hid KB0
    have K1 := Lib.hid KB1
    have KE := Lib.hid KBE
    clear KB0 KB1 KBE KSZ
    go_wp2_with (first
      | (at_builtin; refine wpList_append_own_none rfl _ _ 22 rfl w1.heap.size 3 i0 1 Try.underlying22 hi _ 0 [] rfl HW.out rfl ?_)
      | fail)
    have hcc := K0.out.cell 1 (u := .int .i64 k) rfl
    go_loopw [8, 9] (fun s8 s9 wr => s8 = .slice (some ⟨w1.heap.size, 0, none⟩) 0 0 ∧ s9 = .int .i64 0 ∧ wr = w1.alloc (.cells #[] 3)) (fun _ _ _ => 0)
    case atStart => exact ⟨rfl, rfl, rfl⟩
    case round =>
      obtain ⟨rfl, rfl, rfl⟩ := hrel
      go_wp2_with (first
        | (refine wpList_store_blk rfl _ _ _ rfl (w.heap.size + 1) (pcells room k (.slice (some ⟨w1.heap.size, 0, none⟩) 0 0)) rfl rfl 35 (pcells 0 0 (.slice none 0 0)) ?_ (by kernel_rfl) rfl (pcells_one _ _ _ _ _) ?_; exact K1.out; intro w4 hb4 hg4 hs4; have HS4 := Lib.hid hs4; have HB4 := Lib.hid hb4; have HG4 := Lib.hid hg4; clear hs4 hb4 hg4)
        | fail)
      refine bodyPost_ret (v := .tuple #[PoolV room k (.slice (some ⟨w1.heap.size, 0, none⟩) 0 0), .int .i64 0]) (results_ct (a := 7) Try.results25 _ rfl HB4.out Try.underlying35 rfl (by kernel_rfl)) rfl ⟨pool_is (hf.out.trans (by rw [HQ.out])) ⟨_, 0, rfl, TSeg.nil⟩, HEND.out _ _ KE.out HG4.out⟩
  | some ad0 =>
    have HC0 : Hid (∀ j u, (zs.map (Value.int .i64))[j]? = some u → (w1.alloc (.cells #[] 3)).cell? (ad0.add j) = some u) := by
      intro j u hj
      obtain ⟨ad', h1, h2, h3⟩ := (HS.out.below HB.out).get hj
      injection h1 with h1
      subst h1
      exact Lib.cell?_alloc_some _ h3
    have q3 : ∀ u ∈ zs.map (Value.int .i64), u.oneCell' = true := by intro u hu; obtain ⟨x, _, rfl⟩ := List.mem_map.1 hu; rfl
    have Q3 := Lib.hid q3
    clear q3
    go_wp2_with (first
      | (at_builtin; go_must (refine wpList_append_own _ rfl _ _ 22 rfl w1.heap.size 3 i0 (.int .i64 0) 1 8 Try.underlying22 hi hz0 hz1 hz2 rfl (by decide) _ _ _ rfl HW.out ad0 zs.length c (zs.map (Value.int .i64)) rfl (by simp) HC0.out Q3.out (by unfold maxLen; simp only [List.length_nil]; omega) (by simp only [List.length_nil]; omega) (by simp) ?_); intro v5 w5 hown5 hgrow5 hnil5; have HQ5 := Lib.hid hown5; have HG5 := Lib.hid hgrow5; clear hown5 hgrow5 hnil5)
      | fail)
    have HO5 : Hid (Own w5 w1.heap.size 3 v5 (zs.map (.int .i64))) := by
      have := HQ5.out
      simp only [List.nil_append] at this
      exact Own.to this
    have HB5 : Hid (Below w1.heap.size (w1.alloc (.cells #[] 3)) w5) := (Below.refl _ _).grown HG5.out (by simp) (by intro k hk; cases hk; exact Nat.le_refl _)
    clear HQ5 HG5
    obtain ⟨KB0, KB1, KBE, KSZ⟩ := HAL.out _ HB5.out
    have HK : Hid (TInv w w1 w5 (pcells r k (.slice (some ad0) zs.length c)) room ds (pdel room ds zs) 0 v5 zs) := ⟨HO5.out, KB0, KB1, KBE, KSZ, rfl⟩
    clear KB0 KB1 KBE KSZ c0 c1 c2 hl0
    go_loopw [8, 9] (fun s8 s9 wr => ∃ (j : Nat) (zs' : List Int), j ≤ ds.length ∧ s9 = .int .i64 j ∧ zs'.length ≤ 400 ∧ Hid (TInv w w1 wr (pcells r k (.slice (some ad0) zs.length c)) room ds (pdel room ds zs) j s8 zs')) (fun _ s9 _ => ds.length - (intOf s9).toNat)
    case atStart => exact ⟨0, zs, Nat.zero_le _, rfl, hl, HK.out⟩
    case round =>
      clear HK HO5 HB5
      obtain ⟨j, zs', hj, rfl, hzl, hinv⟩ := hrel
      obtain ⟨hown, b0, b1, hbel, hsz, hgo⟩ := hinv.out
      obtain ⟨A3, n3, e3, hn3, hown'⟩ := hown.res2
      rw [List.length_map] at e3 hn3 hown'
      subst e3
      have HO3 := Lib.hid hown'
      have HB0' := Lib.hid b0
      have HB1' := Lib.hid b1
      have HBE := Lib.hid hbel
      have HGO := Lib.hid hgo
      have c1 := b0.cell 1 (u := .int .i64 k) rfl
      clear hown b0 b1 hbel hgo hinv hown'
      by_cases hlt : room < (zs'.length : Int)
      · by_cases hje : j = ds.length
        · have HQ : Hid (pdel room ds zs = ([], 7)) := by
            have := HGO.out
            rw [List.drop_eq_nil_iff.2 (by omega), pdel_out room zs' hlt] at this
            exact this.symm
          have hb : ((j : Int) == (ds.length : Int)) = true := by simp [hje]
          clear hje
          go_wp2_with (first
            | (refine wpList_store_blk rfl _ _ _ rfl (w.heap.size + 1) (pcells 0 0 (.slice none 0 0)) rfl rfl 35 (pcells 0 0 (.slice none 0 0)) ?_ (by kernel_rfl) rfl (pcells_one _ _ _ _ _) ?_; exact HB1'.out; intro w4 hb4 hg4 hs4; have HS4 := Lib.hid hs4; have HB4 := Lib.hid hb4; have HG4 := Lib.hid hg4; clear hs4 hb4 hg4)
            | fail)
          refine bodyPost_ret (v := .tuple #[PoolV 0 0 (.slice none 0 0), .int .i64 7]) (results_ct (a := 7) Try.results25 _ rfl HB4.out Try.underlying35 rfl (by kernel_rfl)) rfl ⟨pool_is (hf.out.trans (by rw [HQ.out])) (nil_is _ _ _), HEND.out _ _ HBE.out HG4.out⟩
        · have hb : ((j : Int) == (ds.length : Int)) = false := by simp; omega
          have hjl : j < ds.length := by omega
          obtain ⟨ae, rfl, _, hd⟩ := (HT.out.below HBE.out).int hjl
          by_cases hbad : ds[j] < 0 ∨ (zs'.length : Int) ≤ ds[j]
          · have HQ : Hid (pdel room ds zs = ([], 2)) := HGO.out.symm.trans (pdel_bad room ds zs' j hjl hlt hbad)
            have HD := Lib.hid hbad
            clear hbad hje
            generalize ds[j] = d at *
            by_cases hd1 : d < 0
            all_goals
              try have hd2 : (zs'.length : Int) ≤ d := by have := HD.out; omega
              go_wp2_with (first
                | (refine wpList_store_blk rfl _ _ _ rfl (w.heap.size + 1) (pcells 0 0 (.slice none 0 0)) rfl rfl 35 (pcells 0 0 (.slice none 0 0)) ?_ (by kernel_rfl) rfl (pcells_one _ _ _ _ _) ?_; exact HB1'.out; intro w4 hb4 hg4 hs4; have HS4 := Lib.hid hs4; have HB4 := Lib.hid hb4; have HG4 := Lib.hid hg4; clear hs4 hb4 hg4)
                | fail)
              refine bodyPost_ret (v := .tuple #[PoolV 0 0 (.slice none 0 0), .int .i64 2]) (results_ct (a := 7) Try.results25 _ rfl HB4.out Try.underlying35 rfl (by kernel_rfl)) rfl ⟨pool_is (hf.out.trans (by rw [HQ.out])) (nil_is _ _ _), HEND.out _ _ HBE.out HG4.out⟩
          · obtain ⟨m, hm0⟩ : ∃ m : Nat, ds[j] = m := ⟨ds[j].toNat, by omega⟩
            have hm : m < zs'.length := by omega
            have HQ : Hid (pdel room (ds.drop (j + 1)) (zs'.eraseIdx m) = pdel room ds zs) := by have := HGO.out; rwa [pdel_at room ds zs' j hjl hlt m hm0 hm] at this
            have HEL : Hid ((zs'.eraseIdx m).length = zs'.length - 1) := List.length_eraseIdx_of_lt hm
            clear hbad hje
            rw [hm0] at hd
            clear hm0
            have HD := Lib.hid hd
            clear hd
            have hd := HD.out
            have hb7 : decide (zs'.length ≤ m) = false := decide_eq_false (by omega)
            go_wp2_with fail
            clear hb7
            clear hd c1
            obtain ⟨wo, rfl⟩ : ∃ wo : World, wo = wr := ⟨_, rfl⟩
            go_loopw [10, 58] (fun s10 s58 wr => ∃ (i : Nat) (A5 : Option Addr) (n5 : Nat), i ≤ zs'.length ∧ s58 = .int .i64 i ∧ s10 = .slice A5 (lbut zs' m i).length n5 ∧ Hid (Own wr wo.heap.size 3 (.slice A5 (lbut zs' m i).length n5) ((lbut zs' m i).map (.int .i64)) ∧ Below wo.heap.size wo wr)) (fun _ s58 _ => zs'.length - (intOf s58).toNat)
            case atStart => exact ⟨0, none, 0, Nat.zero_le _, rfl, by rw [lbut_zero]; rfl, by rw [lbut_zero]; exact Own.none_, Below.refl _ _⟩
            case round =>
              obtain ⟨i, A5, n5, hi5, rfl, rfl, hq⟩ := hrel
              have HE5 := Lib.hid hq.out.2
              have HO5 := Lib.hid hq.out.1
              clear hq
              have HLL := lbut_len zs' m i hzl
              by_cases hil : i < zs'.length
              · obtain ⟨ax, rfl, _, hx⟩ := (HO3.out.seg.below HE5.out).int hil
                have hd : wr.cell? (ae.add j) = some (.int .i64 m) := (HE5.out.cell (p := ae.add j) (block_lt HD.out)).trans HD.out
                have hsz5 := HE5.out.size
                by_cases him : i = m
                · subst him
                  have hb5 : ((i : Int) != (i : Int)) = false := by simp
                  generalize zs'[i] = x at *
                  go_wp2_with fail
                  go_roundw
                  case rel => exact ⟨i + 1, A5, n5, by omega, by go_num, by rw [lbut_same _ _ hil], by rw [lbut_same _ _ hil]; exact HO5.out, HE5.out⟩
                  case measure => simp [intOf]; omega
                · have hb5 : ((i : Int) != (m : Int)) = true := by simp; omega
                  have HM := Lib.hid (lbut_more zs' m i hil him)
                  have HO6 : Hid (Own wr wo.heap.size 3 (.slice A5 (lbut zs' m i).length n5) ((lbut zs' m i).map (.int .i64))) := HO5.out
                  have hLm : ((lbut zs' m i).map (Value.int .i64)).length ≤ 400 := by rw [List.length_map]; omega
                  clear him
                  generalize zs'[i] = x at *
                  go_wp2_with (first
                    | (at_builtin; go_must (refine wpList_push _ rfl _ _ 22 3 8 elem_ints rfl wo.heap.size _ _ rfl (Own.alloc' HO6.out _) (.int .i64 x) ⟨wr.heap.size, 0, none⟩ 1 rfl (cell_new1 _ _ _) rfl (by omega) (by unfold maxLen; omega) (by simp; omega) ?_); intro v3 w3 hown3 hbel3; obtain ⟨A6, n6, e6, _, s6⟩ := hown3.res2; rw [List.length_append, List.length_map, List.length_singleton] at e6 s6; subst e6; have HO7 := Lib.hid s6; have HE7 := Lib.hid hbel3; clear hown3 hbel3; clear s6)
                    | fail)
                  go_roundw
                  case rel => exact ⟨i + 1, A6, n6, by omega, by go_num, by rw [HM.out, List.length_append]; rfl, by rw [HM.out, List.map_append, List.length_append]; exact HO7.out, (HE5.out.alloc hsz5 _).trans HE7.out⟩
                  case measure => simp [intOf]; omega
              · have hfin : lbut zs' m i = zs'.eraseIdx m := lbut_all zs' m i (by omega)
                rw [hfin] at HO5 ⊢
                have KE : Hid (Below w.heap.size w wr) := HBE.out.trans (HE5.out.mono HBE.out.size)
                clear hfin HLL
                go_wp2_with fail
                go_roundw
                case rel => exact ⟨j + 1, zs'.eraseIdx m, by omega, by go_num, by rw [HEL.out]; omega, HO5.out.lower hsz, HB0'.out.below HE5.out HB0'.out.lt, HB1'.out.below HE5.out HB1'.out.lt, KE.out, by have := HE5.out.size; omega, HQ.out⟩
                case measure => simp [intOf]; omega
      · have HQ : Hid (pdel room ds zs = (zs', 0)) := HGO.out.symm.trans (pdel_done room _ zs' (by omega))
        go_wp2_with (first
          | (refine wpList_store_blk rfl _ _ _ rfl (w.heap.size + 1) (pcells room k (.slice A3 zs'.length n3)) rfl rfl 35 (pcells 0 0 (.slice none 0 0)) ?_ (by kernel_rfl) rfl (pcells_one _ _ _ _ _) ?_; exact HB1'.out; intro w4 hb4 hg4 hs4; have HS4 := Lib.hid hs4; have HB4 := Lib.hid hb4; have HG4 := Lib.hid hg4; clear hs4 hb4 hg4)
          | fail)
        refine bodyPost_ret (v := .tuple #[PoolV room k (.slice A3 zs'.length n3), .int .i64 0]) (results_ct (a := 7) Try.results25 _ rfl HB4.out Try.underlying35 rfl (by kernel_rfl)) rfl ⟨pool_is (hf.out.trans (by rw [HQ.out])) (own_is (HO3.out.grown HG4.out HLT1.out) rfl), HEND.out _ _ HBE.out HG4.out⟩
end Go.Proofs.Ytakjcodfcoaadab
