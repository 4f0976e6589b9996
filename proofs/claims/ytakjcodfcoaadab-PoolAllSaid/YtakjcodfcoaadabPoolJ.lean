/- pool.Smaller walked. No condition. -/
import Derived.Test.YtakjcodfcoaadabPoolH
import Derived.Test.YtakjcodfcoaadabDeleteI
import Derived.Deep.RegionWith
namespace Go.Proofs.Ytakjcodfcoaadab
open Go.ChangeShapes Go.WideShapes Go.ChangeAt Go.RowKit

/-- Draws take out one after the other. -/
def pdel (room : Int) : List Int → List Int → List Int × Int
  | [], zs => if (zs.length : Int) ≤ room then (zs, 0) else ([], 7)
  | d :: ds, zs => if (zs.length : Int) ≤ room then (zs, 0) else if d < 0 ∨ (zs.length : Int) ≤ d then ([], 2) else pdel room ds (zs.eraseIdx d.toNat)
def psmall (r k : Int) (zs : List Int) (room : Int) (ds : List Int) : (Int × Int × List Int) × Int :=
  if fright r k zs.length then (if room < 1 ∨ r < room then ((0, 0, []), 2) else if (pdel room ds zs).2 = 0 then ((room, k, (pdel room ds zs).1), 0) else ((0, 0, []), (pdel room ds zs).2)) else ((0, 0, []), 1)
theorem pdel_done (room : Int) (ds zs : List Int) (h : (zs.length : Int) ≤ room) : pdel room ds zs = (zs, 0) := by
  cases ds <;> simp [pdel, h]
theorem pdel_out (room : Int) (zs : List Int) (h : room < (zs.length : Int)) : pdel room [] zs = ([], 7) := by
  simp only [pdel]; rw [if_neg (by omega)]
theorem pdel_wrong (room d : Int) (ds zs : List Int) (h : room < (zs.length : Int)) (hd : d < 0 ∨ (zs.length : Int) ≤ d) : pdel room (d :: ds) zs = ([], 2) := by
  simp only [pdel]; rw [if_neg (by omega), if_pos hd]
theorem pdel_go (room : Int) (m : Nat) (ds zs : List Int) (h : room < (zs.length : Int)) (hd : m < zs.length) : pdel room (m :: ds) zs = pdel room ds (zs.eraseIdx m) := by
  rw [pdel, if_neg (by omega), if_neg (by omega)]; rfl
/-- How many elements a slice has. -/
def slen : Value → Nat
  | .slice _ n _ => n
  | _ => 0
theorem slen_slice (a : Option Addr) (n c : Nat) : slen (.slice a n c) = n := rfl
theorem Own.cap {w : World} {base g n c : Nat} {e : TypeId} {xs : List Value} (h : Own w base e (.slice (some ⟨g, 0, none⟩) n c) xs) : n ≤ c ∧ c ≤ maxLen := by
  rcases h.2 with ⟨e1, _⟩ | ⟨g, cap, cur, e1, _, _, h1, h2, _⟩
  · cases e1
  · injection e1 with e1 e2 e3
    subst e3
    have := h.len
    exact ⟨by omega, h2⟩

theorem delete_at (base g c : Nat) (zs : List Int) (m : Nat) (w : World) (h : Own w base 3 (.slice (some ⟨g, 0, none⟩) zs.length c) (zs.map (.int .i64))) (hc : zs.length ≤ c) (hcm : c ≤ maxLen) (hm : m < zs.length) :
    Calls Try.prog 55 #[.slice (some ⟨g, 0, none⟩) zs.length c, .int .i64 m, .int .i64 ((m : Int) + 1)] w fun e w' => e = .returned (.slice (some ⟨g, 0, none⟩) (zs.length - 1) c) ∧
      Own w' base 3 (.slice (some ⟨g, 0, none⟩) (zs.length - 1) c) ((zs.eraseIdx m).map (.int .i64)) ∧ w.grownBy w' (some g) := by
  have e : ((m + 1 : Nat) : Int) = (m : Int) + 1 := by omega
  rw [← e]
  exact delete_own base g c zs m w h hc hcm hm

/-- Where pool.Smaller stands in its loop. -/
def SInv (w w1 wr : World) (room k : Int) (rest : List Int) (t : List Int × Int) (zs : List Int) : Prop :=
  ∃ A c, Own wr w1.heap.size 3 (.slice A zs.length c) (zs.map (.int .i64)) ∧ Blk wr w.heap.size 35 (pcells room k (.slice A zs.length c)) ∧
    Blk wr (w.heap.size + 1) 35 (pcells 0 0 (.slice none 0 0)) ∧ Below w.heap.size w wr ∧ w1.heap.size ≤ wr.heap.size ∧ pdel room rest zs = t

set_option maxRecDepth 20000 in
set_option maxHeartbeats 4000000 in
theorem small_good (A C : Option Addr) (zs ds : List Int) (r k room : Int) (c c' : Nat) (w : World) (hs : Seg w w.heap.size A (zs.map (.int .i64))) (ht : Seg w w.heap.size C (ds.map (.int .i64))) (hdc : ds.length ≤ c') (hcm : c' ≤ maxLen)
    (h0 : fright r k zs.length) (h1 : 1 ≤ room) (h2 : room ≤ r) :
    Calls Try.prog 24 #[PoolV r k (.slice A zs.length c), .int .i64 room, .slice C ds.length c'] w fun e w' => (∃ v, e = .returned (.tuple #[v, .int .i64 (psmall r k zs room ds).2]) ∧ PoolIs w' v (psmall r k zs room ds).1) ∧ Below w.heap.size w w' := by
  have hend : ∀ (w1 w2 : World), Below w.heap.size w w1 → w1.grownBy w2 (some (w.heap.size + 1)) → Below w.heap.size w w2 := fun w1 w2 h1 h2 => h1.grown h2 h1.size (by simp)
  have HEND := Lib.hid hend
  clear hend
  have hr : decide (fright r k zs.length) = true := decide_eq_true h0
  have hf : Hid (psmall r k zs room ds = if (pdel room ds zs).2 = 0 then ((room, k, (pdel room ds zs).1), 0) else ((0, 0, []), (pdel room ds zs).2)) := by unfold Hid psmall; rw [if_pos h0, if_neg (by omega)]
  have HS := Lib.hid hs
  have HT := Lib.hid ht
  obtain ⟨g1, g2, g3, g4, g5⟩ := h0
  have hl : zs.length ≤ 400 := by omega
  unfold maxLen at hcm
  clear hs ht g5
  go_enter Try.func24, Try.ntmps24
  go_wp2_with fail
  refine (right_any A r k _ c _).mono ?_
  rintro e w1 ⟨rfl, hb⟩
  rw [hr]
  obtain ⟨B0, B1, hb⟩ := two_blocks (by simpa using hb)
  have HB0 := Lib.hid B0
  have HB1 := Lib.hid B1
  have HB := Lib.hid hb
  have c0 := B0.cell 0 (u := .int .i64 r) rfl
  have c1 := B0.cell 1 (u := .int .i64 k) rfl
  have c2 := B0.cell 2 (u := .slice A zs.length c) rfl
  clear B0 B1 hb hr
  go_wp2_with fail
  refine (clone_ints A zs c _ w1 (HS.out.below HB.out) (by omega)).mono ?_
  rintro e w2 ⟨⟨v, rfl, hown⟩, hb⟩
  obtain ⟨A2, n2, hv, hn2, _⟩ := hown.res
  rw [List.length_map] at hv hn2
  subst hv
  have HOWN := Lib.hid hown
  have HCB := Lib.hid hb
  have HLT := Lib.hid HB0.out.lt
  have HLT1 := Lib.hid HB1.out.lt
  have B0 := HB0.out.below hb HB0.out.lt
  have B1 := HB1.out.below hb HB1.out.lt
  have KB0 := Lib.hid B0
  have KB1 := Lib.hid B1
  clear c0 c1 c2
  have c0 := B0.cell 0 (u := .int .i64 r) rfl
  have c2 := B0.cell 2 (u := .slice A zs.length c) rfl
  have f0 := B0.frozen 0
  have f2 := B0.frozen 2
  clear B0 B1 hb hown hn2
  go_wp2_with fail
  have HKK : Hid (SInv w w1 ((w2.setCell ⟨w.heap.size, 2, none⟩ (.slice A2 zs.length n2)).setCell ⟨w.heap.size, 0, none⟩ (.int .i64 room)) room k ds (pdel room ds zs) zs) := by
    have h1 := HLT.out
    have h2 := HLT1.out
    have h3 := HCB.out.size
    refine ⟨A2, n2, (HOWN.out.far (by simp; omega) _).far (by simp; omega) _, (KB0.out.set_ 2 _).set_ 0 _, (KB1.out.far (by simp) _).far (by simp) _, (((HB.out.trans (HCB.out.mono (by omega))).setCell (Nat.le_refl _) _).setCell (Nat.le_refl _) _), by simp; omega, rfl⟩
  clear c0 c2 f0 f2
  go_loopw [2] (fun s2 wr => ∃ (rest zs' : List Int) (C' : Option Addr) (q : Nat), s2 = .slice C' rest.length q ∧ rest.length ≤ q ∧ q ≤ 9223372036854775807 ∧ zs'.length ≤ 400 ∧ Hid (Seg wr w.heap.size C' (rest.map (.int .i64))) ∧ Hid (SInv w w1 wr room k rest (pdel room ds zs) zs')) (fun s2 _ => slen s2)
  case atStart => exact ⟨ds, zs, C, c', rfl, hdc, hcm, hl, ((HT.out.below (HB.out.trans (HCB.out.mono (by have := HLT.out; omega)))).setCell (Nat.le_refl _) _).setCell (Nat.le_refl _) _, HKK.out⟩
  case round =>
    clear HKK
    obtain ⟨rest, zs', C', q, rfl, hq1, hq2, hzl, hsr, hinv⟩ := hrel
    obtain ⟨A3, n3, hown, b0, b1, hbel, hsz, hgo⟩ := hinv.out
    have HO3 := Lib.hid hown
    have HB0' := Lib.hid b0
    have HB1' := Lib.hid b1
    have HBE := Lib.hid hbel
    have HGO := Lib.hid hgo
    have c0 := b0.cell 0 (u := .int .i64 room) rfl
    have c1 := b0.cell 1 (u := .int .i64 k) rfl
    have c2 := b0.cell 2 (u := .slice A3 zs'.length n3) rfl
    have f2 := b0.frozen 2
    clear hown b0 b1 hbel hgo hinv
    by_cases hlt : room < (zs'.length : Int)
    · cases rest with
      | nil =>
        have HQ : Hid (pdel room ds zs = ([], 7)) := HGO.out.symm.trans (pdel_out room zs' hlt)
        go_wp2_with (first
          | (refine wpList_store_blk rfl _ _ _ rfl (w.heap.size + 1) (pcells 0 0 (.slice none 0 0)) rfl rfl 35 (pcells 0 0 (.slice none 0 0)) ?_ (by kernel_rfl) rfl (pcells_one _ _ _ _ _) ?_; exact HB1'.out; intro w4 hb4 hg4 hs4; have HS4 := Lib.hid hs4; have HB4 := Lib.hid hb4; have HG4 := Lib.hid hg4; clear hs4 hb4 hg4)
          | fail)
        refine bodyPost_ret (v := .tuple #[PoolV 0 0 (.slice none 0 0), .int .i64 7]) (results_ct (a := 7) Try.results24 _ rfl HB4.out Try.underlying35 rfl (by kernel_rfl)) rfl ⟨pool_is (hf.out.trans (by rw [HQ.out])) (nil_is _ _ _), HEND.out _ _ HBE.out HG4.out⟩
      | cons d ds' =>
        obtain ⟨ad, rfl, _, hc⟩ := hsr.out.int (k := 0) (by simp)
        have e0 : ad.add 0 = ad := rfl
        rw [e0] at hc
        simp only [List.getElem_cons_zero] at hc
        clear e0
        by_cases hd : d < 0 ∨ (zs'.length : Int) ≤ d
        · have HQ : Hid (pdel room ds zs = ([], 2)) := HGO.out.symm.trans (pdel_wrong room d ds' zs' hlt hd)
          have HD := Lib.hid hd
          clear hd
          by_cases hd1 : d < 0
          all_goals
            try have hd2 : (zs'.length : Int) ≤ d := by have := HD.out; omega
            go_wp2_with (first
              | (refine wpList_store_blk rfl _ _ _ rfl (w.heap.size + 1) (pcells 0 0 (.slice none 0 0)) rfl rfl 35 (pcells 0 0 (.slice none 0 0)) ?_ (by kernel_rfl) rfl (pcells_one _ _ _ _ _) ?_; exact HB1'.out; intro w4 hb4 hg4 hs4; have HS4 := Lib.hid hs4; have HB4 := Lib.hid hb4; have HG4 := Lib.hid hg4; clear hs4 hb4 hg4)
              | fail)
            refine bodyPost_ret (v := .tuple #[PoolV 0 0 (.slice none 0 0), .int .i64 2]) (results_ct (a := 7) Try.results24 _ rfl HB4.out Try.underlying35 rfl (by kernel_rfl)) rfl ⟨pool_is (hf.out.trans (by rw [HQ.out])) (nil_is _ _ _), HEND.out _ _ HBE.out HG4.out⟩
        · obtain ⟨m, rfl⟩ : ∃ m : Nat, d = m := ⟨d.toNat, by omega⟩
          have hm : m < zs'.length := by omega
          have HQ : Hid (pdel room ds' (zs'.eraseIdx m) = pdel room ds zs) := by have := HGO.out; rwa [pdel_go room m ds' zs' hlt hm] at this
          clear hd
          obtain ⟨g3, rfl, hg3⟩ := HO3.out.at_ (by omega)
          obtain ⟨hc1, hc2⟩ := HO3.out.cap
          have HC2 := Lib.hid hc2
          have hne : ¬ g3 = w.heap.size := by have := HLT.out; omega
          have hwr : IntKind.i64.wrap ((m : Int) + 1) = (m : Int) + 1 := IntWalk.i64_in _ (by omega)
          have HWR : Hid (IntKind.i64.wrap ((m : Int) + 1) = (m : Int) + 1) := hwr
          clear hwr hc2
          go_wp2_with fail
          have hwr := HWR.out
          have HEL : Hid ((zs'.eraseIdx m).length = zs'.length - 1) := List.length_eraseIdx_of_lt hm
          have HZ : Hid (∀ w5, wr.drew.grownBy w5 (some g3) → Below w.heap.size wr w5) := fun w5 h => (below_drewN (Below.refl _ wr) 1).grown h HBE.out.size (fun k hk => by injection hk with hk; have := HLT.out; omega)
          by_cases hq : q = 1
          · have hd0 : ds' = [] := List.length_eq_zero_iff.1 (by simp at hq1; omega)
            subst hd0
            subst hq
            go_region_with (go_at_call 55; refine (delete_at w1.heap.size g3 n3 zs' m wr.drew HO3.out hc1 HC2.out hm).mono ?_; rintro e w5 ⟨rfl, ho5, hg5⟩; have HO5 := Lib.hid ho5; have HG5 := Lib.hid hg5; have c2' := (HB0'.out.drew.grown hg5 (Ne.symm hne)).cell 2 (u := .slice (some ⟨g3, 0, none⟩) zs'.length n3) rfl; have f2' := (HB0'.out.drew.grown hg5 (Ne.symm hne)).frozen 2; clear ho5 hg5)
            all_goals
              go_wp2_with fail
              go_roundw
              case rel => (repeat apply Exists.intro); exact ⟨⟨[], zs'.eraseIdx m, some ad, 0, rfl, Nat.le_refl _, by omega, by rw [HEL.out]; omega, Seg.nil, some ⟨g3, 0, none⟩, n3, by rw [HEL.out]; exact HO5.out.far (by simp; have := HLT.out; omega) _, by rw [HEL.out]; exact (HB0'.out.drew.grown HG5.out (Ne.symm hne)).set_ 2 _, ((HB1'.out.drew.grown HG5.out (by have := HLT1.out; omega)).far (by simp) _), (HBE.out.trans (HZ.out _ HG5.out)).setCell (Nat.le_refl _) _, by have := HG5.out.size; simp at this ⊢; omega, HQ.out⟩, rfl⟩
              case measure => show 0 < 1; omega
          · go_region_with (go_at_call 55; refine (delete_at w1.heap.size g3 n3 zs' m wr.drew HO3.out hc1 HC2.out hm).mono ?_; rintro e w5 ⟨rfl, ho5, hg5⟩; have HO5 := Lib.hid ho5; have HG5 := Lib.hid hg5; have c2' := (HB0'.out.drew.grown hg5 (Ne.symm hne)).cell 2 (u := .slice (some ⟨g3, 0, none⟩) zs'.length n3) rfl; have f2' := (HB0'.out.drew.grown hg5 (Ne.symm hne)).frozen 2; clear ho5 hg5)
            all_goals
              go_wp2_with fail
              go_roundw
              case rel =>
                (repeat apply Exists.intro)
                exact ⟨⟨ds', zs'.eraseIdx m, some (ad.add 1), q - 1, rfl, by simp at hq1; omega, by omega, by rw [HEL.out]; omega, (((hsr.out.cut 1).below (HZ.out _ HG5.out)).setCell (Nat.le_refl _) _), some ⟨g3, 0, none⟩, n3, by rw [HEL.out]; exact HO5.out.far (by simp; have := HLT.out; omega) _, by rw [HEL.out]; exact (HB0'.out.drew.grown HG5.out (Ne.symm hne)).set_ 2 _, ((HB1'.out.drew.grown HG5.out (by have := HLT1.out; omega)).far (by simp) _), (HBE.out.trans (HZ.out _ HG5.out)).setCell (Nat.le_refl _) _, by have := HG5.out.size; simp at this ⊢; omega, HQ.out⟩, rfl⟩
              case measure => show ds'.length < ds'.length + 1; omega
    · have HQ : Hid (pdel room ds zs = (zs', 0)) := HGO.out.symm.trans (pdel_done room rest zs' (by omega))
      go_wp2_with (first
        | (refine wpList_load_blk rfl _ _ rfl w.heap.size rfl 35 (pcells room k (.slice A3 zs'.length n3)) _ HB0'.out Try.underlying35 rfl (by kernel_rfl) ?_)
        | (refine wpList_store_blk rfl _ _ _ rfl (w.heap.size + 1) (pcells room k (.slice A3 zs'.length n3)) rfl rfl 35 (pcells 0 0 (.slice none 0 0)) ?_ (by kernel_rfl) rfl (pcells_one _ _ _ _ _) ?_; exact HB1'.out; intro w4 hb4 hg4 hs4; have HS4 := Lib.hid hs4; have HB4 := Lib.hid hb4; have HG4 := Lib.hid hg4; clear hs4 hb4 hg4)
        | fail)
      refine bodyPost_ret (v := .tuple #[PoolV room k (.slice A3 zs'.length n3), .int .i64 0]) (results_ct (a := 7) Try.results24 _ rfl HB4.out Try.underlying35 rfl (by kernel_rfl)) rfl ⟨pool_is (hf.out.trans (by rw [HQ.out])) (own_is (HO3.out.grown HG4.out HLT1.out) rfl), HEND.out _ _ HBE.out HG4.out⟩
end Go.Proofs.Ytakjcodfcoaadab
