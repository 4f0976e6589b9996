/- The reference's FAll walked. No condition. -/
import Derived.Test.YtakjcodfcoaadabPoolH
namespace Go.Proofs.Ytakjcodfcoaadab
open Go.ChangeShapes Go.WideShapes Go.ChangeAt Go.RowKit

set_option maxRecDepth 20000 in
set_option maxHeartbeats 4000000 in
theorem fall_good (A C : Option Addr) (l ds : List Int) (room : Int) (c c' : Nat) (w : World) (hs : Seg w w.heap.size A (l.map (.int .i64))) (ht : Seg w w.heap.size C (ds.map (.int .i64))) (hm : l.length ≤ maxLen) (h1 : 1 ≤ room) (h2 : room ≤ 400) (hl : l.length = ds.length) :
    Calls Try.prog 23 #[.int .i64 room, .slice A l.length c, .slice C ds.length c'] w fun e w' => (∃ v, e = .returned (.tuple #[v, .int .i64 (pall room l ds).2]) ∧ PoolIs w' v (pall room l ds).1) ∧ Below w.heap.size w w' := by
  have HS := Lib.hid hs
  have HT := Lib.hid ht
  have HL := Lib.hid hl
  have hle : l.length ≤ ds.length := by omega
  have b0 : ((l.length : Int) != (ds.length : Int)) = false := by rw [hl]; simp
  have hf : Hid (pall room l ds = pgo (room, 0, []) l ds) := by unfold Hid pall; rw [if_pos ⟨h1, h2⟩, if_pos hl]
  have HEND : Hid (∀ (w1 w2 : World), Below w.heap.size w w1 → w1.grownBy w2 (some w.heap.size) → Below w.heap.size w w2) := fun w1 w2 h1 h2 => h1.grown h2 h1.size (by simp)
  unfold maxLen at hm
  clear hs ht hl
  go_enter Try.func23, Try.ntmps23
  go_wp2_with fail
  go_loopw [29] (fun i wr => ∃ (j : Nat) (p : Int × Int × List Int), j ≤ l.length ∧ i = .int .i64 j ∧ Hid (AInv w wr (w.heap.size + 1) l ds (pall room l ds) j p)) (fun i _ => l.length - (intOf i).toNat)
  case atStart => exact ⟨0, (room, 0, []), Nat.zero_le _, rfl, none, 0, by have := Blk.new (w.alloc (.cells (pcells 0 0 (.slice none 0 0)) 35)) 35 (pcells room 0 (.slice none 0 0)); simpa using this, TSeg.nil, (Blk.new w _ _).alloc _, ((Below.refl _ _).alloc (Nat.le_refl _) _).alloc (by simp) _, by omega, hf.out.symm⟩
  case round =>
    obtain ⟨j, p, hj, rfl, hinv⟩ := hrel
    by_cases hlt : j < l.length
    · have hlt2 : j < ds.length := by omega
      obtain ⟨A2, c2, b8, s8, r0, hbel, hg8, hgo⟩ := hinv.out
      obtain ⟨ad, rfl, _, hc⟩ := (HS.out.below hbel).int hlt
      obtain ⟨ae, rfl, _, hd⟩ := (HT.out.below hbel).int hlt2
      rw [pgo_step p l ds j hlt hlt2] at hgo
      have HGO := Lib.hid hgo
      have HB8 := Lib.hid b8
      have HS8 := Lib.hid s8
      have HR0 := Lib.hid r0
      have HBE := Lib.hid hbel
      have c80 := b8.cell 0 (u := .int .i64 p.1) rfl
      have c81 := b8.cell 1 (u := .int .i64 p.2.1) rfl
      have c82 := b8.cell 2 (u := .slice A2 p.2.2.length c2) rfl
      have i1 : (j : Int) < (ds.length : Int) := by omega
      have i2 : (j : Int) < (l.length : Int) := by omega
      clear hgo b8 s8 r0 hbel hinv
      generalize l[j] = x at *
      generalize ds[j] = d at *
      have hl8 := HB8.out.lt
      have hle2 := block_lt hd
      have hle3 := block_lt hc
      have hd2 : (wr.alloc (.cells #[.int .i64 0, .int .i64 0, .slice none 0 0] 35)).cell? (ae.add j) = some (.int .i64 d) := (World.cell?_alloc_lt _ _ _ hle2).trans hd
      go_upto_region 9 with (fail)
      go_cut [10, 11] (fun s12 s13 wx => ACut wr wx s12 s13 (padd p.1 p.2.1 p.2.2 x d))
      case first =>
        have HKEEP : Hid (∀ w', Below wr.heap.size wr w' → w'.cell? ⟨(w.heap.size + 1), 0, none⟩ = some (.int .i64 p.1) ∧ w'.cell? ⟨(w.heap.size + 1), 1, none⟩ = some (.int .i64 p.2.1) ∧ w'.cell? ⟨(w.heap.size + 1), 2, none⟩ = some (.slice A2 p.2.2.length c2) ∧ w'.cell? (ad.add j) = some (.int .i64 x) ∧ w'.cell? (ae.add j) = some (.int .i64 d) ∧ Below wr.heap.size wr w') := by
          intro w' h
          have k8 := HB8.out.below h hl8
          exact ⟨k8.cell 0 rfl, k8.cell 1 rfl, k8.cell 2 rfl, (h.cell hle3).trans hc, (h.cell hle2).trans hd, h⟩
        have HD : Hid (Below wr.heap.size wr wr.drew) := below_drewN (Below.refl _ _) 1
        have HSG : Hid (∀ W, Below wr.heap.size wr W → Seg W W.heap.size A2 (p.2.2.map (.int .i64))) := fun W h => (HS8.out.below h).1
        go_region_held3 (fun w' => w'.cell? ⟨(w.heap.size + 1), 0, none⟩ = some (.int .i64 p.1) ∧ w'.cell? ⟨(w.heap.size + 1), 1, none⟩ = some (.int .i64 p.2.1) ∧ w'.cell? ⟨(w.heap.size + 1), 2, none⟩ = some (.slice A2 p.2.2.length c2) ∧ w'.cell? (ad.add j) = some (.int .i64 x) ∧ w'.cell? (ae.add j) = some (.int .i64 d) ∧ Below wr.heap.size wr w')
          (first
            | exact HKEEP.out _ HD.out
            | (go_split_ands; refine HKEEP.out _ ?_; first
                | exact HX.out
                | exact bel_alloc HX.out _
                | exact bel_alloc (by assumption) _
                | (refine bel_set (bel_set (bel_set HX.out ?_ _ _) ?_ _ _) ?_ _ _ <;> exact Nat.le_refl _)))
          (first
            | (go_at_call 18; go_split_ands; refine (fadd_any A2 p.2.2 p.1 p.2.1 x d c2 _ (HSG.out _ (by assumption))).mono ?_; rintro e w2 ⟨⟨v2, rfl, ⟨A3, c3, rfl, s3⟩⟩, hb2⟩; have HX := Lib.hid (bel_go (w := wr) (by assumption) hb2); have HS3 := Lib.hid s3; (try (have zz := (Blk.new wr 35 #[.int .i64 0, .int .i64 0, .slice none 0 0]).drew.below hb2 (by simp); have HZ := Lib.hid zz; have z0 := zz.cell 0 (u := .int .i64 0) rfl; have z1 := zz.cell 1 (u := .int .i64 0) rfl; have z2 := zz.cell 2 (u := .slice none 0 0) rfl; have f0 := zz.frozen 0; have f1 := zz.frozen 1; have f2 := zz.frozen 2; clear zz)); clear s3 hb2))
        · go_wp2_with fail
          go_meet
          exact ⟨w2.heap.size, A3, c3, rfl, rfl, Blk.new _ _ _, HS3.out.alloc _, bel_alloc HX.out _, HX.out.size⟩
        · go_wp2_with fail
          go_meet
          exact ⟨wr.heap.size, A3, c3, rfl, rfl, ((HZ.out.set_ 0 _).set_ 1 _).set_ 2 _, (((HS3.out.far HZ.out (by decide) _ _).far (HZ.out.set_ 0 _) (by decide) _ _).far ((HZ.out.set_ 0 _).set_ 1 _) (by decide) _ _), bel_set (bel_set (bel_set HX.out (Nat.le_refl _) _ _) (Nat.le_refl _) _ _) (Nat.le_refl _) _ _, Nat.le_refl _⟩
      case rest =>
        obtain ⟨g, A3, c3, rfl, rfl, bq, sq, hbq, hgq⟩ := hcut
        have HQ8 := Lib.hid (HB8.out.below hbq hl8)
        have HQR := Lib.hid (HR0.out.below hbq HR0.out.lt)
        have HQE : Hid (Below w.heap.size w wc) := HBE.out.trans (hbq.mono HBE.out.size)
        have HQS := Lib.hid sq
        have HQB := Lib.hid bq
        have HGQ := Lib.hid hgq
        clear sq hbq hgq hle2 hle3 hd2 hc hd
        by_cases hq : (padd p.1 p.2.1 p.2.2 x d).2 = 0
        · have HQ : Hid (pgo (padd p.1 p.2.1 p.2.2 x d).1 (l.drop (j + 1)) (ds.drop (j + 1)) = pall room l ds) := by have := HGO.out; rwa [if_pos hq] at this
          rw [hq]
          generalize padd p.1 p.2.1 p.2.2 x d = q at *
          obtain ⟨⟨qr, qk, ql⟩, qe⟩ := q
          clear hq HGO
          dsimp only at *
          have b0 := bq.cell 0 (u := .int .i64 qr) rfl
          have b1 := bq.cell 1 (u := .int .i64 qk) rfl
          have b2 := bq.cell 2 (u := .slice A3 ql.length c3) rfl
          clear bq c80 c81 c82
          go_wp2_with (first
            | (refine wpList_store_blk rfl _ _ _ rfl (w.heap.size + 1) (pcells qr qk (.slice A3 ql.length c3)) rfl rfl 35 (pcells p.1 p.2.1 (.slice A2 p.2.2.length c2)) ?_ (by kernel_rfl) rfl (pcells_one _ _ _ _ _) ?_; exact HQ8.out; intro w4 hb4 hg4 hs4; have HS4 := Lib.hid hs4; have HB4 := Lib.hid hb4; have HG4 := Lib.hid hg4; clear hs4 hb4 hg4)
            | fail)
          go_roundw
          case rel =>
            exact ⟨j + 1, (qr, qk, ql), by omega, by go_num, A3, c3, HB4.out, HQS.out.grown HG4.out HQ8.out (by decide), HQR.out.grown HG4.out (by omega), HQE.out.grown HG4.out HQE.out.size (by first | omega | (simp; done) | (simp; omega)), by omega, HQ.out⟩
          case measure => simp [intOf]; omega
        · have HQ : Hid (pall room l ds = ((0, 0, []), (padd p.1 p.2.1 p.2.2 x d).2)) := by have := HGO.out; rw [if_neg hq] at this; exact this.symm
          have hqn : ((padd p.1 p.2.1 p.2.2 x d).2 != 0) = true := by simpa using hq
          have hqe := padd_err hq
          generalize padd p.1 p.2.1 p.2.2 x d = q at *
          obtain ⟨⟨qr, qk, ql⟩, qe⟩ := q
          simp only [Prod.mk.injEq] at hqe
          obtain ⟨⟨rfl, rfl, rfl⟩, _⟩ := hqe
          clear hq HGO
          dsimp only at *
          have b0 := bq.cell 0 (u := .int .i64 0) rfl
          have b1 := bq.cell 1 (u := .int .i64 0) rfl
          have b2 := bq.cell 2 (u := .slice A3 0 c3) rfl
          clear bq c80 c81 c82
          go_wp2_with (first
            | (refine wpList_store_blk rfl _ _ _ rfl w.heap.size (pcells 0 0 (.slice A3 0 c3)) rfl rfl 35 (pcells 0 0 (.slice none 0 0)) ?_ (by kernel_rfl) rfl (pcells_one _ _ _ _ _) ?_; exact HQR.out; intro w4 hb4 hg4 hs4; have HS4 := Lib.hid hs4; have HB4 := Lib.hid hb4; have HG4 := Lib.hid hg4; clear hs4 hb4 hg4)
            | fail)
          refine bodyPost_ret (v := .tuple #[PoolV 0 0 (.slice A3 0 c3), .int .i64 qe]) (results_ct (a := 7) Try.results23 _ rfl HB4.out Try.underlying35 rfl (by kernel_rfl)) rfl ⟨pool_is HQ.out ⟨A3, c3, rfl, TSeg.nil⟩, HEND.out _ _ HQE.out HG4.out⟩
    · obtain ⟨A2, c2, b8, s8, r0, hbel, hg8, hgo⟩ := hinv.out
      rw [pgo_end p l ds j (by omega)] at hgo
      obtain ⟨pr, pk, pl⟩ := p
      have HGO := Lib.hid hgo
      have HB8 := Lib.hid b8
      have HS8 := Lib.hid s8
      have HR0 := Lib.hid r0
      have HBE := Lib.hid hbel
      have c80 := b8.cell 0 (u := .int .i64 pr) rfl
      have c81 := b8.cell 1 (u := .int .i64 pk) rfl
      have c82 := b8.cell 2 (u := .slice A2 pl.length c2) rfl
      clear hgo b8 s8 r0 hbel hinv
      go_wp2_with (first
        | (refine wpList_store_blk rfl _ _ _ rfl w.heap.size (pcells pr pk (.slice A2 pl.length c2)) rfl rfl 35 (pcells 0 0 (.slice none 0 0)) ?_ (by kernel_rfl) rfl (pcells_one _ _ _ _ _) ?_; exact HR0.out; intro w4 hb4 hg4 hs4; have HS4 := Lib.hid hs4; have HB4 := Lib.hid hb4; have HG4 := Lib.hid hg4; clear hs4 hb4 hg4)
        | fail)
      refine bodyPost_ret (v := .tuple #[PoolV pr pk (.slice A2 pl.length c2), .int .i64 0]) (results_ct (a := 7) Try.results23 _ rfl HB4.out Try.underlying35 rfl (by kernel_rfl)) rfl ⟨pool_is HGO.out.symm ⟨A2, c2, rfl, HS8.out.grown HG4.out HR0.out (by decide)⟩, HEND.out _ _ HBE.out HG4.out⟩

set_option maxRecDepth 20000 in
set_option maxHeartbeats 2000000 in
theorem fall_bad (A C : Option Addr) (l ds : List Int) (room : Int) (c c' : Nat) (w : World) (h : ¬ (1 ≤ room ∧ room ≤ 400 ∧ l.length = ds.length)) :
    Calls Try.prog 23 #[.int .i64 room, .slice A l.length c, .slice C ds.length c'] w fun e w' => (∃ v, e = .returned (.tuple #[v, .int .i64 (pall room l ds).2]) ∧ PoolIs w' v (pall room l ds).1) ∧ Below w.heap.size w w' := by
  have HB0 : Hid (Below w.heap.size w (w.alloc (.cells (pcells 0 0 (.slice none 0 0)) 35))) := (Below.refl _ _).alloc (Nat.le_refl _) _
  by_cases hr : 1 ≤ room ∧ room ≤ 400
  · have hl : ¬ l.length = ds.length := fun e => h ⟨hr.1, hr.2, e⟩
    have hf : Hid (pall room l ds = ((0, 0, []), 1)) := by unfold Hid pall; rw [if_pos hr, if_neg hl]
    have b0 : ((l.length : Int) != (ds.length : Int)) = true := by simp; omega
    obtain ⟨r1, r2⟩ := hr
    clear h hl
    go_enter Try.func23, Try.ntmps23
    go_wp2
    refine bodyPost_ret (v := .tuple #[PoolV 0 0 (.slice none 0 0), .int .i64 1]) (results_ct (a := 7) Try.results23 _ rfl (Blk.new w _ _) Try.underlying35 rfl (by kernel_rfl)) rfl ⟨pool_is hf.out (nil_is _ _ _), HB0.out⟩
  · have hf : Hid (pall room l ds = ((0, 0, []), 2)) := by unfold Hid pall; rw [if_neg hr]
    by_cases h1 : room < 1
    all_goals
      try have h2 : 400 < room := by omega
      clear hr h
      go_enter Try.func23, Try.ntmps23
      go_wp2
      refine bodyPost_ret (v := .tuple #[PoolV 0 0 (.slice none 0 0), .int .i64 2]) (results_ct (a := 7) Try.results23 _ rfl (Blk.new w _ _) Try.underlying35 rfl (by kernel_rfl)) rfl ⟨pool_is hf.out (nil_is _ _ _), HB0.out⟩
end Go.Proofs.Ytakjcodfcoaadab
