/- pool.All walked. No condition. -/
import Derived.Test.YtakjcodfcoaadabPoolG
import Derived.Deep.DeepCutAuto
import Derived.Deep.RegionHeld3
namespace Go.Proofs.Ytakjcodfcoaadab
open Go.ChangeShapes Go.WideShapes Go.ChangeAt Go.RowKit

/-- All come, one behind the other. -/
def pgo (p : Int × Int × List Int) : List Int → List Int → (Int × Int × List Int) × Int
  | x :: l, d :: ds => if (padd p.1 p.2.1 p.2.2 x d).2 = 0 then pgo (padd p.1 p.2.1 p.2.2 x d).1 l ds else ((0, 0, []), (padd p.1 p.2.1 p.2.2 x d).2)
  | _, _ => (p, 0)
def pall (room : Int) (l ds : List Int) : (Int × Int × List Int) × Int :=
  if 1 ≤ room ∧ room ≤ 400 then (if l.length = ds.length then pgo (room, 0, []) l ds else ((0, 0, []), 1)) else ((0, 0, []), 2)
theorem pgo_step (p : Int × Int × List Int) (l ds : List Int) (j : Nat) (h1 : j < l.length) (h2 : j < ds.length) :
    pgo p (l.drop j) (ds.drop j) = if (padd p.1 p.2.1 p.2.2 l[j] ds[j]).2 = 0 then pgo (padd p.1 p.2.1 p.2.2 l[j] ds[j]).1 (l.drop (j + 1)) (ds.drop (j + 1)) else ((0, 0, []), (padd p.1 p.2.1 p.2.2 l[j] ds[j]).2) := by
  rw [List.drop_eq_getElem_cons h1, List.drop_eq_getElem_cons h2]; rfl
theorem pgo_end (p : Int × Int × List Int) (l ds : List Int) (j : Nat) (h1 : l.length ≤ j) : pgo p (l.drop j) (ds.drop j) = (p, 0) := by
  rw [List.drop_eq_nil_iff.2 h1]; cases ds.drop j <;> rfl
theorem padd_err {r k x d : Int} {zs : List Int} (h : (padd r k zs x d).2 ≠ 0) : padd r k zs x d = ((0, 0, []), (padd r k zs x d).2) := by
  unfold padd at h ⊢
  by_cases h0 : padde r k d zs.length = 0
  · rw [if_pos h0] at h; exact absurd rfl h
  · rw [if_neg h0]

/-- Where pool.All stands in its loop. -/
def AInv (w wr : World) (g8 : Nat) (l ds : List Int) (t : (Int × Int × List Int) × Int) (j : Nat) (p : Int × Int × List Int) : Prop :=
  ∃ A c, Blk wr g8 35 (pcells p.1 p.2.1 (.slice A p.2.2.length c)) ∧ TSeg wr 3 A (p.2.2.map (.int .i64)) ∧
    Blk wr w.heap.size 35 (pcells 0 0 (.slice none 0 0)) ∧ Below w.heap.size w wr ∧ w.heap.size < g8 ∧ pgo p (l.drop j) (ds.drop j) = t

theorem bel_alloc {w W : World} (h : Below w.heap.size w W) (o : Obj) : Below w.heap.size w (W.alloc o) := h.alloc h.size o
theorem bel_set {w W : World} (h : Below w.heap.size w W) {g : Nat} (hg : w.heap.size ≤ g) (i : Nat) (u : Value) : Below w.heap.size w (W.setCell ⟨g, i, none⟩ u) := h.setCell hg u
theorem TSeg.grown {w w' : World} {e t k : Nat} {A : Option Addr} {xs : List Value} {cs : Array Value} (h : TSeg w e A xs) (hb : w.grownBy w' (some k)) (hg : Blk w k t cs) (hne : t ≠ e) : TSeg w' e A xs := by
  by_cases h0 : 0 < xs.length
  · obtain ⟨ad, c, ha, hc⟩ := h.2 h0
    have hbl : ad.block ≠ k := by
      intro e1
      rw [e1] at hc
      unfold Blk at hg
      rw [hg] at hc
      injection hc with hc
      injection hc with _ h2 _
      exact hne h2
    obtain ⟨ad', ha', hlt, hcs⟩ := h.1 h0
    obtain rfl : ad = ad' := by rw [ha] at ha'; injection ha'
    have hbk : w'.heap[ad.block]? = w.heap[ad.block]? := hb.block _ hlt (by simpa using hbl)
    refine ⟨fun _ => ⟨ad, ha, by have := hb.size; omega, fun i v hk => ?_⟩, fun _ => ⟨ad, c, ha, hbk.trans hc⟩⟩
    exact (World.cell?_of_block (w := w) (a := ad.add i) (by rw [addr_block]; exact hbk)).trans (hcs i v hk)
  · have : xs = [] := List.eq_nil_of_length_eq_zero (by omega)
    subst this
    exact TSeg.nil
theorem bel_go {w W1 W2 : World} (h1 : Below w.heap.size w W1) (h2 : Below W1.heap.size W1 W2) : Below w.heap.size w W2 := h1.trans (h2.mono h1.size)
/-- What one more coming leaves: a new block g with the pool. -/
def ACut (w wx : World) (s12 s13 : Value) (q : (Int × Int × List Int) × Int) : Prop :=
  ∃ g A c, s12 = .pointer (some ⟨g, 0, none⟩) ∧ s13 = .int .i64 q.2 ∧ Blk wx g 35 (pcells q.1.1 q.1.2.1 (.slice A q.1.2.2.length c)) ∧ TSeg wx 3 A (q.1.2.2.map (.int .i64)) ∧
    Below w.heap.size w wx ∧ w.heap.size ≤ g

set_option maxRecDepth 20000 in
set_option maxHeartbeats 4000000 in
theorem all_good (A C : Option Addr) (l ds : List Int) (room : Int) (c c' : Nat) (w : World) (hs : Seg w w.heap.size A (l.map (.int .i64))) (ht : Seg w w.heap.size C (ds.map (.int .i64))) (hm : l.length ≤ maxLen) (h1 : 1 ≤ room) (h2 : room ≤ 400) (hl : l.length = ds.length) :
    Calls Try.prog 22 #[.int .i64 room, .slice A l.length c, .slice C ds.length c'] w fun e w' => (∃ v, e = .returned (.tuple #[v, .int .i64 (pall room l ds).2]) ∧ PoolIs w' v (pall room l ds).1) ∧ Below w.heap.size w w' := by
  have HS := Lib.hid hs
  have HT := Lib.hid ht
  have HL := Lib.hid hl
  have hle : l.length ≤ ds.length := by omega
  have b0 : ((l.length : Int) != (ds.length : Int)) = false := by rw [hl]; simp
  have hf : Hid (pall room l ds = pgo (room, 0, []) l ds) := by unfold Hid pall; rw [if_pos ⟨h1, h2⟩, if_pos hl]
  have hpn : Hid (pnew room = ((room, 0, []), 0)) := if_pos ⟨h1, h2⟩
  have HEND : Hid (∀ (w1 w2 : World), Below w.heap.size w w1 → w1.grownBy w2 (some w.heap.size) → Below w.heap.size w w2) := fun w1 w2 h1 h2 => h1.grown h2 h1.size (by simp)
  unfold maxLen at hm
  clear hs ht hl
  go_enter Try.func22, Try.ntmps22
  go_wp2_with fail
  refine (new_any room _).mono ?_
  rintro e w1 ⟨⟨v1, rfl, hp1⟩, hb1⟩
  rw [hpn.out] at hp1 ⊢
  have R0 : Hid (Blk w1 w.heap.size 35 (pcells 0 0 (.slice none 0 0))) := (Blk.new w _ _).below hb1 (by simp)
  have HE1 : Hid (Below w.heap.size w w1) := ((Below.refl _ _).alloc (Nat.le_refl _) _).trans (hb1.mono (by simp))
  have HP1 := Lib.hid hp1
  obtain ⟨A1, c1, rfl, s1⟩ := hp1
  have S1 := Lib.hid s1
  clear hb1 s1
  dsimp only
  go_wp2_with fail
  go_loopw [33] (fun i wr => ∃ (j : Nat) (p : Int × Int × List Int), j ≤ l.length ∧ i = .int .i64 j ∧ Hid (AInv w wr w1.heap.size l ds (pall room l ds) j p)) (fun i _ => l.length - (intOf i).toNat)
  case atStart => exact ⟨0, (room, 0, []), Nat.zero_le _, rfl, A1, c1, Blk.new _ _ _, S1.out.alloc _, R0.out.alloc _, HE1.out.alloc HE1.out.size _, R0.out.lt, hf.out.symm⟩
  case round =>
    obtain ⟨j, p, hj, rfl, hinv⟩ := hrel
    by_cases hlt : j < l.length
    · have hlt2 : j < ds.length := by omega
      obtain ⟨A2, c2, b8, s8, r0, hbel, hg8, hgo⟩ := hinv.out
      obtain ⟨ad, rfl, _, hc⟩ := (HS.out.below hbel).int hlt
      obtain ⟨ae, rfl, _, hd⟩ := (HT.out.below hbel).int hlt2
      rw [pgo_step p l ds j hlt hlt2] at hgo
      have HGO := Lib.hid hgo
      have HB8 := Lib.hid b8
      have HS8 := Lib.hid s8
      have HR0 := Lib.hid r0
      have HBE := Lib.hid hbel
      have c80 := b8.cell 0 (u := .int .i64 p.1) rfl
      have c81 := b8.cell 1 (u := .int .i64 p.2.1) rfl
      have c82 := b8.cell 2 (u := .slice A2 p.2.2.length c2) rfl
      have i1 : (j : Int) < (ds.length : Int) := by omega
      clear hgo b8 s8 r0 hbel hinv
      generalize l[j] = x at *
      generalize ds[j] = d at *
      have hl8 := HB8.out.lt
      have hle2 := block_lt hd
      have hd2 : (wr.alloc (.cells #[.int .i64 0, .int .i64 0, .slice none 0 0] 35)).cell? (ae.add j) = some (.int .i64 d) := (World.cell?_alloc_lt _ _ _ hle2).trans hd
      go_upto_region 9 with (fail)
      go_cut [12, 13] (fun s12 s13 wx => ACut wr wx s12 s13 (padd p.1 p.2.1 p.2.2 x d))
      case first =>
        have HKEEP : Hid (∀ w', Below wr.heap.size wr w' → w'.cell? ⟨w1.heap.size, 0, none⟩ = some (.int .i64 p.1) ∧ w'.cell? ⟨w1.heap.size, 1, none⟩ = some (.int .i64 p.2.1) ∧ w'.cell? ⟨w1.heap.size, 2, none⟩ = some (.slice A2 p.2.2.length c2) ∧ w'.cell? (ae.add j) = some (.int .i64 d) ∧ Below wr.heap.size wr w') := by
          intro w' h
          have k8 := HB8.out.below h hl8
          exact ⟨k8.cell 0 rfl, k8.cell 1 rfl, k8.cell 2 rfl, (h.cell hle2).trans hd, h⟩
        have HD : Hid (Below wr.heap.size wr wr.drew) := below_drewN (Below.refl _ _) 1
        have HSG : Hid (∀ W, Below wr.heap.size wr W → Seg W W.heap.size A2 (p.2.2.map (.int .i64))) := fun W h => (HS8.out.below h).1
        go_region_held3 (fun w' => w'.cell? ⟨w1.heap.size, 0, none⟩ = some (.int .i64 p.1) ∧ w'.cell? ⟨w1.heap.size, 1, none⟩ = some (.int .i64 p.2.1) ∧ w'.cell? ⟨w1.heap.size, 2, none⟩ = some (.slice A2 p.2.2.length c2) ∧ w'.cell? (ae.add j) = some (.int .i64 d) ∧ Below wr.heap.size wr w')
          (first
            | exact HKEEP.out _ HD.out
            | (go_split_ands; refine HKEEP.out _ ?_; first
                | exact HX.out
                | exact bel_alloc HX.out _
                | exact bel_alloc (by assumption) _
                | (refine bel_set (bel_set (bel_set HX.out ?_ _ _) ?_ _ _) ?_ _ _ <;> exact Nat.le_refl _)))
          (first
            | (go_at_call 17; go_split_ands; refine (add_any A2 p.2.2 p.1 p.2.1 x d c2 _ (HSG.out _ (by assumption))).mono ?_; rintro e w2 ⟨⟨v2, rfl, ⟨A3, c3, rfl, s3⟩⟩, hb2⟩; have HX := Lib.hid (bel_go (w := wr) (by assumption) hb2); have HS3 := Lib.hid s3; (try (have zz := (Blk.new wr 35 #[.int .i64 0, .int .i64 0, .slice none 0 0]).drew.below hb2 (by simp); have HZ := Lib.hid zz; have z0 := zz.cell 0 (u := .int .i64 0) rfl; have z1 := zz.cell 1 (u := .int .i64 0) rfl; have z2 := zz.cell 2 (u := .slice none 0 0) rfl; have f0 := zz.frozen 0; have f1 := zz.frozen 1; have f2 := zz.frozen 2; clear zz)); clear s3 hb2))
        · go_wp2_with fail
          go_meet
          exact ⟨w2.heap.size, A3, c3, rfl, rfl, Blk.new _ _ _, HS3.out.alloc _, bel_alloc HX.out _, HX.out.size⟩
        · go_wp2_with fail
          go_meet
          exact ⟨wr.heap.size, A3, c3, rfl, rfl, ((HZ.out.set_ 0 _).set_ 1 _).set_ 2 _, (((HS3.out.far HZ.out (by decide) _ _).far (HZ.out.set_ 0 _) (by decide) _ _).far ((HZ.out.set_ 0 _).set_ 1 _) (by decide) _ _), bel_set (bel_set (bel_set HX.out (Nat.le_refl _) _ _) (Nat.le_refl _) _ _) (Nat.le_refl _) _ _, Nat.le_refl _⟩
      case rest =>
        obtain ⟨g, A3, c3, rfl, rfl, bq, sq, hbq, hgq⟩ := hcut
        have HQ8 := Lib.hid (HB8.out.below hbq hl8)
        have HQR := Lib.hid (HR0.out.below hbq HR0.out.lt)
        have HQE : Hid (Below w.heap.size w wc) := HBE.out.trans (hbq.mono HBE.out.size)
        have HQS := Lib.hid sq
        have HQB := Lib.hid bq
        have HGQ := Lib.hid hgq
        clear sq hbq hgq hle2 hd2 hc hd
        by_cases hq : (padd p.1 p.2.1 p.2.2 x d).2 = 0
        · have HQ : Hid (pgo (padd p.1 p.2.1 p.2.2 x d).1 (l.drop (j + 1)) (ds.drop (j + 1)) = pall room l ds) := by have := HGO.out; rwa [if_pos hq] at this
          rw [hq]
          generalize padd p.1 p.2.1 p.2.2 x d = q at *
          obtain ⟨⟨qr, qk, ql⟩, qe⟩ := q
          clear hq HGO
          dsimp only at *
          have b0 := bq.cell 0 (u := .int .i64 qr) rfl
          have b1 := bq.cell 1 (u := .int .i64 qk) rfl
          have b2 := bq.cell 2 (u := .slice A3 ql.length c3) rfl
          clear bq c80 c81 c82
          go_wp2_with (first
            | (refine wpList_store_blk rfl _ _ _ rfl w1.heap.size (pcells qr qk (.slice A3 ql.length c3)) rfl rfl 35 (pcells p.1 p.2.1 (.slice A2 p.2.2.length c2)) ?_ (by kernel_rfl) rfl (pcells_one _ _ _ _ _) ?_; exact HQ8.out; intro w4 hb4 hg4 hs4; have HS4 := Lib.hid hs4; have HB4 := Lib.hid hb4; have HG4 := Lib.hid hg4; clear hs4 hb4 hg4)
            | fail)
          go_roundw
          case rel =>
            exact ⟨j + 1, (qr, qk, ql), by omega, by go_num, A3, c3, HB4.out, HQS.out.grown HG4.out HQ8.out (by decide), HQR.out.grown HG4.out (by omega), HQE.out.grown HG4.out HQE.out.size (by simp; omega), by omega, HQ.out⟩
          case measure => simp [intOf]; omega
        · have HQ : Hid (pall room l ds = ((0, 0, []), (padd p.1 p.2.1 p.2.2 x d).2)) := by have := HGO.out; rw [if_neg hq] at this; exact this.symm
          have hqn : ((padd p.1 p.2.1 p.2.2 x d).2 != 0) = true := by simpa using hq
          generalize padd p.1 p.2.1 p.2.2 x d = q at *
          obtain ⟨⟨qr, qk, ql⟩, qe⟩ := q
          clear hq HGO
          dsimp only at *
          clear bq c80 c81 c82
          go_wp2_with (first
            | (refine wpList_store_blk rfl _ _ _ rfl w.heap.size (pcells 0 0 (.slice none 0 0)) rfl rfl 35 (pcells 0 0 (.slice none 0 0)) ?_ (by kernel_rfl) rfl (pcells_one _ _ _ _ _) ?_; exact HQR.out; intro w4 hb4 hg4 hs4; have HS4 := Lib.hid hs4; have HB4 := Lib.hid hb4; have HG4 := Lib.hid hg4; clear hs4 hb4 hg4)
            | fail)
          refine bodyPost_ret (v := .tuple #[PoolV 0 0 (.slice none 0 0), .int .i64 qe]) (results_ct (a := 7) Try.results22 _ rfl HB4.out Try.underlying35 rfl (by kernel_rfl)) rfl ⟨pool_is HQ.out (nil_is _ _ _), HEND.out _ _ HQE.out HG4.out⟩
    · obtain ⟨A2, c2, b8, s8, r0, hbel, hg8, hgo⟩ := hinv.out
      rw [pgo_end p l ds j (by omega)] at hgo
      obtain ⟨pr, pk, pl⟩ := p
      have HGO := Lib.hid hgo
      have HB8 := Lib.hid b8
      have HS8 := Lib.hid s8
      have HR0 := Lib.hid r0
      have HBE := Lib.hid hbel
      have c80 := b8.cell 0 (u := .int .i64 pr) rfl
      have c81 := b8.cell 1 (u := .int .i64 pk) rfl
      have c82 := b8.cell 2 (u := .slice A2 pl.length c2) rfl
      clear hgo b8 s8 r0 hbel hinv
      go_wp2_with (first
        | (refine wpList_store_blk rfl _ _ _ rfl w.heap.size (pcells pr pk (.slice A2 pl.length c2)) rfl rfl 35 (pcells 0 0 (.slice none 0 0)) ?_ (by kernel_rfl) rfl (pcells_one _ _ _ _ _) ?_; exact HR0.out; intro w4 hb4 hg4 hs4; have HS4 := Lib.hid hs4; have HB4 := Lib.hid hb4; have HG4 := Lib.hid hg4; clear hs4 hb4 hg4)
        | fail)
      refine bodyPost_ret (v := .tuple #[PoolV pr pk (.slice A2 pl.length c2), .int .i64 0]) (results_ct (a := 7) Try.results22 _ rfl HB4.out Try.underlying35 rfl (by kernel_rfl)) rfl ⟨pool_is HGO.out.symm ⟨A2, c2, rfl, HS8.out.grown HG4.out HR0.out (by decide)⟩, HEND.out _ _ HBE.out HG4.out⟩

set_option maxRecDepth 20000 in
set_option maxHeartbeats 2000000 in
theorem all_bad (A C : Option Addr) (l ds : List Int) (room : Int) (c c' : Nat) (w : World) (h : ¬ (1 ≤ room ∧ room ≤ 400 ∧ l.length = ds.length)) :
    Calls Try.prog 22 #[.int .i64 room, .slice A l.length c, .slice C ds.length c'] w fun e w' => (∃ v, e = .returned (.tuple #[v, .int .i64 (pall room l ds).2]) ∧ PoolIs w' v (pall room l ds).1) ∧ Below w.heap.size w w' := by
  have HEND : Hid (∀ (w1 w2 : World), Below w.heap.size w w1 → w1.grownBy w2 (some w.heap.size) → Below w.heap.size w w2) := fun w1 w2 h1 h2 => h1.grown h2 h1.size (by simp)
  by_cases hr : 1 ≤ room ∧ room ≤ 400
  · have hl : ¬ l.length = ds.length := fun e => h ⟨hr.1, hr.2, e⟩
    have hpn : Hid (pnew room = ((room, 0, []), 0)) := if_pos hr
    have hf : Hid (pall room l ds = ((0, 0, []), 1)) := by unfold Hid pall; rw [if_pos hr, if_neg hl]
    have b0 : ((l.length : Int) != (ds.length : Int)) = true := by simp; omega
    clear hr h hl
    go_enter Try.func22, Try.ntmps22
    go_wp2_with fail
    refine (new_any room _).mono ?_
    rintro e w1 ⟨⟨v1, rfl, hp1⟩, hb1⟩
    rw [hpn.out] at hp1 ⊢
    have R0 : Hid (Blk w1 w.heap.size 35 (pcells 0 0 (.slice none 0 0))) := (Blk.new w _ _).below hb1 (by simp)
    have HE1 : Hid (Below w.heap.size w w1) := ((Below.refl _ _).alloc (Nat.le_refl _) _).trans (hb1.mono (by simp))
    obtain ⟨A1, c1, rfl, s1⟩ := hp1
    clear hb1 s1
    dsimp only
    go_wp2_with (first
      | (refine wpList_store_blk rfl _ _ _ rfl w.heap.size (pcells 0 0 (.slice none 0 0)) rfl rfl 35 (pcells 0 0 (.slice none 0 0)) ?_ (by kernel_rfl) rfl (pcells_one _ _ _ _ _) ?_; exact R0.out.alloc _; intro w4 hb4 hg4 hs4; have HS4 := Lib.hid hs4; have HB4 := Lib.hid hb4; have HG4 := Lib.hid hg4; clear hs4 hb4 hg4)
      | fail)
    refine bodyPost_ret (v := .tuple #[PoolV 0 0 (.slice none 0 0), .int .i64 1]) (results_ct (a := 7) Try.results22 _ rfl HB4.out Try.underlying35 rfl (by kernel_rfl)) rfl ⟨pool_is hf.out (nil_is _ _ _), HEND.out _ _ (HE1.out.alloc HE1.out.size _) HG4.out⟩
  · have hpn : Hid (pnew room = ((0, 0, []), 2)) := if_neg hr
    have hf : Hid (pall room l ds = ((0, 0, []), 2)) := by unfold Hid pall; rw [if_neg hr]
    clear hr h
    go_enter Try.func22, Try.ntmps22
    go_wp2_with fail
    refine (new_any room _).mono ?_
    rintro e w1 ⟨⟨v1, rfl, hp1⟩, hb1⟩
    rw [hpn.out] at hp1 ⊢
    have R0 : Hid (Blk w1 w.heap.size 35 (pcells 0 0 (.slice none 0 0))) := (Blk.new w _ _).below hb1 (by simp)
    have HE1 : Hid (Below w.heap.size w w1) := ((Below.refl _ _).alloc (Nat.le_refl _) _).trans (hb1.mono (by simp))
    obtain ⟨A1, c1, rfl, s1⟩ := hp1
    clear hb1 s1
    dsimp only
    go_wp2_with (first
      | (refine wpList_store_blk rfl _ _ _ rfl w.heap.size (pcells 0 0 (.slice none 0 0)) rfl rfl 35 (pcells 0 0 (.slice none 0 0)) ?_ (by kernel_rfl) rfl (pcells_one _ _ _ _ _) ?_; exact R0.out.alloc _; intro w4 hb4 hg4 hs4; have HS4 := Lib.hid hs4; have HB4 := Lib.hid hb4; have HG4 := Lib.hid hg4; clear hs4 hb4 hg4)
      | fail)
    refine bodyPost_ret (v := .tuple #[PoolV 0 0 (.slice none 0 0), .int .i64 2]) (results_ct (a := 7) Try.results22 _ rfl HB4.out Try.underlying35 rfl (by kernel_rfl)) rfl ⟨pool_is hf.out (nil_is _ _ _), HEND.out _ _ (HE1.out.alloc HE1.out.size _) HG4.out⟩
end Go.Proofs.Ytakjcodfcoaadab
