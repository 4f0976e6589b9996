/- Pools joined: join.Pools where it draws, walked. Printed by joigen4.py. No condition. -/
import Derived.Test.YtmnjgoicppknjaaJoiK
import Derived.Test.YtmnjgoicppknjaaCloneI
import Derived.Deep.DeepCutAuto
import Derived.Deep.RegionHeld3
import Derived.IntWalk
namespace Go.Proofs.Ytmnjgoicppknjaa
open Go.ChangeShapes Go.WideShapes Go.ChangeAt Go.RowKit
set_option linter.unusedVariables false

/-- What the two clones and the box that holds them leave. -/
structure JClone (w4 wx : World) (gH : Nat) (A0 A1 : Option Addr) (za zb : List Int) (c0 c1 : Nat) : Prop where
  ph : Blk wx gH 139 #[.slice A0 za.length c0, .slice A1 zb.length c1]
  o0 : Own wx w4.heap.size 3 (.slice A0 za.length c0) (za.map (.int .i64))
  o1 : Own wx w4.heap.size 3 (.slice A1 zb.length c1) (zb.map (.int .i64))
  b0 : ∀ ad, A0 = some ad → ad.block < wx.heap.size ∧ ad.block ≠ gH
  b1 : ∀ ad, A1 = some ad → ad.block < wx.heap.size ∧ ad.block ≠ gH
  sp : ∀ ad ae, A0 = some ad → A1 = some ae → ad.block ≠ ae.block
  be : Below w4.heap.size w4 wx
  gh : w4.heap.size ≤ gH ∧ gH < wx.heap.size
structure JTwo (w4 u : World) (A0 A1 : Option Addr) (za zb : List Int) (c0 c1 : Nat) : Prop where
  o0 : Own u w4.heap.size 3 (.slice A0 za.length c0) (za.map (.int .i64))
  o1 : Own u w4.heap.size 3 (.slice A1 zb.length c1) (zb.map (.int .i64))
  sp : ∀ ad ae, A0 = some ad → A1 = some ae → ad.block ≠ ae.block
  be : Below w4.heap.size w4 u
section
variable {w4 u1 p u2 : World} {A0 A1 : Option Addr} {za zb : List Int} {c0 c1 b1 g : Nat}
theorem jlow {w : World} {base base' : Nat} {e : TypeId} {v : Value} {xs : List Value} (h : Own w base e v xs) (hb : base' ≤ base) : Own w base' e v xs := by
  obtain ⟨h1, h2⟩ := h
  refine ⟨h1, ?_⟩
  rcases h2 with h2 | ⟨g, cap, cur, e1, hg, r⟩
  · exact .inl h2
  · exact .inr ⟨g, cap, cur, e1, by omega, r⟩
theorem JTwo.ab (hx : Below w4.heap.size w4 u1) (v1 : Own u1 b1 3 (.slice A0 za.length c0) (za.map (.int .i64))) (h1 : w4.heap.size ≤ b1) (hp : Below u1.heap.size u1 p) (v2 : Own u2 p.heap.size 3 (.slice A1 zb.length c1) (zb.map (.int .i64))) (hb : Below p.heap.size p u2) : JTwo w4 u2 A0 A1 za zb c0 c1 where
  o0 := jlow (v1.below (hp.trans (hb.mono hp.size)) (Nat.le_refl _)) h1
  o1 := jlow v2 (Nat.le_trans hx.size hp.size)
  sp := fun ad ae e1 e2 => by
    subst e1 e2
    have q1 := v1.lt _ rfl
    have q2 := v2.block _ rfl
    have q3 := hp.size
    omega
  be := (hx.trans (hp.mono hx.size)).trans (hb.mono (Nat.le_trans hx.size hp.size))
theorem JTwo.ba (hx : Below w4.heap.size w4 u1) (v1 : Own u1 b1 3 (.slice A1 zb.length c1) (zb.map (.int .i64))) (h1 : w4.heap.size ≤ b1) (hp : Below u1.heap.size u1 p) (v2 : Own u2 p.heap.size 3 (.slice A0 za.length c0) (za.map (.int .i64))) (hb : Below p.heap.size p u2) : JTwo w4 u2 A0 A1 za zb c0 c1 :=
  have h := JTwo.ab (A0 := A1) (A1 := A0) (za := zb) (zb := za) (c0 := c1) (c1 := c0) hx v1 h1 hp v2 hb
  ⟨h.o1, h.o0, fun ad ae e1 e2 => Ne.symm (h.sp ae ad e2 e1), h.be⟩
theorem JClone.last (h : JTwo w4 u2 A0 A1 za zb c0 c1) : JClone w4 (u2.alloc (.cells #[.slice A0 za.length c0, .slice A1 zb.length c1] 139)) u2.heap.size A0 A1 za zb c0 c1 where
  ph := Blk.new _ _ _
  o0 := h.o0.alloc' _
  o1 := h.o1.alloc' _
  b0 := fun ad e => by subst e; have := h.o0.lt _ rfl; simp; omega
  b1 := fun ad e => by subst e; have := h.o1.lt _ rfl; simp; omega
  sp := h.sp
  be := h.be.alloc h.be.size _
  gh := ⟨h.be.size, by simp⟩
theorem JClone.mid (hz : Blk u2 g 139 #[.slice none 0 0, .slice none 0 0]) (h : JTwo w4 u2 A0 A1 za zb c0 c1) (hg : w4.heap.size ≤ g) (n0 : ∀ ad, A0 = some ad → ad.block ≠ g) (n1 : ∀ ad, A1 = some ad → ad.block ≠ g) :
    JClone w4 ((u2.setCell ⟨g, 0, none⟩ (.slice A0 za.length c0)).setCell ⟨g, 1, none⟩ (.slice A1 zb.length c1)) g A0 A1 za zb c0 c1 where
  ph := (hz.set_ 0 _).set_ 1 _
  o0 := (h.o0.keepRow (jset_grown u2 g 0 _) (fun y hy => by obtain ⟨ad, e, rfl⟩ := own_ad (w := u2) (base := 0) (e := 0) (xs := []) hy; exact n0 ad e)).keepRow (jset_grown _ g 1 _) (fun y hy => by obtain ⟨ad, e, rfl⟩ := own_ad (w := u2) (base := 0) (e := 0) (xs := []) hy; exact n0 ad e)
  o1 := (h.o1.keepRow (jset_grown u2 g 0 _) (fun y hy => by obtain ⟨ad, e, rfl⟩ := own_ad (w := u2) (base := 0) (e := 0) (xs := []) hy; exact n1 ad e)).keepRow (jset_grown _ g 1 _) (fun y hy => by obtain ⟨ad, e, rfl⟩ := own_ad (w := u2) (base := 0) (e := 0) (xs := []) hy; exact n1 ad e)
  b0 := fun ad e => by have q := n0 ad e; subst e; have := h.o0.lt _ rfl; simp at *; omega
  b1 := fun ad e => by have q := n1 ad e; subst e; have := h.o1.lt _ rfl; simp at *; omega
  sp := h.sp
  be := (h.be.setCell hg _).setCell hg _
  gh := ⟨hg, by have := hz.lt; simp; omega⟩
end
theorem PInv.begin {ra ka kb : Int} {za zb : List Int} {w w2 w3 w4 wx : World} {gH c0 c1 : Nat} {A0 A1 : Option Addr} (HR : Blk w4 (w.heap.size + 2) 24 (pcells 0 0 (.slice none 0 0))) (HO : Blk w4 w2.heap.size 24 (pcells ra (ka + kb) (.slice none 0 0)))
    (HL : Blk w4 w3.heap.size 137 #[.int .i64 ka, .int .i64 kb]) (h : JClone w4 wx gH A0 A1 za zb c0 c1) (hb : Below w.heap.size w w4) (z2 : w.heap.size + 2 < w2.heap.size) (z3 : w2.heap.size < w3.heap.size) (z4 : w4.heap.size = w3.heap.size + 1) (hk : 0 ≤ ka ∧ 0 ≤ kb ∧ ka + kb ≤ 1099511627776) :
    PInv ra ka kb za zb w w2.heap.size w3.heap.size gH w4.heap.size wx.heap.size wx 0 (JS.start ka kb) A0 c0 A1 c1 za zb := by
  have e0 : leftL za (JS.start ka kb).A za.length = za := by show leftL za (fun _ => false) _ = _; rw [leftL_all _ _ (Nat.le_refl _), List.take_length]
  have e1 : leftL zb (JS.start ka kb).B zb.length = zb := by show leftL zb (fun _ => false) _ = _; rw [leftL_all _ _ (Nat.le_refl _), List.take_length]
  have hg := h.gh
  have hs := h.be.size
  exact ⟨e0.symm, e1.symm, HR.below h.be HR.lt, ⟨none, 0, HO.below h.be HO.lt, Own.none_⟩, HL.below h.be HL.lt, h.ph, h.o0, h.o1, h.b0, h.b1, h.sp, ⟨z2, z3, by omega, hs, hg.2, by omega⟩, hb.trans (h.be.mono hb.size), Nat.le_refl _, ⟨hk.1, hk.2.1, hk.2.2, Nat.le_refl _⟩⟩
theorem jb_go {w u v : World} (h : Below w.heap.size w u) (hb : Below u.heap.size u v) : Below w.heap.size w v := h.trans (hb.mono h.size)
theorem jb_alloc {w u : World} (h : Below w.heap.size w u) (o : Obj) : Below w.heap.size w (u.alloc o) := h.alloc h.size o
theorem jb_set {w u : World} {p : Addr} (h : Below w.heap.size w u) (hp : w.heap.size ≤ p.block) (u1 : Value) : Below w.heap.size w (u.setCell p u1) := h.setCell hp u1
theorem jshape {w : World} {base : Nat} {v : Value} {zs : List Int} (h : Own w base 3 v (zs.map (.int .i64))) : ∃ A c, v = .slice A zs.length c ∧ Own w base 3 (.slice A zs.length c) (zs.map (.int .i64)) := by
  obtain ⟨A, c, e, _, h1⟩ := h.res2
  rw [List.length_map] at e h1
  exact ⟨A, c, e, h1⟩
theorem jdel (base g c : Nat) (zs : List Int) (m : Nat) (w : World) (h : Own w base 3 (.slice (some ⟨g, 0, none⟩) zs.length c) (zs.map (.int .i64))) (hm : m < zs.length) :
    Calls Try.prog 124 #[.slice (some ⟨g, 0, none⟩) zs.length c, .int .i64 m, .int .i64 ((m : Int) + 1)] w fun e w' => ∃ n, e = .returned (.slice (some ⟨g, 0, none⟩) n c) ∧ n = (zs.eraseIdx m).length ∧
      Own w' base 3 (.slice (some ⟨g, 0, none⟩) n c) ((zs.eraseIdx m).map (.int .i64)) ∧ w.grownBy w' (some g) := by
  have e : ((m + 1 : Nat) : Int) = (m : Int) + 1 := by omega
  rw [← e]
  refine (delete_own base g c zs m w h (jown_cap h).1 (jown_cap h).2 hm).mono ?_
  rintro e w' ⟨rfl, h1, h2⟩
  exact ⟨_, rfl, by rw [List.length_eraseIdx, if_pos hm], h1, h2⟩
set_option maxRecDepth 20000 in
set_option maxHeartbeats 4000000 in
theorem jp_good (A C E F : Option Addr) (ra ka rb kb : Int) (za zb ds ws : List Int) (ca cb ce cf : Nat) (w : World) (ha : Seg w w.heap.size A (za.map (.int .i64))) (hc : Seg w w.heap.size C (zb.map (.int .i64))) (hd : Seg w w.heap.size E (ds.map (.int .i64))) (hw0 : Seg w w.heap.size F (ws.map (.int .i64))) (hwx : ∀ i, -9223372036854775808 ≤ pat ws i ∧ pat ws i ≤ 9223372036854775807) (h : fright ra ka za.length) (h2 : fright rb kb zb.length) (h3 : ra = rb) (h4 : ¬ 1099511627776 < ka + kb) (h5 : ¬ (ds.length : Int) < min ra (ka + kb)) (h6 : ¬ (ws.length : Int) < min ra (ka + kb)) :
    Calls Try.prog 15 #[PoolV ra ka (.slice A za.length ca), PoolV rb kb (.slice C zb.length cb), .slice E ds.length ce, .slice F ws.length cf] w fun e w' => (∃ v, e = .returned (.tuple #[v, .int .i64 (jpR ra ka za rb kb zb ds ws).2]) ∧ PoolIs w' v (jpR ra ka za rb kb zb ds ws).1) ∧ Below w.heap.size w w' := by
  have HWX : Hid (∀ i, -9223372036854775808 ≤ pat ws i ∧ pat ws i ≤ 9223372036854775807) := hwx
  have HSA := Lib.hid ha
  have HSC := Lib.hid hc
  have HSD := Lib.hid hd
  have HSW := Lib.hid hw0
  have hfa : decide (fright ra ka za.length) = true := decide_eq_true h
  have hfb : decide (fright rb kb zb.length) = true := decide_eq_true h2
  have hne : (ra != rb) = false := by simpa using h3
  have hw : wrap64 (1099511627776 - kb) = 1099511627776 - kb := by unfold fright at h2; unfold wrap64; omega
  have hw2 : wrap64 (ka + kb) = ka + kb := by unfold fright at h h2; unfold wrap64; omega
  have hgt : ¬ 1099511627776 - kb < ka := by omega
  obtain ⟨X, hX⟩ : ∃ X, (if ka + kb < ra then ka + kb else ra) = X := ⟨_, rfl⟩
  have hXm : min ra (ka + kb) = X := by rw [← hX]; split <;> omega
  rw [hXm] at h5 h6
  have HT : Hid (jpR ra ka za rb kb zb ds ws = match JS.run za zb ds ws X.toNat 0 (JS.start ka kb) with | none => ((0, 0, []), 2) | some o => ((ra, ka + kb, o), 0)) := by
    have hj : jpe ra ka za.length rb kb zb.length ds.length ws.length = 0 := by
      unfold jpe; rw [if_pos ⟨h, h2, h3⟩, if_neg h4, hXm, if_neg (by omega)]
    unfold jpR Hid; rw [if_pos hj, hXm]
    cases JS.run za zb ds ws X.toNat 0 (JS.start ka kb) <;> rfl
  have HQ0 : Hid (za.length ≤ 400 ∧ zb.length ≤ 400 ∧ 0 ≤ ka ∧ 0 ≤ kb ∧ ka + kb ≤ 1099511627776 ∧ X ≤ 400 ∧ 0 ≤ X) := by
    unfold fright at h h2; unfold Hid; omega
  clear h3 h h2 h4 ha hc hd hw0 hwx
  go_enter Try.func15, Try.ntmps15
  go_wp2_with fail
  refine (right_any A ra ka _ ca _).mono ?_
  rintro e w1 ⟨rfl, hb1⟩
  rw [hfa]
  obtain ⟨BA, BB, BR, hbw⟩ := three_blocks (by simpa using hb1)
  have HA := Lib.hid BA
  have HBB := Lib.hid BB
  have HR := Lib.hid BR
  have HB := Lib.hid hbw
  clear BA BB BR hbw hb1
  have e0 := HBB.out.cell 0 rfl
  have e1 := HBB.out.cell 1 rfl
  have e2 := HBB.out.cell 2 rfl
  go_wp2_with fail
  clear e0 e1 e2
  refine (right_any C rb kb _ cb _).mono ?_
  rintro e w2 ⟨rfl, hb2⟩
  rw [hfb]
  replace HA := Lib.hid (HA.out.below hb2 HA.out.lt)
  replace HBB := Lib.hid (HBB.out.below hb2 HBB.out.lt)
  replace HR := Lib.hid (HR.out.below hb2 HR.out.lt)
  replace HB : Hid (Below w.heap.size w w2) := HB.out.trans (hb2.mono HB.out.size)
  clear hb2
  have c0 := HA.out.cell 0 rfl
  have c1 := HA.out.cell 1 rfl
  have d0 := HBB.out.cell 0 rfl
  have d1 := HBB.out.cell 1 rfl
  have HBO : Hid (Blk (w2.alloc (.cells (pcells 0 0 (.slice none 0 0)) 24)) w2.heap.size 24 (pcells 0 0 (.slice none 0 0))) := Blk.new w2 _ _
  have HZ2 : Hid (w.heap.size + 2 < w2.heap.size) := HR.out.lt
  have HCC : Hid (∀ w3, (w2.alloc (.cells (pcells 0 0 (.slice none 0 0)) 24)).grownBy w3 (some w2.heap.size) → w3.cell? ⟨w.heap.size, 1, none⟩ = some (.int .i64 ka) ∧ w3.cell? ⟨w.heap.size + 1, 1, none⟩ = some (.int .i64 kb)) := fun w3 hg =>
    ⟨(Blk.grown (HA.out.alloc _) hg (by have := HZ2.out; omega)).cell 1 rfl, (Blk.grown (HBB.out.alloc _) hg (by have := HZ2.out; omega)).cell 1 rfl⟩
  go_wp2_with (first
    | (refine wpList_store_blk rfl _ _ _ rfl w2.heap.size (pcells ra (ka + kb) (.slice none 0 0)) rfl rfl _ _ HBO.out (by kernel_rfl) rfl (pcells_one _ _ _ _ _) ?_; intro w3 hb3 hg3 hs3; have HS3 := Lib.hid hs3; have HO3 := Lib.hid hb3; have HG3 := Lib.hid hg3; have o0 := HO3.out.cell 0 rfl; have o1 := HO3.out.cell 1 rfl; obtain ⟨x1, y1⟩ := HCC.out _ hg3; clear hs3 hb3 hg3)
    | (refine wpList_store_blk rfl _ _ _ rfl w3.heap.size #[.int .i64 ka, .int .i64 kb] rfl rfl 137 #[.int .i64 0, .int .i64 0] (Blk.new w3 _ _) (by kernel_rfl) rfl (by simp [Value.oneCell']) ?_; intro w4 hb4 hg4 hs4; have HS4 := Lib.hid hs4; have HL4 := Lib.hid hb4; have HG4 := Lib.hid hg4; clear hs4 hb4 hg4)
    | fail)
  replace HA := Lib.hid (Blk.grown (HA.out.alloc _) HG3.out (by have := HZ2.out; omega))
  replace HBB := Lib.hid (Blk.grown (HBB.out.alloc _) HG3.out (by have := HZ2.out; omega))
  replace HR := Lib.hid (Blk.grown (HR.out.alloc _) HG3.out (by have := HZ2.out; omega))
  replace HB : Hid (Below w.heap.size w w3) := Below.grown (HB.out.alloc (by have := HZ2.out; omega) _) HG3.out (by simp; have := HZ2.out; omega) (fun q hq => by injection hq with hq; have := HZ2.out; omega)
  clear c0 c1 d0 d1 o0 o1
  have HZ3 : Hid (w2.heap.size < w3.heap.size) := by have := HS3.out; unfold Hid; simp at this; omega
  have HA4 := Lib.hid (Blk.grown (HA.out.alloc _) HG4.out (by have := HZ2.out; have := HZ3.out; omega))
  have HBB4 := Lib.hid (Blk.grown (HBB.out.alloc _) HG4.out (by have := HZ2.out; have := HZ3.out; omega))
  have HR4 := Lib.hid (Blk.grown (HR.out.alloc _) HG4.out (by have := HZ2.out; have := HZ3.out; omega))
  have HO4 := Lib.hid (Blk.grown (HO3.out.alloc _) HG4.out (by have := HZ3.out; omega))
  have HB4 : Hid (Below w.heap.size w w4) := Below.grown (HB.out.alloc (by have := HZ2.out; have := HZ3.out; omega) _) HG4.out (by simp; have := HZ2.out; have := HZ3.out; omega) (fun q hq => by injection hq with hq; have := HZ2.out; have := HZ3.out; omega)
  have HZ4 : Hid (w4.heap.size = w3.heap.size + 1) := by have := HS4.out; unfold Hid; simpa using this
  have HQ : Hid (za.length ≤ 400 ∧ zb.length ≤ 400 ∧ 0 ≤ ka ∧ 0 ≤ kb ∧ ka + kb ≤ 1099511627776 ∧ X ≤ 400 ∧ 0 ≤ X) := HQ0
  clear x1 y1 HA HBB HR HG4 HS4 HO3
  go_upto_region 11 with (fail)
  simp only [Act.put]
  skip --LOOKC
  go_cut [14] from 82 (fun s14 wx => ∃ (gH : Nat) (A0 : Option Addr) (c0 : Nat) (A1 : Option Addr) (c1 : Nat), s14 = .pointer (some ⟨gH, 0, none⟩) ∧ JClone w4 wx gH A0 A1 za zb c0 c1)
  case first =>
    have HKEEP : Hid (∀ w', Below w4.heap.size w4 w' → w'.cell? ⟨w.heap.size, 2, none⟩ = some (.slice A za.length ca) ∧ w'.cell? ⟨w.heap.size + 1, 2, none⟩ = some (.slice C zb.length cb) ∧ Below w4.heap.size w4 w') := fun w' h =>
      ⟨(HA4.out.below h HA4.out.lt).cell 2 rfl, (HBB4.out.below h HBB4.out.lt).cell 2 rfl, h⟩
    have HD : Hid (Below w4.heap.size w4 w4.drew) := below_drewN (Below.refl _ _) 1
    have HSGA : Hid (∀ u, Below w4.heap.size w4 u → Seg u w.heap.size A (za.map (.int .i64))) := fun u h => (HSA.out.below HB4.out).below (h.mono HB4.out.size)
    have HSGC : Hid (∀ u, Below w4.heap.size w4 u → Seg u w.heap.size C (zb.map (.int .i64))) := fun u h => (HSC.out.below HB4.out).below (h.mono HB4.out.size)
    go_region_held3 (fun w' => w'.cell? ⟨w.heap.size, 2, none⟩ = some (.slice A za.length ca) ∧ w'.cell? ⟨w.heap.size + 1, 2, none⟩ = some (.slice C zb.length cb) ∧ Below w4.heap.size w4 w')
      (first
        | exact HKEEP.out _ HD.out
        | (go_split_ands; refine HKEEP.out _ ?_; first
            | exact HX.out
            | exact jb_alloc HX.out _
            | exact jb_alloc (by assumption) _
            | exact jb_set (jb_set HX.out (by first | exact Nat.le_refl _ | exact HX1.out.size | exact HX2.out.size) _) (by first | exact Nat.le_refl _ | exact HX1.out.size | exact HX2.out.size) _))
      (first
        | (go_at_call 123; go_split_ands; first
            | (refine (clone_ints A za ca w.heap.size _ (HSGA.out _ (by assumption)) (by have := HQ.out; omega)).mono ?_; rintro e u1 ⟨⟨v1, rfl, hown1⟩, hb1⟩; obtain ⟨A0, c0, rfl, ho1⟩ := jshape hown1; have HX := Lib.hid (jb_go (w := w4) (by assumption) hb1); have HX1 := HX; have HV1 := Lib.hid ho1; have HB1 := Lib.hid hb1; (first | (have zz := HZ.out.below hb1 HZ.out.lt; have HZ := Lib.hid zz; have z0 := zz.cell 0 (u := .slice none 0 0) rfl; have z1 := zz.cell 1 (u := .slice none 0 0) rfl; have f0 := zz.frozen 0; have f1 := zz.frozen 1; clear zz) | (have zz := (Blk.new w4 139 #[.slice none 0 0, .slice none 0 0]).drew.below hb1 (by simp); have HZ := Lib.hid zz; have z0 := zz.cell 0 (u := .slice none 0 0) rfl; have z1 := zz.cell 1 (u := .slice none 0 0) rfl; have f0 := zz.frozen 0; have f1 := zz.frozen 1; clear zz) | (have zz := (Blk.new u2 139 #[.slice none 0 0, .slice none 0 0]).below hb1 (by simp); have HZ := Lib.hid zz; have z0 := zz.cell 0 (u := .slice none 0 0) rfl; have z1 := zz.cell 1 (u := .slice none 0 0) rfl; have f0 := zz.frozen 0; have f1 := zz.frozen 1; clear zz) | skip); clear hown1 ho1 hb1)
            | (refine (clone_ints C zb cb w.heap.size _ (HSGC.out _ (by assumption)) (by have := HQ.out; omega)).mono ?_; rintro e u2 ⟨⟨v1, rfl, hown1⟩, hb1⟩; obtain ⟨A1, c1, rfl, ho1⟩ := jshape hown1; have HX := Lib.hid (jb_go (w := w4) (by assumption) hb1); have HX2 := HX; have HV2 := Lib.hid ho1; have HB2 := Lib.hid hb1; (first | (have zz := HZ.out.below hb1 HZ.out.lt; have HZ := Lib.hid zz; have z0 := zz.cell 0 (u := .slice none 0 0) rfl; have z1 := zz.cell 1 (u := .slice none 0 0) rfl; have f0 := zz.frozen 0; have f1 := zz.frozen 1; clear zz) | (have zz := (Blk.new w4 139 #[.slice none 0 0, .slice none 0 0]).drew.below hb1 (by simp); have HZ := Lib.hid zz; have z0 := zz.cell 0 (u := .slice none 0 0) rfl; have z1 := zz.cell 1 (u := .slice none 0 0) rfl; have f0 := zz.frozen 0; have f1 := zz.frozen 1; clear zz) | (have zz := (Blk.new u1 139 #[.slice none 0 0, .slice none 0 0]).below hb1 (by simp); have HZ := Lib.hid zz; have z0 := zz.cell 0 (u := .slice none 0 0) rfl; have z1 := zz.cell 1 (u := .slice none 0 0) rfl; have f0 := zz.frozen 0; have f1 := zz.frozen 1; clear zz) | skip); clear hown1 ho1 hb1)))
    all_goals go_wp2_with fail
    all_goals go_meet
    all_goals first
      | exact ⟨_, _, _, _, _, rfl, JClone.last (JTwo.ab HX1.out HV1.out (by simp) (by first | exact Below.refl _ _ | exact (Below.refl _ _).alloc (Nat.le_refl _) _ | exact below_drewN (Below.refl _ _) 1) HV2.out HB2.out)⟩
      | exact ⟨_, _, _, _, _, rfl, JClone.last (JTwo.ba HX2.out HV2.out (by simp) (by first | exact Below.refl _ _ | exact (Below.refl _ _).alloc (Nat.le_refl _) _ | exact below_drewN (Below.refl _ _) 1) HV1.out HB1.out)⟩
      | exact ⟨_, _, _, _, _, rfl, JClone.mid HZ.out (JTwo.ab HX1.out HV1.out (by simp) (by first | exact Below.refl _ _ | exact (Below.refl _ _).alloc (Nat.le_refl _) _ | exact below_drewN (Below.refl _ _) 1) HV2.out HB2.out) (by first | exact Nat.le_refl _ | exact HX1.out.size | exact HX2.out.size) (fun ad e => by subst e; have q1 := HV1.out.lt _ rfl; have q2 := HV1.out.block _ rfl; have q3 := HB1.out.size; have q4 := HB2.out.size; simp at q1 q2 q3 q4 ⊢; omega) (fun ad e => by subst e; have q1 := HV2.out.lt _ rfl; have q2 := HV2.out.block _ rfl; have q3 := HB1.out.size; have q4 := HB2.out.size; simp at q1 q2 q3 q4 ⊢; omega)⟩
      | exact ⟨_, _, _, _, _, rfl, JClone.mid HZ.out (JTwo.ba HX2.out HV2.out (by simp) (by first | exact Below.refl _ _ | exact (Below.refl _ _).alloc (Nat.le_refl _) _ | exact below_drewN (Below.refl _ _) 1) HV1.out HB1.out) (by first | exact Nat.le_refl _ | exact HX1.out.size | exact HX2.out.size) (fun ad e => by subst e; have q1 := HV1.out.lt _ rfl; have q2 := HV1.out.block _ rfl; have q3 := HB1.out.size; have q4 := HB2.out.size; simp at q1 q2 q3 q4 ⊢; omega) (fun ad e => by subst e; have q1 := HV2.out.lt _ rfl; have q2 := HV2.out.block _ rfl; have q3 := HB1.out.size; have q4 := HB2.out.size; simp at q1 q2 q3 q4 ⊢; omega)⟩
      | exact (0 : Nat)
  case rest =>
    obtain ⟨gH, A0, c0, A1, c1, rfl, hcl⟩ := hcut
    have HI := Lib.hid (PInv.begin (ra := ra) HR4.out HO4.out HL4.out hcl HB4.out HZ2.out HZ3.out HZ4.out ⟨HQ.out.2.2.1, HQ.out.2.2.2.1, HQ.out.2.2.2.2.1⟩)
    clear hcl HR4 HO4 HL4 HB4 HA4 HBB4
    generalize hT : JS.run za zb ds ws X.toNat 0 (JS.start ka kb) = T at *
    have HTT := Lib.hid hT
    clear hT
    go_wp2_with fail
    skip --LOOKL
    go_loopw [90] (fun s90 wr => ∃ (k : Nat) (s : JS) (A0 : Option Addr) (c0 : Nat) (A1 : Option Addr) (c1 : Nat) (y0 y1 : List Int), (k : Int) ≤ X ∧ s90 = .int .i64 k ∧ Hid (JS.run za zb ds ws (X.toNat - k) k s = T) ∧ Hid (PInv ra ka kb za zb w w2.heap.size w3.heap.size gH w4.heap.size wc.heap.size wr k s A0 c0 A1 c1 y0 y1)) (fun s90 _ => X.toNat - (intOf s90).toNat)
    case atStart => exact ⟨0, _, _, _, _, _, _, _, HQ.out.2.2.2.2.2.2, rfl, HTT.out, HI.out⟩
    case round =>
      clear HI A0 c0 A1 c1
      obtain ⟨k, s, A0, c0, A1, c1, y0, y1, hk, rfl, hrun, hinv⟩ := hrel
      have HPR := Lib.hid hinv.out.pr
      have HBD : Hid (Below w.heap.size w wr) := hinv.out.be
      by_cases hlt : (k : Int) < X
      · have hkd : k < ds.length := by omega
        have hkw : k < ws.length := by omega
        obtain ⟨ad, rfl, hadB, cd⟩ := (HSD.out.below hinv.out.be).pat hkd
        obtain ⟨ae, rfl, haeB, cw⟩ := (HSW.out.below hinv.out.be).pat hkw
        have l0 := hinv.out.pl.cell 0 rfl
        have l1 := hinv.out.pl.cell 1 rfl
        have i5 : (k : Int) < (ds.length : Int) := by omega
        have i6 : (k : Int) < (ws.length : Int) := by omega
        obtain ⟨g', hg'⟩ : ∃ g', X.toNat - k = g' + 1 := ⟨X.toNat - k - 1, by omega⟩
        have HSN : Hid (s.step za zb (pat ds k) (pat ws k) = none → T = none) := fun h => by
          have h1 := hrun.out
          rw [hg', JS.run_none h] at h1
          exact h1.symm
        have HSS : Hid (∀ s', s.step za zb (pat ds k) (pat ws k) = some s' → JS.run za zb ds ws (X.toNat - (k + 1)) (k + 1) s' = T) := fun s' h => by
          have h1 := hrun.out
          rw [hg', JS.run_some h, show g' = X.toNat - (k + 1) by omega] at h1
          exact h1
        have hbd := hinv.out.bd
        have hw5 : wrap64 (s.ca + s.cb) = s.ca + s.cb := by unfold wrap64; omega
        have hw6 : IntKind.i64.wrap (s.ca + s.cb) = s.ca + s.cb := IntWalk.i64_in _ (by omega)
        have hxr := HWX.out k
        clear hg'
        rcases (by omega : pat ds k < 0 ∨ (¬ pat ds k < 0 ∧ s.ca + s.cb ≤ pat ds k) ∨ (¬ pat ds k < 0 ∧ ¬ s.ca + s.cb ≤ pat ds k)) with h1 | ⟨h1, h2⟩ | ⟨h1, h2⟩
        · have HN := Lib.hid (HSN.out (by unfold JS.step; rw [if_pos (.inl h1)]))
          generalize pat ds k = d at *
          generalize pat ws k = x at *
          generalize s.ca = a at *
          generalize s.cb = b at *
          go_wp2_with fail
          refine (jno_any 2 _).mono ?_
          rintro e wz ⟨rfl, hbz⟩
          have HRZ := Lib.hid (HPR.out.below hbz HPR.out.lt)
          have HBZ : Hid (Below w.heap.size w wz) := HBD.out.trans (hbz.mono HBD.out.size)
          clear hbz
          go_wp2_with (first | (refine wpList_store_blk rfl _ _ _ rfl (w.heap.size + 2) (pcells 0 0 (.slice none 0 0)) rfl rfl _ _ HRZ.out (by kernel_rfl) rfl (pcells_one _ _ _ _ _) ?_; intro w9 hb9 hg9 hs9; have HS9 := Lib.hid hs9; have HB9 := Lib.hid hb9; have HG9 := Lib.hid hg9; clear hs9 hb9 hg9) | fail)
          refine bodyPost_ret (v := .tuple #[PoolV 0 0 (.slice none 0 0), .int .i64 2]) (results_ct (a := 9) Try.results15 _ rfl HB9.out Try.underlying24 rfl (by kernel_rfl)) rfl ⟨pool_is (HT.out.trans (by rw [HN.out])) (nil_is _ _ _), HBZ.out.grown HG9.out HBZ.out.size (fun q hq => by injection hq with hq; omega)⟩
        · have HN := Lib.hid (HSN.out (by unfold JS.step; rw [if_pos (.inr h2)]))
          generalize pat ds k = d at *
          generalize pat ws k = x at *
          generalize s.ca = a at *
          generalize s.cb = b at *
          go_wp2_with fail
          refine (jno_any 2 _).mono ?_
          rintro e wz ⟨rfl, hbz⟩
          have HRZ := Lib.hid (HPR.out.below hbz HPR.out.lt)
          have HBZ : Hid (Below w.heap.size w wz) := HBD.out.trans (hbz.mono HBD.out.size)
          clear hbz
          go_wp2_with (first | (refine wpList_store_blk rfl _ _ _ rfl (w.heap.size + 2) (pcells 0 0 (.slice none 0 0)) rfl rfl _ _ HRZ.out (by kernel_rfl) rfl (pcells_one _ _ _ _ _) ?_; intro w9 hb9 hg9 hs9; have HS9 := Lib.hid hs9; have HB9 := Lib.hid hb9; have HG9 := Lib.hid hg9; clear hs9 hb9 hg9) | fail)
          refine bodyPost_ret (v := .tuple #[PoolV 0 0 (.slice none 0 0), .int .i64 2]) (results_ct (a := 9) Try.results15 _ rfl HB9.out Try.underlying24 rfl (by kernel_rfl)) rfl ⟨pool_is (HT.out.trans (by rw [HN.out])) (nil_is _ _ _), HBZ.out.grown HG9.out HBZ.out.size (fun q hq => by injection hq with hq; omega)⟩
        · generalize hdd : pat ds k = d at *
          generalize hxx : pat ws k = x at *
          generalize hca : s.ca = a at *
          generalize hcb : s.cb = b at *
          have HCA := Lib.hid hca
          have HCB := Lib.hid hcb
          clear hca hcb hdd hxx
          have p0 := hinv.out.ph.cell 0 rfl
          have p1 := hinv.out.ph.cell 1 rfl
          rcases (by omega : d < a ∨ ¬ d < a) with h3 | h3
          · by_cases hh : 0 ≤ x ∧ x < cntL s.A za.length
            · obtain ⟨X1, rfl⟩ : ∃ X1 : Nat, x = X1 := ⟨x.toNat, by omega⟩
              obtain ⟨j, hj, hgat, hGj, _, hpat, hdel⟩ := gat_hit (zs := za) (G := s.A) (w := X1) za.length (by omega)
              have HST : Hid (JS.step za zb s d X1 = some { s with A := gone s.A j, ca := s.ca - 1, o := s.o ++ [pat za j] }) := by
                unfold Hid JS.step; rw [HCA.out, HCB.out, if_neg (by omega), if_pos (by omega), if_pos hh, hgat]; rfl
              have HNX := Lib.hid (HSS.out _ HST.out)
              have hlen : y0.length = cntL s.A za.length := by rw [hinv.out.e0, leftL_len]
              have hX1 : X1 < y0.length := by rw [hlen]; omega
              have hpat1 : pat y0 X1 = pat za j := by rw [hinv.out.e0]; exact hpat
              have HDEL : Hid (leftL za (gone s.A j) za.length = y0.eraseIdx X1) := by unfold Hid; rw [hinv.out.e0]; exact hdel
              have HLL : Hid (y0.length ≤ 400) := by have h1 := cntL_le s.A za.length; have h2 := HQ.out; unfold Hid; rw [hlen]; omega
              clear hlen hpat hdel hgat hh
              obtain ⟨g, rfl, _⟩ := Own.at_ hinv.out.o0 (by omega)
              obtain ⟨Ao, co, hpo, how⟩ := hinv.out.po
              have HPO := Lib.hid hpo
              have HOW := Lib.hid how
              have HOR : Hid (∀ q, (Value.slice Ao s.o.length co).ownBlock = some q → wc.heap.size ≤ q) := how.block
              have HOD := Lib.hid hinv.out.od
              have HGB := Lib.hid (hinv.out.b0 _ rfl)
              have hcz : wr.cell? ⟨g, X1, none⟩ = some (.int .i64 (pat za j)) := by
                rw [← hpat1]
                exact Own.cell hinv.out.o0 (by rw [pat_get hX1]; simp [hX1])
              have HCZ := Lib.hid hcz
              have HR0 := Lib.hid hinv.out.o0
              have HRX : Hid (∀ u, Own u w4.heap.size 3 (.slice (some ⟨g, 0, none⟩) y0.length c0) (y0.map (.int .i64)) → u.cell? ⟨g, X1, none⟩ = some (.int .i64 (pat za j))) := fun u hu => by
                rw [← hpat1]
                exact Own.cell hu (by rw [pat_get hX1]; simp [hX1])
              have hc0 : 0 < a := by omega
              have hw8 : wrap64 (a - 1) = a - 1 := by unfold wrap64; omega
              have HPL := Lib.hid hinv.out.pl
              have HPH := Lib.hid hinv.out.ph
              have HOL : Hid (s.o.length ≤ 400) := by unfold Hid; have := HQ.out; omega
              have HXL := Lib.hid hX1
              have hx1 : ¬ (y0.length : Int) ≤ (X1 : Int) := by have := hX1; omega
              have hx2 : (X1 : Int) < (y0.length : Int) := by omega
              clear hpo how HST hGj hpat1 hcz
              have HBS : Hid (wc.heap.size ≤ wr.heap.size) := hinv.out.sz
              have hw9 : wrap64 ((X1 : Int) + 1) = (X1 : Int) + 1 := by have := HLL.out; unfold wrap64; omega
              have hx3 : ¬ (X1 : Int) < 0 := Int.not_lt.2 (Int.natCast_nonneg X1)
              have HHL := Lib.hid HLL.out
              clear hxr
              skip --LOOK2
              go_wp2_with fail
              skip --LOOK3
              refine wp_region_plan [(0, 0), (1, 1), (2, 0), (3, 0), (4, 1), (5, 0), (6, 0), (7, 1), (8, 2), (9, 2), (10, 0), (11, 3)] (fun w' => w'.cell? ⟨w2.heap.size, 2, none⟩ = some (.slice Ao s.o.length co) ∧ w'.cell? ⟨gH, 0, none⟩ = some (.slice (some ⟨g, 0, none⟩) y0.length c0) ∧ w'.cell? ⟨g, X1, none⟩ = some (.int .i64 (pat za j))) (by kernel_rfl) (by kernel_rfl) (fun _ d _ _ _ h => by cases d <;> exact h) ⟨HPO.out.cell 2 rfl, HPH.out.cell 0 rfl, HCZ.out⟩ ?_
              iterate 8 ((first | (refine plan0 (v := ?_) rfl rfl (by rfl) ?_ ?_) | (refine plan1 (v := ?_) rfl rfl (by rfl) ?_ ?_)); rotate_left; (first | (intro w'; go_simp; with_reducible rfl) | (intro w' hS; obtain ⟨h1, h2, h3⟩ := hS; go_simp; with_reducible rfl)); simp only [List.setIfInBounds_toArray, List.set_cons_zero, List.set_cons_succ])
              refine plan2 rfl rfl fun K' hK' => ?_
              go_simp
              refine hK' _ _ ⟨(HPO.out.drew.alloc _).cell 2 rfl, (HPH.out.drew.alloc _).cell 0 rfl, HRX.out _ (Own.alloc' HR0.out.drew _)⟩ ?_
              clear hK' K'
              refine plan2 rfl rfl fun K' hK' => ?_
              refine wp_push2 _ _ _ elem_ints rfl wc.heap.size (.slice Ao s.o.length co) (s.o.map (.int .i64)) rfl (Own.alloc' HOW.out.drew _) (.int .i64 (pat za j)) ⟨wr.heap.size, 0, none⟩ 1 rfl (cell_new1 _ _ _) rfl (by rw [List.length_map]; have := HOL.out; omega) (by rw [List.length_map]; unfold maxLen; have := HOL.out; omega) (by simp; have := HBS.out; omega) ?_
              intro v8 w8 hown8 hg8 _
              obtain ⟨A8, c8, rfl, _, hown8⟩ := hown8.res2
              rw [show (List.map (Value.int .i64) s.o ++ [Value.int .i64 (pat za j)]).length = s.o.length + 1 by simp] at hown8
              have HO8 := Lib.hid ((HPO.out.drew.alloc (.cells #[.int .i64 (pat za j)] 3)).row hg8 (fun q hq => by have := HOR.out q hq; have := HOD.out; omega))
              have HPH8 := Lib.hid ((HPH.out.drew.alloc (.cells #[.int .i64 (pat za j)] 3)).row hg8 (fun q hq => by have := HOR.out q hq; have := HOD.out; omega))
              have HPL8 := Lib.hid ((HPL.out.drew.alloc (.cells #[.int .i64 (pat za j)] 3)).row hg8 (fun q hq => by have := HOR.out q hq; have := HOD.out; omega))
              have HR8 := Lib.hid ((Own.alloc' HR0.out.drew (.cells #[.int .i64 (pat za j)] 3)).keepOf hg8 (fun q y h1 h2 => by have q1 := HOR.out q h1; have q2 : g < wc.heap.size := HGB.out.1; have q3 : g = y := Option.some.inj h2; omega))
              have HOW8 := Lib.hid hown8
              have HG8 := Lib.hid hg8
              clear hown8 hg8
              refine hK' _ _ ⟨HO8.out.cell 2 rfl, HPH8.out.cell 0 rfl, HRX.out _ HR8.out⟩ ?_
              clear hK' K'
              iterate 1 ((refine plan0 (v := ?_) rfl rfl (by rfl) ?_ ?_); rotate_left; (intro w'; go_simp; with_reducible rfl))
              have c9 := HO8.out.cell 2 rfl
              have f9 := HO8.out.frozen 2
              have HG9 := Lib.hid (jset_grown w8 w2.heap.size 2 (.slice A8 (s.o.length + 1) c8))
              refine plan3 rfl rfl fun K' hK' => ?_
              go_simp
              refine hK' _ _ ?_
              clear hK' K' c9 f9
              refine planEnd ?_
              generalize h9 : w8.setCell ⟨w2.heap.size, 2, none⟩ (.slice A8 (s.o.length + 1) c8) = w9 at *
              have H9 := Lib.hid h9
              clear h9
              have HPH9 := Lib.hid (HPH8.out.grown HG9.out (by have := HOD.out; omega))
              have HPL9 := Lib.hid (HPL8.out.grown HG9.out (by have := HOD.out; omega))
              have HR9 := Lib.hid (HR8.out.grown HG9.out (by have := HOD.out; omega))
              have p9 := HPH9.out.cell 0 rfl
              go_wp2_with fail
              refine (jdel w4.heap.size g c0 y0 X1 _ HR9.out HXL.out).mono ?_
              rintro e w10 ⟨n10, rfl, hn10, ho10, hg10⟩
              have HN10 := Lib.hid hn10
              have HO10 := Lib.hid ho10
              have HG10 := Lib.hid hg10
              have HPH10 := Lib.hid (HPH9.out.grown hg10 (Ne.symm HGB.out.2))
              have HPL10 := Lib.hid (HPL9.out.grown hg10 (by have h1 := HR9.out.block g rfl; have := HOD.out; omega))
              clear hn10 ho10 hg10 p9
              have p10 := HPH10.out.cell 0 rfl
              have f10 := HPH10.out.frozen 0
              have HG11 := Lib.hid (jset_grown w10 gH 0 (.slice (some ⟨g, 0, none⟩) n10 c0))
              go_upto_region 26 with (fail)
              generalize h11 : w10.setCell ⟨gH, 0, none⟩ (.slice (some ⟨g, 0, none⟩) n10 c0) = w11 at *
              have H11 := Lib.hid h11
              clear h11 p10 f10
              have HPL11 := Lib.hid (HPL10.out.grown HG11.out (by have := HOD.out; omega))
              have l11 := HPL11.out.cell 0 rfl
              have f11 := HPL11.out.frozen 0
              rw [HCA.out] at l11
              go_wp2_with fail
              go_roundw
              case rel => exact ⟨k + 1, _, _, _, _, _, _, _, by omega, by go_num, HNX.out, PInv.stepA (m := 0) hinv.out HPO.out HOW.out HG8.out (by rw [List.map_append]; exact HOW8.out) rfl H9.out HG10.out HDEL.out.symm HN10.out HO10.out H11.out rfl (by rw [HCA.out]) (by rw [HCA.out]; exact hc0)⟩
              case measure => simp [intOf]; omega
            · have HN := Lib.hid (HSN.out (by unfold JS.step; rw [HCA.out, HCB.out, if_neg (by omega), if_pos (by omega), if_neg hh]))
              have hlen : y0.length = cntL s.A za.length := by rw [hinv.out.e0, leftL_len]
              have hbb : x < 0 ∨ (¬ x < 0 ∧ (y0.length : Int) ≤ x) := by rw [hlen]; omega
              clear hh hlen
              rcases hbb with h4 | ⟨h4, h5⟩
              · skip
                go_wp2_with fail
                refine (jno_any 2 _).mono ?_
                rintro e wz ⟨rfl, hbz⟩
                have HRZ := Lib.hid (HPR.out.below hbz HPR.out.lt)
                have HBZ : Hid (Below w.heap.size w wz) := HBD.out.trans (hbz.mono HBD.out.size)
                clear hbz
                go_wp2_with (first | (refine wpList_store_blk rfl _ _ _ rfl (w.heap.size + 2) (pcells 0 0 (.slice none 0 0)) rfl rfl _ _ HRZ.out (by kernel_rfl) rfl (pcells_one _ _ _ _ _) ?_; intro w9 hb9 hg9 hs9; have HS9 := Lib.hid hs9; have HB9 := Lib.hid hb9; have HG9 := Lib.hid hg9; clear hs9 hb9 hg9) | fail)
                refine bodyPost_ret (v := .tuple #[PoolV 0 0 (.slice none 0 0), .int .i64 2]) (results_ct (a := 9) Try.results15 _ rfl HB9.out Try.underlying24 rfl (by kernel_rfl)) rfl ⟨pool_is (HT.out.trans (by rw [HN.out])) (nil_is _ _ _), HBZ.out.grown HG9.out HBZ.out.size (fun q hq => by injection hq with hq; omega)⟩
              · skip
                go_wp2_with fail
                refine (jno_any 2 _).mono ?_
                rintro e wz ⟨rfl, hbz⟩
                have HRZ := Lib.hid (HPR.out.below hbz HPR.out.lt)
                have HBZ : Hid (Below w.heap.size w wz) := HBD.out.trans (hbz.mono HBD.out.size)
                clear hbz
                go_wp2_with (first | (refine wpList_store_blk rfl _ _ _ rfl (w.heap.size + 2) (pcells 0 0 (.slice none 0 0)) rfl rfl _ _ HRZ.out (by kernel_rfl) rfl (pcells_one _ _ _ _ _) ?_; intro w9 hb9 hg9 hs9; have HS9 := Lib.hid hs9; have HB9 := Lib.hid hb9; have HG9 := Lib.hid hg9; clear hs9 hb9 hg9) | fail)
                refine bodyPost_ret (v := .tuple #[PoolV 0 0 (.slice none 0 0), .int .i64 2]) (results_ct (a := 9) Try.results15 _ rfl HB9.out Try.underlying24 rfl (by kernel_rfl)) rfl ⟨pool_is (HT.out.trans (by rw [HN.out])) (nil_is _ _ _), HBZ.out.grown HG9.out HBZ.out.size (fun q hq => by injection hq with hq; omega)⟩
          · by_cases hh : 0 ≤ x ∧ x < cntL s.B zb.length
            · obtain ⟨X1, rfl⟩ : ∃ X1 : Nat, x = X1 := ⟨x.toNat, by omega⟩
              obtain ⟨j, hj, hgat, hGj, _, hpat, hdel⟩ := gat_hit (zs := zb) (G := s.B) (w := X1) zb.length (by omega)
              have HST : Hid (JS.step za zb s d X1 = some { s with B := gone s.B j, cb := s.cb - 1, o := s.o ++ [pat zb j] }) := by
                unfold Hid JS.step; rw [HCA.out, HCB.out, if_neg (by omega), if_neg (by omega), if_pos hh, hgat]; rfl
              have HNX := Lib.hid (HSS.out _ HST.out)
              have hlen : y1.length = cntL s.B zb.length := by rw [hinv.out.e1, leftL_len]
              have hX1 : X1 < y1.length := by rw [hlen]; omega
              have hpat1 : pat y1 X1 = pat zb j := by rw [hinv.out.e1]; exact hpat
              have HDEL : Hid (leftL zb (gone s.B j) zb.length = y1.eraseIdx X1) := by unfold Hid; rw [hinv.out.e1]; exact hdel
              have HLL : Hid (y1.length ≤ 400) := by have h1 := cntL_le s.B zb.length; have h2 := HQ.out; unfold Hid; rw [hlen]; omega
              clear hlen hpat hdel hgat hh
              obtain ⟨g, rfl, _⟩ := Own.at_ hinv.out.o1 (by omega)
              obtain ⟨Ao, co, hpo, how⟩ := hinv.out.po
              have HPO := Lib.hid hpo
              have HOW := Lib.hid how
              have HOR : Hid (∀ q, (Value.slice Ao s.o.length co).ownBlock = some q → wc.heap.size ≤ q) := how.block
              have HOD := Lib.hid hinv.out.od
              have HGB := Lib.hid (hinv.out.b1 _ rfl)
              have hcz : wr.cell? ⟨g, X1, none⟩ = some (.int .i64 (pat zb j)) := by
                rw [← hpat1]
                exact Own.cell hinv.out.o1 (by rw [pat_get hX1]; simp [hX1])
              have HCZ := Lib.hid hcz
              have HR0 := Lib.hid hinv.out.o1
              have HRX : Hid (∀ u, Own u w4.heap.size 3 (.slice (some ⟨g, 0, none⟩) y1.length c1) (y1.map (.int .i64)) → u.cell? ⟨g, X1, none⟩ = some (.int .i64 (pat zb j))) := fun u hu => by
                rw [← hpat1]
                exact Own.cell hu (by rw [pat_get hX1]; simp [hX1])
              have hc0 : 0 < b := by omega
              have hw8 : wrap64 (b - 1) = b - 1 := by unfold wrap64; omega
              have HPL := Lib.hid hinv.out.pl
              have HPH := Lib.hid hinv.out.ph
              have HOL : Hid (s.o.length ≤ 400) := by unfold Hid; have := HQ.out; omega
              have HXL := Lib.hid hX1
              have hx1 : ¬ (y1.length : Int) ≤ (X1 : Int) := by have := hX1; omega
              have hx2 : (X1 : Int) < (y1.length : Int) := by omega
              clear hpo how HST hGj hpat1 hcz
              have HBS : Hid (wc.heap.size ≤ wr.heap.size) := hinv.out.sz
              have hw9 : wrap64 ((X1 : Int) + 1) = (X1 : Int) + 1 := by have := HLL.out; unfold wrap64; omega
              have hx3 : ¬ (X1 : Int) < 0 := Int.not_lt.2 (Int.natCast_nonneg X1)
              have HHL := Lib.hid HLL.out
              clear hxr
              skip --LOOK2
              go_wp2_with fail
              skip --LOOK3
              refine wp_region_plan [(0, 0), (1, 1), (2, 0), (3, 0), (4, 1), (5, 0), (6, 0), (7, 1), (8, 2), (9, 2), (10, 0), (11, 3)] (fun w' => w'.cell? ⟨w2.heap.size, 2, none⟩ = some (.slice Ao s.o.length co) ∧ w'.cell? ⟨gH, 1, none⟩ = some (.slice (some ⟨g, 0, none⟩) y1.length c1) ∧ w'.cell? ⟨g, X1, none⟩ = some (.int .i64 (pat zb j))) (by kernel_rfl) (by kernel_rfl) (fun _ d _ _ _ h => by cases d <;> exact h) ⟨HPO.out.cell 2 rfl, HPH.out.cell 1 rfl, HCZ.out⟩ ?_
              iterate 8 ((first | (refine plan0 (v := ?_) rfl rfl (by rfl) ?_ ?_) | (refine plan1 (v := ?_) rfl rfl (by rfl) ?_ ?_)); rotate_left; (first | (intro w'; go_simp; with_reducible rfl) | (intro w' hS; obtain ⟨h1, h2, h3⟩ := hS; go_simp; with_reducible rfl)); simp only [List.setIfInBounds_toArray, List.set_cons_zero, List.set_cons_succ])
              refine plan2 rfl rfl fun K' hK' => ?_
              go_simp
              refine hK' _ _ ⟨(HPO.out.drew.alloc _).cell 2 rfl, (HPH.out.drew.alloc _).cell 1 rfl, HRX.out _ (Own.alloc' HR0.out.drew _)⟩ ?_
              clear hK' K'
              refine plan2 rfl rfl fun K' hK' => ?_
              refine wp_push2 _ _ _ elem_ints rfl wc.heap.size (.slice Ao s.o.length co) (s.o.map (.int .i64)) rfl (Own.alloc' HOW.out.drew _) (.int .i64 (pat zb j)) ⟨wr.heap.size, 0, none⟩ 1 rfl (cell_new1 _ _ _) rfl (by rw [List.length_map]; have := HOL.out; omega) (by rw [List.length_map]; unfold maxLen; have := HOL.out; omega) (by simp; have := HBS.out; omega) ?_
              intro v8 w8 hown8 hg8 _
              obtain ⟨A8, c8, rfl, _, hown8⟩ := hown8.res2
              rw [show (List.map (Value.int .i64) s.o ++ [Value.int .i64 (pat zb j)]).length = s.o.length + 1 by simp] at hown8
              have HO8 := Lib.hid ((HPO.out.drew.alloc (.cells #[.int .i64 (pat zb j)] 3)).row hg8 (fun q hq => by have := HOR.out q hq; have := HOD.out; omega))
              have HPH8 := Lib.hid ((HPH.out.drew.alloc (.cells #[.int .i64 (pat zb j)] 3)).row hg8 (fun q hq => by have := HOR.out q hq; have := HOD.out; omega))
              have HPL8 := Lib.hid ((HPL.out.drew.alloc (.cells #[.int .i64 (pat zb j)] 3)).row hg8 (fun q hq => by have := HOR.out q hq; have := HOD.out; omega))
              have HR8 := Lib.hid ((Own.alloc' HR0.out.drew (.cells #[.int .i64 (pat zb j)] 3)).keepOf hg8 (fun q y h1 h2 => by have q1 := HOR.out q h1; have q2 : g < wc.heap.size := HGB.out.1; have q3 : g = y := Option.some.inj h2; omega))
              have HOW8 := Lib.hid hown8
              have HG8 := Lib.hid hg8
              clear hown8 hg8
              refine hK' _ _ ⟨HO8.out.cell 2 rfl, HPH8.out.cell 1 rfl, HRX.out _ HR8.out⟩ ?_
              clear hK' K'
              iterate 1 ((refine plan0 (v := ?_) rfl rfl (by rfl) ?_ ?_); rotate_left; (intro w'; go_simp; with_reducible rfl))
              have c9 := HO8.out.cell 2 rfl
              have f9 := HO8.out.frozen 2
              have HG9 := Lib.hid (jset_grown w8 w2.heap.size 2 (.slice A8 (s.o.length + 1) c8))
              refine plan3 rfl rfl fun K' hK' => ?_
              go_simp
              refine hK' _ _ ?_
              clear hK' K' c9 f9
              refine planEnd ?_
              generalize h9 : w8.setCell ⟨w2.heap.size, 2, none⟩ (.slice A8 (s.o.length + 1) c8) = w9 at *
              have H9 := Lib.hid h9
              clear h9
              have HPH9 := Lib.hid (HPH8.out.grown HG9.out (by have := HOD.out; omega))
              have HPL9 := Lib.hid (HPL8.out.grown HG9.out (by have := HOD.out; omega))
              have HR9 := Lib.hid (HR8.out.grown HG9.out (by have := HOD.out; omega))
              have p9 := HPH9.out.cell 1 rfl
              go_wp2_with fail
              refine (jdel w4.heap.size g c1 y1 X1 _ HR9.out HXL.out).mono ?_
              rintro e w10 ⟨n10, rfl, hn10, ho10, hg10⟩
              have HN10 := Lib.hid hn10
              have HO10 := Lib.hid ho10
              have HG10 := Lib.hid hg10
              have HPH10 := Lib.hid (HPH9.out.grown hg10 (Ne.symm HGB.out.2))
              have HPL10 := Lib.hid (HPL9.out.grown hg10 (by have h1 := HR9.out.block g rfl; have := HOD.out; omega))
              clear hn10 ho10 hg10 p9
              have p10 := HPH10.out.cell 1 rfl
              have f10 := HPH10.out.frozen 1
              have HG11 := Lib.hid (jset_grown w10 gH 1 (.slice (some ⟨g, 0, none⟩) n10 c1))
              go_upto_region 26 with (fail)
              generalize h11 : w10.setCell ⟨gH, 1, none⟩ (.slice (some ⟨g, 0, none⟩) n10 c1) = w11 at *
              have H11 := Lib.hid h11
              clear h11 p10 f10
              have HPL11 := Lib.hid (HPL10.out.grown HG11.out (by have := HOD.out; omega))
              have l11 := HPL11.out.cell 1 rfl
              have f11 := HPL11.out.frozen 1
              rw [HCB.out] at l11
              go_wp2_with fail
              go_roundw
              case rel => exact ⟨k + 1, _, _, _, _, _, _, _, by omega, by go_num, HNX.out, PInv.stepB (m := 0) hinv.out HPO.out HOW.out HG8.out (by rw [List.map_append]; exact HOW8.out) rfl H9.out HG10.out HDEL.out.symm HN10.out HO10.out H11.out rfl (by rw [HCB.out]) (by rw [HCB.out]; exact hc0)⟩
              case measure => simp [intOf]; omega
            · have HN := Lib.hid (HSN.out (by unfold JS.step; rw [HCA.out, HCB.out, if_neg (by omega), if_neg (by omega), if_neg hh]))
              have hlen : y1.length = cntL s.B zb.length := by rw [hinv.out.e1, leftL_len]
              have hbb : x < 0 ∨ (¬ x < 0 ∧ (y1.length : Int) ≤ x) := by rw [hlen]; omega
              clear hh hlen
              rcases hbb with h4 | ⟨h4, h5⟩
              · skip
                go_wp2_with fail
                refine (jno_any 2 _).mono ?_
                rintro e wz ⟨rfl, hbz⟩
                have HRZ := Lib.hid (HPR.out.below hbz HPR.out.lt)
                have HBZ : Hid (Below w.heap.size w wz) := HBD.out.trans (hbz.mono HBD.out.size)
                clear hbz
                go_wp2_with (first | (refine wpList_store_blk rfl _ _ _ rfl (w.heap.size + 2) (pcells 0 0 (.slice none 0 0)) rfl rfl _ _ HRZ.out (by kernel_rfl) rfl (pcells_one _ _ _ _ _) ?_; intro w9 hb9 hg9 hs9; have HS9 := Lib.hid hs9; have HB9 := Lib.hid hb9; have HG9 := Lib.hid hg9; clear hs9 hb9 hg9) | fail)
                refine bodyPost_ret (v := .tuple #[PoolV 0 0 (.slice none 0 0), .int .i64 2]) (results_ct (a := 9) Try.results15 _ rfl HB9.out Try.underlying24 rfl (by kernel_rfl)) rfl ⟨pool_is (HT.out.trans (by rw [HN.out])) (nil_is _ _ _), HBZ.out.grown HG9.out HBZ.out.size (fun q hq => by injection hq with hq; omega)⟩
              · skip
                go_wp2_with fail
                refine (jno_any 2 _).mono ?_
                rintro e wz ⟨rfl, hbz⟩
                have HRZ := Lib.hid (HPR.out.below hbz HPR.out.lt)
                have HBZ : Hid (Below w.heap.size w wz) := HBD.out.trans (hbz.mono HBD.out.size)
                clear hbz
                go_wp2_with (first | (refine wpList_store_blk rfl _ _ _ rfl (w.heap.size + 2) (pcells 0 0 (.slice none 0 0)) rfl rfl _ _ HRZ.out (by kernel_rfl) rfl (pcells_one _ _ _ _ _) ?_; intro w9 hb9 hg9 hs9; have HS9 := Lib.hid hs9; have HB9 := Lib.hid hb9; have HG9 := Lib.hid hg9; clear hs9 hb9 hg9) | fail)
                refine bodyPost_ret (v := .tuple #[PoolV 0 0 (.slice none 0 0), .int .i64 2]) (results_ct (a := 9) Try.results15 _ rfl HB9.out Try.underlying24 rfl (by kernel_rfl)) rfl ⟨pool_is (HT.out.trans (by rw [HN.out])) (nil_is _ _ _), HBZ.out.grown HG9.out HBZ.out.size (fun q hq => by injection hq with hq; omega)⟩
      · have HTS : Hid (T = some s.o) := by
          have h1 := hrun.out
          rw [show X.toNat - k = 0 by omega, JS.run] at h1
          exact h1.symm
        obtain ⟨Ao, co, hpo, how⟩ := hinv.out.po
        have HPO := Lib.hid hpo
        have HOW := Lib.hid how
        have HGW : Hid (w.heap.size + 2 < wc.heap.size) := by have h1 := hinv.out.od; unfold Hid; omega
        clear hpo how
        go_wp2_with (first | refine wpList_load_blk rfl _ _ rfl w2.heap.size rfl _ (pcells ra (ka + kb) (.slice Ao s.o.length co)) _ HPO.out Try.underlying24 rfl (by kernel_rfl) ?_ | (refine wpList_store_blk rfl _ _ _ rfl (w.heap.size + 2) (pcells ra (ka + kb) (.slice Ao s.o.length co)) rfl rfl _ _ HPR.out (by kernel_rfl) rfl (pcells_one _ _ _ _ _) ?_; intro w9 hb9 hg9 hs9; have HS9 := Lib.hid hs9; have HB9 := Lib.hid hb9; have HG9 := Lib.hid hg9; clear hs9 hb9 hg9) | fail)
        refine bodyPost_ret (v := .tuple #[PoolV ra (ka + kb) (.slice Ao s.o.length co), .int .i64 0]) (results_ct (a := 9) Try.results15 _ rfl HB9.out Try.underlying24 rfl (by kernel_rfl)) rfl ⟨pool_is (HT.out.trans (by rw [HTS.out])) (own_is (Own.grown HOW.out HG9.out HGW.out) rfl), Below.grown HBD.out HG9.out HBD.out.size (fun q hq => by injection hq with hq; omega)⟩
end Go.Proofs.Ytmnjgoicppknjaa
