/- The law PoolAdds walked. No condition. -/
import Derived.Test.YtakjcodfcoaadabPoolE
import Derived.Test.YtakjcodfcoaadabPoolF
import Derived.Deep.RegionHeld3
namespace Go.Proofs.Ytakjcodfcoaadab
open Go.ChangeShapes Go.WideShapes Go.ChangeAt Go.RowKit

theorem add_any (A : Option Addr) (zs : List Int) (r k x d : Int) (c : Nat) (w : World) (hs : Seg w w.heap.size A (zs.map (.int .i64))) :
    Calls Try.prog 17 #[PoolV r k (.slice A zs.length c), .int .i64 x, .int .i64 d] w fun e w' => (∃ v, e = .returned (.tuple #[v, .int .i64 (padd r k zs x d).2]) ∧ PoolIs w' v (padd r k zs x d).1) ∧ Below w.heap.size w w' := by
  by_cases h : padde r k d zs.length = 0
  · exact add_good A zs r k x d c w hs h
  · exact add_bad A zs r k x d c w h
theorem fadd_any (A : Option Addr) (zs : List Int) (r k x d : Int) (c : Nat) (w : World) (hs : Seg w w.heap.size A (zs.map (.int .i64))) :
    Calls Try.prog 18 #[PoolV r k (.slice A zs.length c), .int .i64 x, .int .i64 d] w fun e w' => (∃ v, e = .returned (.tuple #[v, .int .i64 (padd r k zs x d).2]) ∧ PoolIs w' v (padd r k zs x d).1) ∧ Below w.heap.size w w' := by
  by_cases h : padde r k d zs.length = 0
  · exact fadd_good A zs r k x d c w hs h
  · exact fadd_bad A zs r k x d c w h
theorem padd_len (r k x d : Int) (zs : List Int) : (padd r k zs x d).1.2.2.length ≤ 401 := by
  unfold padd
  by_cases h : padde r k d zs.length = 0
  · rw [if_pos h]
    obtain ⟨⟨_, _, _, _, h5⟩, _⟩ := padde_zero h
    have : zs.length ≤ 400 := by omega
    unfold paddl
    split
    · simp; omega
    · split <;> simp <;> omega
  · rw [if_neg h]; simp

/-- What a world keeps while the last comparison is made. -/
def LKeep (w w' : World) (g4 g13 g15 : Nat) (r k : Int) (v : Value) (r1 k1 : Int) (v1 : Value) (r2 k2 : Int) (v2 : Value) : Prop :=
  w'.cell? ⟨g4, 0, none⟩ = some (.int .i64 r) ∧ w'.cell? ⟨g4, 1, none⟩ = some (.int .i64 k) ∧ w'.cell? ⟨g4, 2, none⟩ = some v ∧
  w'.cell? ⟨g13, 0, none⟩ = some (.int .i64 r1) ∧ w'.cell? ⟨g13, 1, none⟩ = some (.int .i64 k1) ∧ w'.cell? ⟨g13, 2, none⟩ = some v1 ∧
  w'.cell? ⟨g15, 0, none⟩ = some (.int .i64 r2) ∧ w'.cell? ⟨g15, 1, none⟩ = some (.int .i64 k2) ∧ w'.cell? ⟨g15, 2, none⟩ = some v2 ∧ Below w.heap.size w w'
theorem lkeep_of {w w' : World} {g4 g13 g15 : Nat} {r k r1 k1 r2 k2 : Int} {v v1 v2 : Value} (h4 : Blk w g4 35 (pcells r k v)) (h13 : Blk w g13 35 (pcells r1 k1 v1)) (h15 : Blk w g15 35 (pcells r2 k2 v2))
    (hb : Below w.heap.size w w') : LKeep w w' g4 g13 g15 r k v r1 k1 v1 r2 k2 v2 := by
  have a := h4.below hb h4.lt
  have b := h13.below hb h13.lt
  have c := h15.below hb h15.lt
  exact ⟨a.cell 0 rfl, a.cell 1 rfl, a.cell 2 rfl, b.cell 0 rfl, b.cell 1 rfl, b.cell 2 rfl, c.cell 0 rfl, c.cell 1 rfl, c.cell 2 rfl, hb⟩
theorem lkeep_bel {w w' : World} {g4 g13 g15 : Nat} {r k r1 k1 r2 k2 : Int} {v v1 v2 : Value} (h : LKeep w w' g4 g13 g15 r k v r1 k1 v1 r2 k2 v2) : Below w.heap.size w w' := h.2.2.2.2.2.2.2.2.2

set_option maxRecDepth 20000 in
set_option maxHeartbeats 4000000 in
theorem PoolAdds_core (A : Option Addr) (zs : List Int) (r k x d room m f : Int) (c : Nat) (w : World) (hs : Seg w w.heap.size A (zs.map (.int .i64)))
    (hn : ∀ w, Calls Try.prog 16 #[PoolV r k (.slice A zs.length c)] w fun e w' => e = .returned (.tuple #[.int .i64 m, .int .i64 f]) ∧ Below w.heap.size w w')
    (hc : (fright r k zs.length ∧ f = 0 ∧ m = k + 1 ∧ 0 ≤ k ∧ k ≤ 1099511627776) ∨ (¬ fright r k zs.length ∧ f = 1 ∧ m = 0)) :
    Calls Try.prog 4 #[PoolV r k (.slice A zs.length c), .int .i64 x, .int .i64 d, .int .i64 room] w fun e w' => e = .returned (.bool true) ∧ Below w.heap.size w w' := by
  have HS := Lib.hid hs
  have HN := Lib.hid hn
  have HC := Lib.hid hc
  have HPL := Lib.hid (padd_len r k x d zs)
  clear hs hn hc
  go_enter Try.func4, Try.ntmps4
  go_wp2_with fail
  refine (new_any room _).mono ?_
  rintro e w1 ⟨⟨v1, rfl, hp1⟩, hb1⟩
  have B4 : Hid (Blk w1 w.heap.size 35 (pcells r k (.slice A zs.length c))) := (Blk.new w _ _).below hb1 (by simp)
  have HE1 : Hid (Below w.heap.size w w1) := ((Below.refl _ _).alloc (Nat.le_refl _) _).trans (hb1.mono (by simp))
  have HP1 := Lib.hid hp1
  obtain ⟨A1, c1, rfl, s1⟩ := hp1
  have HR : Hid (((room < 1 ∨ 400 < room) ∧ pnew room = ((0, 0, []), 2)) ∨ (1 ≤ room ∧ room ≤ 400 ∧ pnew room = ((room, 0, []), 0))) := by
    unfold Hid pnew
    by_cases h : 1 ≤ room ∧ room ≤ 400
    · exact .inr ⟨h.1, h.2, if_pos h⟩
    · exact .inl ⟨by omega, if_neg h⟩
  generalize pnew room = pn at *
  obtain ⟨⟨pr, pk, pl⟩, pe⟩ := pn
  have k0 := B4.out.cell 0 (u := .int .i64 r) rfl
  have k1 := B4.out.cell 1 (u := .int .i64 k) rfl
  have k2 := B4.out.cell 2 (u := .slice A zs.length c) rfl
  have hl4 := B4.out.lt
  clear hb1 s1
  dsimp only
  go_wp2_with fail
  refine (HN.out _).mono ?_
  rintro e w2 ⟨rfl, hb2⟩
  have B4' : Hid (Blk w2 w.heap.size 35 (pcells r k (.slice A zs.length c))) := (B4.out.alloc _).below hb2 (by simp; omega)
  have B9 : Hid (Blk w2 w1.heap.size 35 (pcells pr pk (.slice A1 pl.length c1))) := (Blk.new w1 _ _).below hb2 (by simp)
  have HE2 : Hid (Below w1.heap.size w1 w2) := ((Below.refl _ _).alloc (Nat.le_refl _) _).trans (hb2.mono (by simp))
  have HP1' : Hid (PoolIs w2 (PoolV pr pk (.slice A1 pl.length c1)) (pr, pk, pl)) := HP1.out.below HE2.out
  clear k0 k1 k2 hl4 hb2
  have k0 := B4'.out.cell 0 (u := .int .i64 r) rfl
  have k1 := B4'.out.cell 1 (u := .int .i64 k) rfl
  have k2 := B4'.out.cell 2 (u := .slice A zs.length c) rfl
  go_wp2_with fail
  have HE3 : Hid (Below w.heap.size w w2) := HE1.out.trans (HE2.out.mono HE1.out.size)
  refine (add_any A zs r k x d c w2 ((HS.out.below HE3.out).more HE3.out.size)).mono ?_
  rintro e w3 ⟨⟨v3, rfl, hp3⟩, hb3⟩
  have C4 : Hid (Blk w3 w.heap.size 35 (pcells r k (.slice A zs.length c))) := B4'.out.below hb3 B4'.out.lt
  have C9 : Hid (Blk w3 w1.heap.size 35 (pcells pr pk (.slice A1 pl.length c1))) := B9.out.below hb3 B9.out.lt
  have HE4 : Hid (Below w.heap.size w w3) := HE3.out.trans (hb3.mono HE3.out.size)
  have HP1'' : Hid (PoolIs w3 (PoolV pr pk (.slice A1 pl.length c1)) (pr, pk, pl)) := HP1'.out.below hb3
  have HP3 := Lib.hid hp3
  generalize hpa : padd r k zs x d = pa at *
  obtain ⟨⟨qr, qk, ql⟩, qe⟩ := pa
  have HPA := Lib.hid hpa
  obtain ⟨A3, c3, rfl, s3⟩ := hp3
  clear k0 k1 k2 hb3 s3 hpa
  have k0 := C4.out.cell 0 (u := .int .i64 r) rfl
  have k1 := C4.out.cell 1 (u := .int .i64 k) rfl
  have k2 := C4.out.cell 2 (u := .slice A zs.length c) rfl
  have hl4 := C4.out.lt
  dsimp only
  go_wp2_with fail
  have HE5 : Hid (Below w.heap.size w (w3.alloc (.cells (pcells qr qk (.slice A3 ql.length c3)) 35))) := HE4.out.alloc HE4.out.size _
  refine (fadd_any A zs r k x d c _ ((HS.out.below HE5.out).more HE5.out.size)).mono ?_
  rintro e w4 ⟨⟨v4, rfl, hp4⟩, hb4⟩
  rw [HPA.out] at hp4
  rw [HPA.out]
  have D4 : Hid (Blk w4 w.heap.size 35 (pcells r k (.slice A zs.length c))) := (C4.out.alloc _).below hb4 (by simp; omega)
  have D9 : Hid (Blk w4 w1.heap.size 35 (pcells pr pk (.slice A1 pl.length c1))) := (C9.out.alloc _).below hb4 (by have := C9.out.lt; simp; omega)
  have D13 : Hid (Blk w4 w3.heap.size 35 (pcells qr qk (.slice A3 ql.length c3))) := (Blk.new w3 _ _).below hb4 (by simp)
  have HE6 : Hid (Below w3.heap.size w3 w4) := ((Below.refl _ _).alloc (Nat.le_refl _) _).trans (hb4.mono (by simp))
  have HP9 : Hid (PoolIs w4 (PoolV pr pk (.slice A1 pl.length c1)) (pr, pk, pl)) := HP1''.out.below HE6.out
  have HP13 : Hid (PoolIs w4 (PoolV qr qk (.slice A3 ql.length c3)) (qr, qk, ql)) := HP3.out.below HE6.out
  have HP15 := Lib.hid hp4
  obtain ⟨A4, c4, rfl, s4⟩ := hp4
  clear k0 k1 k2 hl4 hb4 s4
  dsimp only
  have L4 := D4.out.lt
  have L9 := D9.out.lt
  have m0 := D9.out.cell 0 (u := .int .i64 pr) rfl
  have m1 := D9.out.cell 1 (u := .int .i64 pk) rfl
  have m2 := D9.out.cell 2 (u := .slice A1 pl.length c1) rfl
  have HK : Hid (Below w4.heap.size w4 (w4.alloc (.cells (pcells qr qk (.slice A4 ql.length c4)) 35))) := (Below.refl _ _).alloc (Nat.le_refl _) _
  have hrr : (room < 1 ∧ pr = 0 ∧ pk = 0 ∧ pl = [] ∧ pe = 2) ∨ (1 ≤ room ∧ 400 < room ∧ pr = 0 ∧ pk = 0 ∧ pl = [] ∧ pe = 2) ∨ (1 ≤ room ∧ room ≤ 400 ∧ pr = room ∧ pk = 0 ∧ pl = [] ∧ pe = 0) := by
    have := HR.out
    simp only [Prod.mk.injEq] at this
    rcases this with ⟨h | h, ⟨a, b, c⟩, e⟩ | ⟨h1, h2, ⟨a, b, c⟩, e⟩
    · exact .inl ⟨h, a, b, c, e⟩
    · by_cases h1 : room < 1
      · exact .inl ⟨h1, a, b, c, e⟩
      · exact .inr (.inl ⟨by omega, h, a, b, c, e⟩)
    · exact .inr (.inr ⟨h1, h2, a, b, c, e⟩)
  clear HR
  rcases hrr with ⟨r1, rfl, rfl, rfl, rfl⟩ | ⟨r1, r2, rfl, rfl, rfl, rfl⟩ | ⟨r1, r2, rfl, rfl, rfl, rfl⟩
  all_goals
    go_wp2_with fail
    refine (same_refl _ _ _ _ (HP9.out.below HK.out) (nil_is _ _ _) (by simp)).mono ?_
    rintro e w5 ⟨rfl, hb5⟩
    have HE7 : Hid (Below w4.heap.size w4 w5) := HK.out.trans (hb5.mono (by simp))
    have E4 := Lib.hid (D4.out.below HE7.out D4.out.lt)
    have E13 := Lib.hid (D13.out.below HE7.out D13.out.lt)
    have E15 : Hid (Blk w5 w4.heap.size 35 (pcells qr qk (.slice A4 ql.length c4))) := (Blk.new w4 _ _).below hb5 (by simp)
    have HQ13 := Lib.hid (HP13.out.below HE7.out)
    have HQ15 := Lib.hid (HP15.out.below HE7.out)
    have HE8 : Hid (Below w.heap.size w w5) := HE4.out.trans ((HE6.out.trans (HE7.out.mono HE6.out.size)).mono HE4.out.size)
    have HKEEP : Hid (∀ w', Below w5.heap.size w5 w' → LKeep w5 w' w.heap.size w3.heap.size w4.heap.size r k (.slice A zs.length c) qr qk (.slice A3 ql.length c3) qr qk (.slice A4 ql.length c4)) := fun w' h => lkeep_of E4.out E13.out E15.out h
    clear m0 m1 m2 L4 L9 hb5
    have hq1 : (decide (fright r k zs.length) != decide (fright r k zs.length)) = false := by simp
    have hq2 : (qe != qe) = false := by simp
    have HD : Hid (Below w5.heap.size w5 w5.drew) := below_drewN (Below.refl _ _) 1
    have HTR : Hid (∀ W1 W2 : World, Below w5.heap.size w5 W1 → Below W1.heap.size W1 W2 → Below w5.heap.size w5 W2) := fun W1 W2 h1 h2 => h1.trans (h2.mono h1.size)
    go_wp2_with fail
    go_region_held3 (fun w' => w'.cell? ⟨w.heap.size, 0, none⟩ = some (.int .i64 r) ∧ w'.cell? ⟨w.heap.size, 1, none⟩ = some (.int .i64 k) ∧ w'.cell? ⟨w.heap.size, 2, none⟩ = some (.slice A zs.length c) ∧
      w'.cell? ⟨w3.heap.size, 0, none⟩ = some (.int .i64 qr) ∧ w'.cell? ⟨w3.heap.size, 1, none⟩ = some (.int .i64 qk) ∧ w'.cell? ⟨w3.heap.size, 2, none⟩ = some (.slice A3 ql.length c3) ∧
      w'.cell? ⟨w4.heap.size, 0, none⟩ = some (.int .i64 qr) ∧ w'.cell? ⟨w4.heap.size, 1, none⟩ = some (.int .i64 qk) ∧ w'.cell? ⟨w4.heap.size, 2, none⟩ = some (.slice A4 ql.length c4) ∧ Below w5.heap.size w5 w')
      (first | exact HKEEP.out _ HD.out | exact HKEEP.out _ (HTR.out _ _ (by assumption) (by assumption)))
      (first
        | (go_at_call 20; refine (right_any A r k zs.length c _).mono ?_; rintro e w6 ⟨rfl, hb6⟩; go_split_ands)
        | (go_at_call 21; refine (rright_any A r k zs.length c _).mono ?_; rintro e w6 ⟨rfl, hb6⟩; go_split_ands)
        | (go_at_call 19; go_split_ands; refine (same_refl _ _ _ _ (HQ13.out.below (by assumption)) (HQ15.out.below (by assumption)) (by have := HPL.out; simp; omega)).mono ?_; rintro e w6 ⟨rfl, hb6⟩))
    go_split_ands
    go_wp2_with fail
    refine (rright_any A r k zs.length c _).mono ?_
    rintro e w7 ⟨rfl, hb7⟩
    have HX : Hid (Below w5.heap.size w5 w7) := HTR.out _ _ (by assumption) hb7
    have HXX : Hid (Below w.heap.size w w7) := HE8.out.trans (HX.out.mono HE8.out.size)
    have c1 := (E4.out.below HX.out E4.out.lt).cell 1 (u := .int .i64 k) rfl
    clear hb7
    rcases HC.out with ⟨hF, rfl, rfl, ka, kb⟩ | ⟨hF, rfl, rfl⟩
    · have hd : decide (fright r k zs.length) = true := decide_eq_true hF
      rw [hd]
      clear hF hd HC HKEEP HN HTR hq1
      have hkk : (k + 1 == k + 1) = true := by simp
      go_wp2
      go_ret
      exact ⟨rfl, HXX.out⟩
    · have hd : decide (fright r k zs.length) = false := decide_eq_false hF
      rw [hd]
      clear hF hd HC HKEEP HN HTR hq1
      go_wp2
      go_ret
      exact ⟨rfl, HXX.out⟩
theorem PoolAdds_walk (p : Int × Int × Option Addr × List Int × Nat) (x d room : Int) (w : World) (hs : Seg w w.heap.size p.2.2.1 (p.2.2.2.1.map (.int .i64))) (_ : (Lit.int .i64 x).wf = true) (_ : (Lit.int .i64 d).wf = true) (_ : (Lit.int .i64 room).wf = true) :
    Calls Try.prog 4 #[PoolV p.1 p.2.1 (.slice p.2.2.1 p.2.2.2.1.length p.2.2.2.2), .int .i64 x, .int .i64 d, .int .i64 room] w fun e w' => e = .returned (.bool true) ∧ Below w.heap.size w w' := by
  obtain ⟨r, k, A, zs, c⟩ := p
  by_cases h : fright r k zs.length
  · exact PoolAdds_core A zs r k x d room (k + 1) 0 c w hs (fun w => by have := need_any A r k zs.length c w; rwa [if_pos h, if_pos h] at this) (.inl ⟨h, rfl, rfl, h.2.2.1, h.2.2.2.1⟩)
  · exact PoolAdds_core A zs r k x d room 0 1 c w hs (fun w => by have := need_any A r k zs.length c w; rwa [if_neg h, if_neg h] at this) (.inr ⟨h, rfl, rfl⟩)
end Go.Proofs.Ytakjcodfcoaadab
