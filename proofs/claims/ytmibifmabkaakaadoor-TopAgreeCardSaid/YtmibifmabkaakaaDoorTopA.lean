/- The statement TopAgree, walked. No condition but the library's tables. -/
import Derived.Test.YtmibifmabkaakaaDoorBenD
import Derived.Test.YtmibifmabkaakaaDoorTopG
import Derived.Deep.DeepCutAuto
namespace Go.Proofs.YtmibifmabkaakaaDoor
open Go.ChangeShapes Go.WideShapes Go.ChangeAt Go.RowKit
set_option linter.unusedVariables false

theorem asumR_le {l : List Int} {e : Int} (h : (asumR l).2 = e) : e = 0 ∨ e = 2 ∨ e = 3 := by
  unfold asumR at h
  split at h
  · split at h <;> simp at h <;> omega
  · simp at h; omega
set_option maxRecDepth 20000 in
set_option maxHeartbeats 4000000 in
theorem agree_no (l : List Int) (A : Option Addr) (c : Nat) (w : World) (hs : Seg w w.heap.size A (l.map (.int .i64))) (hm : l.length ≤ 9223372036854775807) (hL : LibW w)
    (hno : (asumR l).2 ≠ 0 ∨ 200 < (asumR l).1 ∨ 12 < l.length) :
    Calls Tryd.prog 6 #[.slice A l.length c] w fun e w' => e = .returned (.bool true) ∧ Below w.heap.size w w' := by
  have HA := Lib.hid (alive_any w hL)
  have HS := Lib.hid hs
  have HM := Lib.hid hm
  clear hs hL
  obtain ⟨⟨S, e⟩, hr⟩ : ∃ r, r = asumR l := ⟨_, rfl⟩
  rw [← hr] at hno
  have HR := Lib.hid hr
  have HSUM : Hid (∀ u B, Seg u B A (l.map (.int .i64)) → Calls Tryd.prog 22 #[.slice A l.length c] u fun e' w' => e' = .returned (.tuple #[.int .i64 S, .int .i64 e]) ∧ u = w') := fun u B hu => by
    have h := asum_any l A c B u hu HM.out
    rw [← hr] at h
    exact h
  clear hr
  by_cases h1 : e = 0
  · subst h1
    simp only [ne_eq, not_true_eq_false, false_or] at hno
    by_cases h2 : 200 < S
    · clear hno
      go_enter Tryd.func6, Tryd.ntmps6
      go_wp2_with fail
      refine HA.out.mono ?_
      rintro e w2 ⟨rfl, hb2⟩
      have HB2 := Lib.hid hb2
      have HSU := Lib.hid (HSUM.out w2 _ (HS.out.below hb2))
      clear hb2 HSUM
      go_wp2_with fail
      refine HSU.out.mono ?_
      rintro e w3 ⟨rfl, rfl⟩
      go_wp2_with fail
      go_ret
      exact ⟨rfl, HB2.out⟩
    · have h3 : (12 : Int) < (l.length : Int) := by omega
      clear hno
      go_enter Tryd.func6, Tryd.ntmps6
      go_wp2_with fail
      refine HA.out.mono ?_
      rintro e w2 ⟨rfl, hb2⟩
      have HB2 := Lib.hid hb2
      have HSU := Lib.hid (HSUM.out w2 _ (HS.out.below hb2))
      clear hb2 HSUM
      go_wp2_with fail
      refine HSU.out.mono ?_
      rintro e w3 ⟨rfl, rfl⟩
      go_wp2_with fail
      go_ret
      exact ⟨rfl, HB2.out⟩
  · have b1 : (e != 0) = true := by simp [h1]
    clear hno h1
    go_enter Tryd.func6, Tryd.ntmps6
    go_wp2_with fail
    refine HA.out.mono ?_
    rintro e w2 ⟨rfl, hb2⟩
    have HB2 := Lib.hid hb2
    have HSU := Lib.hid (HSUM.out w2 _ (HS.out.below hb2))
    clear hb2 HSUM
    go_wp2_with fail
    refine HSU.out.mono ?_
    rintro e w3 ⟨rfl, rfl⟩
    go_wp2_with fail
    go_ret
    exact ⟨rfl, HB2.out⟩
/-- Three rows of numbers, in blocks of their own. -/
structure R3 (w : World) (x y z n : Nat) (f g h : Nat → Int) : Prop where
  x : w.rowIs x 3 n (fun k => .int .i64 (f k))
  y : w.rowIs y 3 n (fun k => .int .i64 (g k))
  z : w.rowIs z 3 n (fun k => .int .i64 (h k))
/-- Three rows of noughts were made, in some order. -/
def Made3 (w wx : World) (n : Nat) (a b c : Value) : Prop := ∃ x y z : Nat, a = .slice (some ⟨x, 0, none⟩) n n ∧ b = .slice (some ⟨y, 0, none⟩) n n ∧ c = .slice (some ⟨z, 0, none⟩) n n ∧ (x ≠ y ∧ x ≠ z ∧ y ≠ z ∧ w.heap.size ≤ x ∧ w.heap.size ≤ y ∧ w.heap.size ≤ z) ∧
  R3 wx x y z n (fun _ => 0) (fun _ => 0) (fun _ => 0) ∧ Below w.heap.size w wx
theorem made3_is (w : World) (n : Nat) : ∀ x, (x = w.heap.size ∨ x = w.heap.size + 1 ∨ x = w.heap.size + 2) →
    (((w.alloc (Obj.cells (madeCells #[Value.int IntKind.i64 0] n) 3)).alloc (Obj.cells (madeCells #[Value.int IntKind.i64 0] n) 3)).alloc (Obj.cells (madeCells #[Value.int IntKind.i64 0] n) 3)).drew.rowIs x 3 n (fun _ => .int .i64 0) := by
  intro x hx
  obtain ⟨w1, h1⟩ : ∃ w1, w1 = w.alloc (Obj.cells (madeCells #[Value.int IntKind.i64 0] n) 3) := ⟨_, rfl⟩
  obtain ⟨w2, h2⟩ : ∃ w2, w2 = w1.alloc (Obj.cells (madeCells #[Value.int IntKind.i64 0] n) 3) := ⟨_, rfl⟩
  rw [← h1, ← h2]
  have s1 : w1.heap.size = w.heap.size + 1 := by rw [h1]; simp
  have s2 : w2.heap.size = w.heap.size + 2 := by rw [h2]; simp [s1]
  have r1 : w1.rowIs w.heap.size 3 n (fun _ => .int .i64 0) := by rw [h1]; exact World.rowIs_made w (.int .i64 0) n 3
  have r2 : w2.rowIs w1.heap.size 3 n (fun _ => .int .i64 0) := by rw [h2]; exact World.rowIs_made w1 (.int .i64 0) n 3
  have r3 := World.rowIs_made w2 (.int .i64 0) n 3
  have b2 : Below w1.heap.size w1 w2 := by rw [h2]; exact (Below.refl _ _).alloc (Nat.le_refl _) _
  have b3 := (Below.refl w2.heap.size w2).alloc (Nat.le_refl _) (Obj.cells (madeCells #[Value.int IntKind.i64 0] n) 3)
  refine rowIs_drewN ?_ 1
  rcases hx with rfl | rfl | rfl
  · exact rowIs_below (rowIs_below r1 b2 (by omega)) b3 (by omega)
  · rw [s1] at r2
    exact rowIs_below r2 b3 (by omega)
  · rw [s2] at r3
    exact r3
theorem made3_of (w : World) (n x y z : Nat) (h : (x = w.heap.size ∨ x = w.heap.size + 1 ∨ x = w.heap.size + 2) ∧ (y = w.heap.size ∨ y = w.heap.size + 1 ∨ y = w.heap.size + 2) ∧ (z = w.heap.size ∨ z = w.heap.size + 1 ∨ z = w.heap.size + 2) ∧ x ≠ y ∧ x ≠ z ∧ y ≠ z) :
    Made3 w (((w.alloc (Obj.cells (madeCells #[Value.int IntKind.i64 0] n) 3)).alloc (Obj.cells (madeCells #[Value.int IntKind.i64 0] n) 3)).alloc (Obj.cells (madeCells #[Value.int IntKind.i64 0] n) 3)).drew n (.slice (some ⟨x, 0, none⟩) n n) (.slice (some ⟨y, 0, none⟩) n n) (.slice (some ⟨z, 0, none⟩) n n) := by
  obtain ⟨hx, hy, hz, h1, h2, h3⟩ := h
  refine ⟨x, y, z, rfl, rfl, rfl, ⟨h1, h2, h3, by omega, by omega, by omega⟩, ⟨made3_is w n x hx, made3_is w n y hy, made3_is w n z hz⟩, ?_⟩
  refine below_drewN (n := 1) ?_
  exact (((Below.refl w.heap.size w).alloc (Nat.le_refl _) _).alloc (by simp) _).alloc (by simp; omega) _
theorem R3.one {w : World} {x y z n d : Nat} {f g h : Nat → Int} (hr : R3 w x y z n f g h) (hxy : x ≠ y) (hxz : x ≠ z) {v : Int} {f' : Nat → Int} (hf : ∀ k, f' k = if k = d then v else f k) : R3 (w.setCell ⟨x, d, none⟩ (.int .i64 v)) x y z n f' g h where
  x := (hr.x.set d _).congr fun i hi => by rw [hf]; split <;> rfl
  y := hr.y.setOther (Ne.symm hxy) _
  z := hr.z.setOther (Ne.symm hxz) _
theorem R3.two {w : World} {x y z n d : Nat} {f g h : Nat → Int} (hr : R3 w x y z n f g h) (hxy : x ≠ y) (hyz : y ≠ z) {v : Int} {g' : Nat → Int} (hf : ∀ k, g' k = if k = d then v else g k) : R3 (w.setCell ⟨y, d, none⟩ (.int .i64 v)) x y z n f g' h where
  x := hr.x.setOther hxy _
  y := (hr.y.set d _).congr fun i hi => by rw [hf]; split <;> rfl
  z := hr.z.setOther (Ne.symm hyz) _
theorem R3.three {w : World} {x y z n d : Nat} {f g h : Nat → Int} (hr : R3 w x y z n f g h) (hxz : x ≠ z) (hyz : y ≠ z) {v : Int} {h' : Nat → Int} (hf : ∀ k, h' k = if k = d then v else h k) : R3 (w.setCell ⟨z, d, none⟩ (.int .i64 v)) x y z n f g h' where
  x := hr.x.setOther hxz _
  y := hr.y.setOther hyz _
  z := (hr.z.set d _).congr fun i hi => by rw [hf]; split <;> rfl
theorem rw13 {p : Nat} (h : p < 300) : wrap64 ((p : Int) + 1) = ((p + 1 : Nat) : Int) := by unfold wrap64; omega
theorem own_one {w : World} {base : Nat} {e : TypeId} {v u : Value} (h : Own w base e v [u]) : ∃ g cap, v = .slice (some ⟨g, 0, none⟩) 1 cap ∧ base ≤ g ∧ g < w.heap.size ∧ w.cell? ⟨g, 0, none⟩ = some u := by
  obtain ⟨A, c, h1, _, h3⟩ := h.res
  have hl := h.lt
  rcases h.2 with ⟨_, h0⟩ | ⟨g, cap, cur, rfl, hg, _⟩
  · simp at h0
  · injection h1 with h1 _ _
    subst h1
    obtain ⟨ad, e1, _, hc⟩ := h3.get (show [u][0]? = some u from rfl)
    injection e1 with e1
    subst e1
    have e0 : ({ block := g, off := 0, spot := none } : Addr).add 0 = { block := g, off := 0, spot := none } := by simp [Addr.add]
    rw [e0] at hc
    exact ⟨g, cap, rfl, hg, hl g rfl, hc⟩
theorem R3.below {w w' : World} {x y z n : Nat} {f g h : Nat → Int} (hr : R3 w x y z n f g h) (hb : Below w.heap.size w w') : R3 w' x y z n f g h :=
  ⟨rowIs_below hr.x hb hr.x.lt, rowIs_below hr.y hb hr.y.lt, rowIs_below hr.z hb hr.z.lt⟩
set_option maxRecDepth 20000 in
set_option maxHeartbeats 4000000 in
theorem agree_core (l : List Int) (A : Option Addr) (c S : Nat) (w : World) (hs : Seg w w.heap.size A (l.map (.int .i64))) (hL : LibW w)
    (hr : asumR l = ((S : Int), 0)) (hS : S ≤ 200) (hl : l.length ≤ 12) :
    Calls Tryd.prog 6 #[.slice A l.length c] w fun e w' => e = .returned (.bool true) ∧ Below w.heap.size w w' := by
  have HA := Lib.hid (alive_any w hL)
  have HS := Lib.hid hs
  have HL := Lib.hid (And.intro hS hl)
  clear hs hL
  have hg := asum_good (l := l) (by rw [hr])
  have hwd : ∀ p, p < l.length → 0 ≤ pat l p ∧ pat l p ≤ 1048576 := aokc_at hg.2.2.1
  have hS2 : asum l l.length = (S : Int) := by rw [← hg.2.2.2.2, hr]
  have HW : Hid (∀ p, p < l.length → 0 ≤ pat l p ∧ pat l p ≤ 1048576) := hwd
  have HONE := Lib.hid (agree_one (fun p hp => (hwd p hp).1) hS2)
  have HTWO : Hid (∀ k, k < l.length → twoF l k S = pat l k) := fun k hk => agree_two (fun p hp => (hwd p hp).1) hS2 hk
  have HTHR : Hid (∀ x : Nat, x < S → pickR l x = (((topk l x l.length : Nat) : Int), 0) ∧ ptake l 1 x = ([((topk l x l.length : Nat) : Int)], 0) ∧ topk l x l.length < l.length) := fun x hx => agree_three (by omega) hwd hS2 hx
  have HSUM : Hid (∀ u B, Seg u B A (l.map (.int .i64)) → Calls Tryd.prog 22 #[.slice A l.length c] u fun e' w' => e' = .returned (.tuple #[.int .i64 S, .int .i64 0]) ∧ u = w') := fun u B hu => by
    have h := asum_any l A c B u hu (by omega)
    rw [hr] at h
    exact h
  have HMK : Hid (∀ u, Seg u u.heap.size A (l.map (.int .i64)) → Calls Tryd.prog 23 #[.slice A l.length c] u fun e w' => ∃ A2 c2, e = .returned (.tuple #[.slice A2 l.length c2, .int .i64 0]) ∧ Seg w' w'.heap.size A2 (flat (ptab (amakeF l).V (amakeF l).T l.length)) ∧ Below u.heap.size u w') := fun u hu => by
    have h := amake_any l A c u hu (by omega)
    have e1 : amakeL l = ptab (amakeF l).V (amakeF l).T l.length := if_pos (by rw [hr])
    rw [hr, e1] at h
    obtain h := h
    refine h.mono ?_
    rintro e w' ⟨A2, c2, h1, _, h3, h4⟩
    rw [ptab_len] at h1
    exact ⟨A2, c2, h1, h3, h4⟩
  have hmk := run_make_row' (P := Tryd.prog) 23 3 (.int .i64 0) 8 Tryd.underlying23 (by kernel_rfl) rfl .i64 .i64 l.length (by omega) (by omega)
  have i1 : ¬ (200 : Int) < (S : Int) := by omega
  have i2 : ¬ (12 : Int) < (l.length : Int) := by omega
  clear hr hS hl hg hwd hS2
  go_enter Tryd.func6, Tryd.ntmps6
  go_wp2_with fail
  refine HA.out.mono ?_
  rintro e w2 ⟨rfl, hb2⟩
  have HB2 := Lib.hid hb2
  have HSU := Lib.hid (HSUM.out w2 _ (HS.out.below hb2))
  clear hb2 HSUM
  go_wp2_with fail
  refine HSU.out.mono ?_
  rintro e w3 ⟨rfl, rfl⟩
  clear HSU
  have HMK2 := Lib.hid (HMK.out w2 ((HS.out.below HB2.out).more HB2.out.size))
  clear HMK
  go_wp2_with fail
  refine HMK2.out.mono ?_
  rintro e w4 ⟨A4, c4, rfl, hs4, hb4⟩
  have HS4 := Lib.hid hs4
  have HB4 := Lib.hid (HB2.out.trans (hb4.mono HB2.out.size))
  clear hs4 hb4 HMK2 HB2
  go_wp2_with fail
  clear i1 i2
  go_upto_region 8 with (fail)
  go_cut [8, 9, 10] (fun s8 s9 s10 wx => Made3 w4 wx l.length s8 s9 s10)
  case first =>
    go_region
    all_goals (go_wp2_with fail; go_meet; exact made3_of _ _ _ _ _ (by omega))
  case rest =>
    obtain ⟨x, y, z, rfl, rfl, rfl, hne, hr3, hbc⟩ := hcut
    have HNE := Lib.hid hne
    have HR0 := Lib.hid hr3
    have HBC := Lib.hid hbc
    clear hne hr3 hbc
    clear hmk
    go_wp2_with fail
    go_loopw [55] (fun s55 wx => ∃ p : Nat, p ≤ l.length ∧ s55 = .int .i64 p ∧ R3 wx x y z l.length (oneF (amakeF l).V (amakeF l).T S p 0) (fun _ => 0) (fun _ => 0) ∧ Below w4.heap.size w4 wx) (fun s55 _ => l.length - (intOf s55).toNat)
    case atStart => exact ⟨0, Nat.zero_le _, rfl, ⟨HR0.out.x.congr (fun i _ => by rw [oneF_zero]), HR0.out.y, HR0.out.z⟩, HBC.out⟩
    case round =>
      obtain ⟨p, hpl, rfl, hr3, hbel⟩ := hrel
      have HRR := Lib.hid hr3
      have HBB := Lib.hid hbel
      clear hr3 hbel
      by_cases hlt : p < l.length
      · have j1 : (p : Int) < (l.length : Int) := by omega
        have j2 : (0 : Int) ≤ (S : Int) := by omega
        have HPL := Lib.hid hlt
        clear hlt hpl
        obtain ⟨wo, rfl⟩ : ∃ wo : World, wo = wr := ⟨_, rfl⟩
        go_wp2_with fail
        clear j1
        go_loopw [59] (fun s59 wx => ∃ v : Nat, v ≤ S ∧ s59 = .int .i64 v ∧ R3 wx x y z l.length (oneF (amakeF l).V (amakeF l).T S p v) (fun _ => 0) (fun _ => 0) ∧ Below w4.heap.size w4 wx) (fun s59 _ => S - (intOf s59).toNat)
        case atStart => exact ⟨0, Nat.zero_le _, rfl, HRR.out, HBB.out⟩
        case round =>
          obtain ⟨v, hvS, rfl, hr3, hbel⟩ := hrel
          have HR1 := Lib.hid hr3
          have HB1 := Lib.hid hbel
          clear hr3 hbel
          by_cases hvl : v < S
          · have j3 : (v : Int) < (S : Int) := by omega
            have HVS := Lib.hid hvl
            obtain ⟨D, hD⟩ : ∃ D : Nat, dv (amakeF l).V (amakeF l).T p (v : Int) = (D : Int) := by
              have := (HONE.out.1 p HPL.out v (by omega) (by omega)).1
              exact ⟨(dv (amakeF l).V (amakeF l).T p (v : Int)).toNat, by omega⟩
            have hDn : D < l.length := by
              have := (HONE.out.1 p HPL.out v (by omega) (by omega)).2
              omega
            have HDR : Hid (Calls Tryd.prog 24 #[.slice A4 l.length c4, .int .i64 (p : Int), .int .i64 (v : Int)] wr fun e w' => e = .returned (.tuple #[.int .i64 (D : Nat), .int .i64 0]) ∧ wr = w') := by
              have h := adraw_any (ptab (amakeF l).V (amakeF l).T l.length) A4 c4 w4.heap.size p v wr (HS4.out.below HB1.out) (by rw [ptab_len]; have := HL.out; omega)
              have e1 : adrawR (ptab (amakeF l).V (amakeF l).T l.length) p v = ((D : Int), 0) := by
                unfold adrawR
                have := HPL.out
                rw [ptab_len, if_pos (by omega), Int.toNat_natCast, prat_ptab HPL.out]
                unfold dv at hD
                rw [← hD]
              rw [ptab_len, e1] at h
              exact h
            have HSTEP : Hid (∀ k, oneF (amakeF l).V (amakeF l).T S p (v + 1) k = if k = D then oneF (amakeF l).V (amakeF l).T S p v D + 1 else oneF (amakeF l).V (amakeF l).T S p v k) := fun k => by
              rw [oneF_step, hD]
              by_cases e : k = D
              · subst e; rw [if_pos rfl, if_pos rfl]
              · rw [if_neg e, if_neg (by omega), Int.add_zero]
            have hbd := oneF_bd (k := D) (amakeF l).V (amakeF l).T HL.out.1 (Nat.le_of_lt (Nat.lt_of_lt_of_le HPL.out HL.out.2)) hvS
            have hc := HR1.out.x.cell hDn
            have hf := HR1.out.x.frozen D
            obtain ⟨O, hO⟩ : ∃ O, O = oneF (amakeF l).V (amakeF l).T S p v D := ⟨_, rfl⟩
            rw [← hO] at hc hbd HSTEP
            have i1 : ¬ (D : Int) < 0 := by omega
            have i2 : ¬ (l.length : Int) ≤ (D : Int) := by omega
            have i3 : (D : Int) < (l.length : Int) := by omega
            obtain ⟨i4, i5⟩ := hbd
            have i6 : wrap64 (O + 1) = O + 1 := by unfold wrap64; omega
            have HI6 := Lib.hid i6
            clear hD hO hDn hvl hvS i6
            go_wp2_with fail
            refine (HDR.out).mono ?_
            rintro e w5 ⟨rfl, rfl⟩
            go_wp2_with fail
            refine ⟨⟨v + 1, HVS.out, rfl, HR1.out.one HNE.out.1 HNE.out.2.1 HSTEP.out, HB1.out.setCell HNE.out.2.2.2.1 _⟩, ?_⟩
            have := HVS.out
            simp [intOf]; omega
          · have hve : v = S := by omega
            have j3 : ¬ (v : Int) < (S : Int) := by omega
            have HUP : Hid (wrap64 ((p : Int) + 1) = ((p + 1 : Nat) : Int)) := rw13 (by have := HPL.out; have := HL.out; omega)
            have HR2 : Hid (R3 wr x y z l.length (oneF (amakeF l).V (amakeF l).T S (p + 1) 0) (fun _ => 0) (fun _ => 0)) := ⟨HR1.out.x.congr (fun i _ => by rw [hve, oneF_next]), HR1.out.y, HR1.out.z⟩
            clear hvS hvl hve
            go_wp2_with fail
            go_roundw
            case rel => exact ⟨p + 1, HPL.out, by first | rfl | rw [HUP.out], HR2.out, HB1.out⟩
            case measure => (try rw [HUP.out]); have := HPL.out; simp [intOf]; omega
      · have hpe : p = l.length := by omega
        have j1 : ¬ (p : Int) < (l.length : Int) := by omega
        have j2 : (0 : Int) ≤ (S : Int) := by omega
        have HF : Hid (∀ k, k < l.length → oneF (amakeF l).V (amakeF l).T S p 0 k = l.length * pat l k) := fun k hk => by rw [hpe]; exact HONE.out.2 k hk
        obtain ⟨F, hF⟩ : ∃ F, F = oneF (amakeF l).V (amakeF l).T S p 0 := ⟨_, rfl⟩
        rw [← hF] at HRR HF
        clear hpl hlt hpe hF
        go_wp2_with fail
        clear j1
        go_loopw [89] (fun s89 wx => ∃ v : Nat, v ≤ S ∧ s89 = .int .i64 v ∧ R3 wx x y z l.length F (fun k => twoF l k v) (fun k => twoF l k v) ∧ Below w4.heap.size w4 wx) (fun s89 _ => S - (intOf s89).toNat)
        case atStart => exact ⟨0, Nat.zero_le _, rfl, HRR.out, HBB.out⟩
        case round =>
          obtain ⟨v, hvS, rfl, hr3, hbel⟩ := hrel
          have HR1 := Lib.hid hr3
          have HB1 := Lib.hid hbel
          clear hr3 hbel
          by_cases hvl : v < S
          · have j3 : (v : Int) < (S : Int) := by omega
            have HVS := Lib.hid hvl
            obtain ⟨K, hK⟩ : ∃ K, K = topk l (v : Int) l.length := ⟨_, rfl⟩
            obtain ⟨t1, t2, t3⟩ := HTHR.out v hvl
            rw [← hK] at t1 t2 t3
            have HSG := Lib.hid ((HS.out.below (HB4.out.trans (HB1.out.mono HB4.out.size))).more (Nat.le_trans HB4.out.size HB1.out.size))
            have HPK : Hid (Calls Tryd.prog 25 #[.slice A l.length c, .int .i64 (v : Int)] wr fun e w' => e = .returned (.tuple #[.int .i64 (K : Nat), .int .i64 0]) ∧ Below wr.heap.size wr w') := by
              have h := pick_any l (v : Int) A c wr HSG.out (by have := HL.out; omega)
              rw [t1] at h
              exact h
            have HTK : Hid (∀ u, Seg u u.heap.size A (l.map (.int .i64)) → Calls Tryd.prog 26 #[.slice A l.length c, .int .i64 1, .int .i64 (v : Int)] u fun e w' => ∃ g cap, e = .returned (.tuple #[.slice (some ⟨g, 0, none⟩) 1 cap, .int .i64 0]) ∧ u.heap.size ≤ g ∧ g < w'.heap.size ∧ w'.cell? ⟨g, 0, none⟩ = some (.int .i64 (K : Nat)) ∧ Below u.heap.size u w') := fun u hu => by
              have h := take_own A l c u.heap.size 1 (v : Int) u hu (Nat.le_refl _)
              rw [t2] at h
              refine h.mono ?_
              rintro e w' ⟨⟨v', rfl, h2⟩, h3⟩
              obtain ⟨g, cap, rfl, a1, a2, a3⟩ := own_one h2
              exact ⟨g, cap, rfl, a1, a2, a3, h3⟩
            have HSTEP : Hid (∀ k, twoF l k (v + 1) = if k = K then twoF l K v + 1 else twoF l k v) := fun k => by
              rw [twoF, ← hK]
              by_cases e : k = K
              · subst e; rw [if_pos rfl, if_pos rfl]
              · rw [if_neg e, if_neg (fun h => e h.symm), Int.add_zero]
            have hbd := twoF_bd l K v
            obtain ⟨O, hO⟩ : ∃ O, O = twoF l K v := ⟨_, rfl⟩
            rw [← hO] at hbd HSTEP
            have hc0 := HR1.out.y.cell t3
            have hd0 := HR1.out.z.cell t3
            rw [← hO] at hc0 hd0
            have HC0 := Lib.hid hc0
            have HD0 := Lib.hid hd0
            have HS200 := HL.out.1
            have i1 : ¬ (K : Int) < 0 := by omega
            have i2 : ¬ (l.length : Int) ≤ (K : Int) := by omega
            have i3 : (K : Int) < (l.length : Int) := by omega
            have i4 : 0 ≤ O := hbd.1
            have i5 : O ≤ 2600 := by omega
            have i6 : wrap64 (O + 1) = O + 1 := by unfold wrap64; omega
            have HI6 := Lib.hid i6
            have HKN := Lib.hid t3
            have HO := Lib.hid hO
            have HUV : Hid (wrap64 ((v : Int) + 1) = ((v + 1 : Nat) : Int)) := rw13 (by omega)
            have HUN : Hid (0 < 1) := Nat.one_pos
            clear hK t1 t2 t3 hbd hO hc0 hd0 hvl hvS HS200 i6
            go_wp2_with fail
            refine (HPK.out).mono ?_
            rintro e w5 ⟨rfl, hb5⟩
            have HSG5 := Lib.hid (HSG.out.on hb5)
            have HR5 := Lib.hid (HR1.out.below hb5)
            have HB5 := Lib.hid (HB1.out.trans (hb5.mono HB1.out.size))
            clear hb5 HPK HSG HR1 HB1
            go_wp2_with fail
            refine (HTK.out _ HSG5.out).mono ?_
            rintro e w6 ⟨g, cap, rfl, hg1, hg2, hg3, hb6⟩
            have HG := Lib.hid (show x ≠ g ∧ y ≠ g ∧ z ≠ g from ⟨by have := HR5.out.x.lt; omega, by have := HR5.out.y.lt; omega, by have := HR5.out.z.lt; omega⟩)
            have HR6 := Lib.hid (HR5.out.below hb6)
            have HB6 := Lib.hid (HB5.out.trans (hb6.mono HB5.out.size))
            clear hb6 HTK HSG5 HR5 HB5 hg1
            have hfy := HR6.out.y.frozen K
            have hcy : w6.cell? ⟨y, K, none⟩ = some (.int .i64 O) := by rw [HO.out]; exact HR6.out.y.cell HKN.out
            have hfz : ∀ u, (w6.setCell ⟨y, K, none⟩ u).frozen? ⟨z, K, none⟩ = false := fun u => (HR6.out.z.setOther (a := ⟨y, K, none⟩) (Ne.symm HNE.out.2.2.1) u).frozen K
            have hcz : ∀ u, (w6.setCell ⟨y, K, none⟩ u).cell? ⟨z, K, none⟩ = some (.int .i64 O) := fun u => by rw [HO.out]; exact (HR6.out.z.setOther (a := ⟨y, K, none⟩) (Ne.symm HNE.out.2.2.1) u).cell HKN.out
            have hcg : ∀ u, (w6.setCell ⟨y, K, none⟩ u).cell? ⟨g, 0, none⟩ = some (.int .i64 (K : Nat)) := fun u => (World.cell?_of_block (Go.Deep.blk_setCell_other _ _ _ _ (Ne.symm HG.out.2.1))).trans hg3
            have i7 : (0 : Nat) < 1 := Nat.one_pos
            clear hg2
            go_wp2_with fail
            refine ⟨⟨v + 1, HVS.out, rfl, (HR6.out.two HNE.out.1 HNE.out.2.2.1 (g' := fun k => twoF l k (v + 1)) (fun k => by rw [HSTEP.out, HO.out])).three HNE.out.2.1 HNE.out.2.2.1 (fun k => by rw [HSTEP.out, HO.out]), (HB6.out.setCell HNE.out.2.2.2.2.1 _).setCell HNE.out.2.2.2.2.2 _⟩, ?_⟩
            have := HVS.out
            simp [intOf]; omega
          · have hve : v = S := by omega
            have j3 : ¬ (v : Int) < (S : Int) := by omega
            have HR2 : Hid (R3 wr x y z l.length (fun k => l.length * pat l k) (pat l) (pat l)) := ⟨HR1.out.x.congr (fun i hi => by rw [HF.out i hi]), HR1.out.y.congr (fun i hi => by rw [hve, HTWO.out i hi]), HR1.out.z.congr (fun i hi => by rw [hve, HTWO.out i hi])⟩
            have HSG := Lib.hid (HS.out.below (HB4.out.trans (HB1.out.mono HB4.out.size)))
            clear hvS hvl hve
            obtain ⟨wo, rfl⟩ : ∃ wo : World, wo = wr := ⟨_, rfl⟩
            go_wp2_with fail
            go_loopw [154] (fun s154 wx => ∃ k : Nat, k ≤ l.length ∧ s154 = .int .i64 k ∧ wx = wo) (fun s154 _ => l.length - (intOf s154).toNat)
            case atStart => exact ⟨0, Nat.zero_le _, rfl, rfl⟩
            case round =>
              obtain ⟨k, hkl, rfl, rfl⟩ := hrel
              by_cases hlt : k < l.length
              · have j1 : (k : Int) < (l.length : Int) := by omega
                have HKL := Lib.hid hlt
                obtain ⟨ad, hA, _, hca⟩ := HSG.out.pat hlt
                have hcx := HR2.out.x.cell hlt
                have hcy := HR2.out.y.cell hlt
                have hcz := HR2.out.z.cell hlt
                subst hA
                have hb := HW.out k hlt
                obtain ⟨P, hP⟩ : ∃ P, P = pat l k := ⟨_, rfl⟩
                rw [← hP] at hca hcx hcy hcz hb
                have hl12 := HL.out.2
                obtain ⟨N, hN⟩ : ∃ N, N = l.length := ⟨_, rfl⟩
                have hm : 0 ≤ (l.length : Int) * P ∧ (l.length : Int) * P ≤ 12 * 1048576 := ⟨Int.mul_nonneg (by omega) hb.1, Int.mul_le_mul (by omega) hb.2 hb.1 (by decide)⟩
                have HWM : Hid (wrap64 ((l.length : Int) * P) = (l.length : Int) * P) := by unfold Hid wrap64; omega
                have HUK : Hid (wrap64 ((k : Int) + 1) = ((k + 1 : Nat) : Int)) := rw13 (by omega)
                obtain ⟨m1, m2⟩ := hm
                have i6 := HWM.out
                have b1 : ((l.length : Int) * P != (l.length : Int) * P) = false := by simp
                have b2 : (P != P) = false := by simp
                clear hlt hkl hP hN hl12 hb
                go_wp2_with fail
                refine ⟨⟨k + 1, HKL.out, rfl, trivial⟩, ?_⟩
                have := HKL.out
                simp [intOf]; omega
              · have j1 : ¬ (k : Int) < (l.length : Int) := by omega
                have HBE : Hid (Below w.heap.size w wr) := HB4.out.trans (HB1.out.mono HB4.out.size)
                clear hkl hlt
                go_wp2_with fail
                go_ret
                exact ⟨rfl, HBE.out⟩
theorem agree_all (l : List Int) (A : Option Addr) (c : Nat) (w : World) (hs : Seg w w.heap.size A (l.map (.int .i64))) (hm : l.length ≤ 9223372036854775807) (hL : LibW w) :
    Calls Tryd.prog 6 #[.slice A l.length c] w fun e w' => e = .returned (.bool true) ∧ Below w.heap.size w w' := by
  by_cases h : (asumR l).2 ≠ 0 ∨ 200 < (asumR l).1 ∨ 12 < l.length
  · exact agree_no l A c w hs hm hL h
  · have h0 : (asumR l).2 = 0 := by omega
    have hg := asum_good (l := l) h0
    have hn : 0 ≤ asum l l.length := by
      have hwd : ∀ p, p < l.length → 0 ≤ pat l p ∧ pat l p ≤ 1048576 := aokc_at hg.2.2.1
      have : ∀ j, j ≤ l.length → 0 ≤ asum l j := fun j => by
        induction j with
        | zero => intro _; exact Int.le_refl _
        | succ j ih => intro hj; have := ih (by omega); have := (hwd j (by omega)).1; rw [asum]; omega
      exact this _ (Nat.le_refl _)
    have h1 := hg.2.2.2.2
    obtain ⟨S, hS⟩ : ∃ S : Nat, (asumR l).1 = (S : Int) := ⟨(asumR l).1.toNat, by omega⟩
    exact agree_core l A c S w hs hL (Prod.ext hS h0) (by omega) (by omega)
theorem TopAgree_walk (A : Option Addr) (l : List Int) (c : Nat) (w : World) (hc : l.length ≤ c) (hm : c ≤ maxLen) (_hw : ∀ n ∈ l, (Lit.int .i64 n).wf = true) (hs : Seg w w.heap.size A (l.map (.int .i64))) (hL : LibW w) :
    Calls Tryd.prog 6 #[.slice A l.length c] w fun e w' => e = .returned (.bool true) ∧ Below w.heap.size w w' :=
  agree_all l A c w hs (by unfold maxLen at hm; omega) hL
end Go.Proofs.YtmibifmabkaakaaDoor
