/- The law DiceCount: its first closure, walked. No condition but the bounds. -/
import Derived.Test.YtaehehoeidnidaaDicM
import Derived.Test.YtaehehoeidnidaaMapK
import Derived.Test.YtaehehoeidnidaaDicW
import Derived.Deep.DeepCutAuto
namespace Go.Proofs.Ytaehehoeidnidaa
open Go.ChangeShapes Go.WideShapes Go.ChangeAt Go.RowKit Go.Maps
set_option linter.unusedVariables false

/-- What the closure keeps: two maps in blocks h, h + 1, their places h + 2, h + 3, two numbers in h + 4, h + 5. -/
structure DSt (w : World) (h : Nat) (FS FM : Int → Option Int) (U L : Int) (n1 n2 : Nat) : Prop where
  ms : MapK w h n1 FS
  mm : MapK w (h + 1) n2 FM
  ps : Blk w (h + 2) 39 #[.map (some h)]
  pm : Blk w (h + 3) 39 #[.map (some (h + 1))]
  pu : Blk w (h + 4) 3 #[.int .i64 U]
  pl : Blk w (h + 5) 3 #[.int .i64 L]
section
variable {w w' : World} {h : Nat} {FS FM : Int → Option Int} {U L : Int} {n1 n2 : Nat}
theorem DSt.lt (s : DSt w h FS FM U L n1 n2) : h + 5 < w.heap.size := s.pl.lt
theorem DSt.below {B : Nat} (s : DSt w h FS FM U L n1 n2) (hb : Below B w w') (hB : h + 5 < B) : DSt w' h FS FM U L n1 n2 :=
  ⟨s.ms.below hb (by omega), s.mm.below hb (by omega), s.ps.below hb (by omega), s.pm.below hb (by omega), s.pu.below hb (by omega), s.pl.below hb hB⟩
theorem DSt.drew (s : DSt w h FS FM U L n1 n2) : DSt w.drew h FS FM U L n1 n2 := ⟨s.ms, s.mm, s.ps, s.pm, s.pu, s.pl⟩
theorem DSt.setS {F' : Int → Option Int} {n' : Nat} (s : DSt w h FS FM U L n1 n2) (hm : MapK w' h n' F') (hg : w.grownBy w' (some h)) : DSt w' h F' FM U L n' n2 :=
  ⟨hm, s.mm.kept hg (by simp), s.ps.grown hg (by omega), s.pm.grown hg (by omega), s.pu.grown hg (by omega), s.pl.grown hg (by omega)⟩
theorem DSt.setM {F' : Int → Option Int} {n' : Nat} (s : DSt w h FS FM U L n1 n2) (hm : MapK w' (h + 1) n' F') (hg : w.grownBy w' (some (h + 1))) : DSt w' h FS F' U L n1 n' :=
  ⟨s.ms.kept hg (by simp), hm, s.ps.grown hg (by omega), s.pm.grown hg (by omega), s.pu.grown hg (by omega), s.pl.grown hg (by omega)⟩
theorem mapk_set {F : Int → Option Int} {b n : Nat} {p : Addr} {u : Value} (hm : MapK w b n F) (hp : p.block ≠ b) : MapK (w.setCell p u) b n F :=
  hm.kept (row := some p.block) ⟨rfl, rfl, rfl, by simp, fun q _ hq => Below.heap_setCell w p u q (fun e => hq (by rw [e]))⟩ (fun e => hp (by injection e with e; exact e.symm))
theorem DSt.setU (s : DSt w h FS FM U L n1 n2) (V : Int) : DSt (w.setCell ⟨h + 4, 0, none⟩ (.int .i64 V)) h FS FM V L n1 n2 :=
  ⟨mapk_set s.ms (by simp), mapk_set s.mm (by simp), s.ps.far (by simp) _, s.pm.far (by simp) _, s.pu.set_ 0 _, s.pl.far (by simp) _⟩
theorem DSt.setL (s : DSt w h FS FM U L n1 n2) (V : Int) : DSt (w.setCell ⟨h + 5, 0, none⟩ (.int .i64 V)) h FS FM U V n1 n2 :=
  ⟨mapk_set s.ms (by simp), mapk_set s.mm (by simp), s.ps.far (by simp) _, s.pm.far (by simp) _, s.pu.far (by simp) _, s.pl.set_ 0 _⟩
end
def updK (F : Int → Option Int) (k n : Int) : Int → Option Int := fun z => if z = k then some ((F k).getD 0 + n) else F z
def CloOut (h : Nat) (FS FM : Int → Option Int) (U L : Int) (n1 n2 : Nat) (w : World) (e : Ending) (w' : World) : Prop := e = .returned (.tuple #[]) ∧ DSt w' h FS FM U L n1 n2 ∧ Below h w w'
theorem wfi {x : Int} (h1 : -9223372036854775808 ≤ x) (h2 : x ≤ 9223372036854775807) : (Lit.int .i64 x).wf = true := WalkArith.wf_i64 ⟨h1, h2⟩
set_option maxRecDepth 20000 in
set_option maxHeartbeats 4000000 in
theorem clo_up (x y : Nat) (n : Int) (h : Nat) (FS FM : Int → Option Int) (U L : Int) (n1 n2 : Nat) (w : World) (s : DSt w h FS FM U L n1 n2) (hxy : y < x) (hx : x ≤ 200) (hy : y ≤ 200) (hn : 0 ≤ n ∧ n ≤ 1099511627776)
    (hS : 0 ≤ (FS ((x : Int) + (y : Int))).getD 0 ∧ (FS ((x : Int) + (y : Int))).getD 0 ≤ 99999999999999999) (hM : 0 ≤ (FM (x : Int)).getD 0 ∧ (FM (x : Int)).getD 0 ≤ 99999999999999999) (hU : 0 ≤ U ∧ U ≤ 99999999999999999) (hL : 0 ≤ L ∧ L ≤ 99999999999999999) (h1 : n1 ≤ 100000) (h2 : n2 ≤ 100000) :
    Calls Try.prog 79 #[.int .i64 x, .int .i64 y, .int .i64 n, .pointer (some ⟨h + 2, 0, none⟩), .pointer (some ⟨h + 3, 0, none⟩), .pointer (some ⟨h + 4, 0, none⟩), .pointer (some ⟨h + 5, 0, none⟩)] w (CloOut h (updK FS ((x : Int) + (y : Int)) n) (updK FM (x : Int) n) (U + n) L (n1 + 1) (n2 + 1) w) := by
  have HS := Lib.hid s
  obtain ⟨vs, hvs⟩ : ∃ v, v = (FS ((x : Int) + (y : Int))).getD 0 := ⟨_, rfl⟩
  obtain ⟨vm, hvm⟩ : ∃ v, v = (FM (x : Int)).getD 0 := ⟨_, rfl⟩
  rw [← hvs] at hS
  rw [← hvm] at hM
  have HVS := Lib.hid hvs
  have HVM := Lib.hid hvm
  obtain ⟨p1, p2⟩ := hS
  obtain ⟨p3, p4⟩ := hM
  obtain ⟨p5, p6⟩ := hU
  obtain ⟨p7, p8⟩ := hL
  obtain ⟨p9, p10⟩ := hn
  have WS : Hid (wrap64 (vs + n) = vs + n) := dw64 (by omega) (by omega)
  have HB : Hid (n1 < maxLen ∧ n2 < maxLen) := by unfold Hid maxLen; omega
  have HW1 : Hid ((Lit.int .i64 ((x : Int) + (y : Int))).wf = true ∧ (Lit.int .i64 (x : Int)).wf = true ∧ (Lit.int .i64 (vs + n)).wf = true ∧ (Lit.int .i64 (vm + n)).wf = true) := ⟨wfi (by omega) (by omega), wfi (by omega) (by omega), wfi (by omega) (by omega), wfi (by omega) (by omega)⟩
  have c0 := s.ps.cell 0 rfl
  have q1 : ¬ (x : Int) < (y : Int) := by omega
  clear s hvs hvm h1 h2
  go_enter Try.func79, Try.ntmps79
  go_upto_region 1 with (first
    | (at_lookup; refine wpList_mapk_look _ rfl (.tmp 10) (.tmp 13) 39 rfl Try.underlying39 h n1 FS rfl HS.out.ms ((x : Int) + (y : Int)) rfl HW1.out.1 ?_; rw [← HVS.out])
    | (at_mapUpdate; refine wpList_mapk_store _ rfl (.tmp 10) (.tmp 13) (.tmp 16) 39 rfl Try.underlying39 h n1 FS rfl HS.out.ms HB.out.1 ((x : Int) + (y : Int)) (vs + n) rfl rfl HW1.out.1 HW1.out.2.2.1 ?_; intro w1 hm1 hg1))
  have S1 : Hid (DSt w1 h (updK FS ((x : Int) + (y : Int)) n) FM U L (n1 + 1) n2) := by
    have := HS.out.setS hm1.out hg1.out
    rw [HVS.out] at this
    exact this
  have B1 : Hid (Below h w w1) := (Below.refl _ _).grown hg1.out (by have := HS.out.lt; omega) (fun k hk => by injection hk with hk; omega)
  have c1 := S1.out.pm.cell 0 rfl
  clear c0 hm1 hg1
  go_upto_region 2 with (first
    | (at_lookup; refine wpList_mapk_look _ rfl (.tmp 17) (.tmp 20) 39 rfl Try.underlying39 (h + 1) n2 FM rfl S1.out.mm (x : Int) rfl HW1.out.2.1 ?_; rw [← HVM.out])
    | (at_mapUpdate; refine wpList_mapk_store _ rfl (.tmp 17) (.tmp 20) (.tmp 23) 39 rfl Try.underlying39 (h + 1) n2 FM rfl S1.out.mm HB.out.2 (x : Int) (vm + n) rfl rfl HW1.out.2.1 HW1.out.2.2.2 ?_; intro w2 hm2 hg2))
  have S2 : Hid (DSt w2 h (updK FS ((x : Int) + (y : Int)) n) (updK FM (x : Int) n) U L (n1 + 1) (n2 + 1)) := by
    have := S1.out.setM hm2.out hg2.out
    rw [HVM.out] at this
    exact this
  have B2 : Hid (Below h w w2) := B1.out.grown hg2.out (by have := S1.out.lt; omega) (fun k hk => by injection hk with hk; omega)
  clear c1 hm2 hg2 q1
  have c2 := S2.out.pu.cell 0 rfl
  have f2 := S2.out.pu.frozen 0
  have b1 : decide ((y : Int) < (x : Int)) = true := decide_eq_true (by omega)
  have b2 : decide (y < x) = true := decide_eq_true (by omega)
  have b3 : ((x : Int) == (y : Int)) = false := by simp; omega
  have b4 : (x == y) = false := by simp; omega
  clear hxy
  go_wp2_with fail
  go_end0
  exact ⟨rfl, S2.out.setU _, B2.out.setCell (by simp) _⟩
set_option maxRecDepth 20000 in
set_option maxHeartbeats 4000000 in
theorem clo_like (x : Nat) (n : Int) (h : Nat) (FS FM : Int → Option Int) (U L : Int) (n1 n2 : Nat) (w : World) (s : DSt w h FS FM U L n1 n2)  (hx : x ≤ 200) (hn : 0 ≤ n ∧ n ≤ 1099511627776)
    (hS : 0 ≤ (FS ((x : Int) + (x : Int))).getD 0 ∧ (FS ((x : Int) + (x : Int))).getD 0 ≤ 99999999999999999) (hM : 0 ≤ (FM (x : Int)).getD 0 ∧ (FM (x : Int)).getD 0 ≤ 99999999999999999) (hU : 0 ≤ U ∧ U ≤ 99999999999999999) (hL : 0 ≤ L ∧ L ≤ 99999999999999999) (h1 : n1 ≤ 100000) (h2 : n2 ≤ 100000) :
    Calls Try.prog 79 #[.int .i64 x, .int .i64 x, .int .i64 n, .pointer (some ⟨h + 2, 0, none⟩), .pointer (some ⟨h + 3, 0, none⟩), .pointer (some ⟨h + 4, 0, none⟩), .pointer (some ⟨h + 5, 0, none⟩)] w (CloOut h (updK FS ((x : Int) + (x : Int)) n) (updK FM (x : Int) n) U (L + n) (n1 + 1) (n2 + 1) w) := by
  have HS := Lib.hid s
  obtain ⟨vs, hvs⟩ : ∃ v, v = (FS ((x : Int) + (x : Int))).getD 0 := ⟨_, rfl⟩
  obtain ⟨vm, hvm⟩ : ∃ v, v = (FM (x : Int)).getD 0 := ⟨_, rfl⟩
  rw [← hvs] at hS
  rw [← hvm] at hM
  have HVS := Lib.hid hvs
  have HVM := Lib.hid hvm
  obtain ⟨p1, p2⟩ := hS
  obtain ⟨p3, p4⟩ := hM
  obtain ⟨p5, p6⟩ := hU
  obtain ⟨p7, p8⟩ := hL
  obtain ⟨p9, p10⟩ := hn
  have WS : Hid (wrap64 (vs + n) = vs + n) := dw64 (by omega) (by omega)
  have HB : Hid (n1 < maxLen ∧ n2 < maxLen) := by unfold Hid maxLen; omega
  have HW1 : Hid ((Lit.int .i64 ((x : Int) + (x : Int))).wf = true ∧ (Lit.int .i64 (x : Int)).wf = true ∧ (Lit.int .i64 (vs + n)).wf = true ∧ (Lit.int .i64 (vm + n)).wf = true) := ⟨wfi (by omega) (by omega), wfi (by omega) (by omega), wfi (by omega) (by omega), wfi (by omega) (by omega)⟩
  have c0 := s.ps.cell 0 rfl
  have q1 : ¬ (x : Int) < (x : Int) := by omega
  clear s hvs hvm h1 h2
  go_enter Try.func79, Try.ntmps79
  go_upto_region 1 with (first
    | (at_lookup; refine wpList_mapk_look _ rfl (.tmp 10) (.tmp 13) 39 rfl Try.underlying39 h n1 FS rfl HS.out.ms ((x : Int) + (x : Int)) rfl HW1.out.1 ?_; rw [← HVS.out])
    | (at_mapUpdate; refine wpList_mapk_store _ rfl (.tmp 10) (.tmp 13) (.tmp 16) 39 rfl Try.underlying39 h n1 FS rfl HS.out.ms HB.out.1 ((x : Int) + (x : Int)) (vs + n) rfl rfl HW1.out.1 HW1.out.2.2.1 ?_; intro w1 hm1 hg1))
  have S1 : Hid (DSt w1 h (updK FS ((x : Int) + (x : Int)) n) FM U L (n1 + 1) n2) := by
    have := HS.out.setS hm1.out hg1.out
    rw [HVS.out] at this
    exact this
  have B1 : Hid (Below h w w1) := (Below.refl _ _).grown hg1.out (by have := HS.out.lt; omega) (fun k hk => by injection hk with hk; omega)
  have c1 := S1.out.pm.cell 0 rfl
  clear c0 hm1 hg1
  go_upto_region 2 with (first
    | (at_lookup; refine wpList_mapk_look _ rfl (.tmp 17) (.tmp 20) 39 rfl Try.underlying39 (h + 1) n2 FM rfl S1.out.mm (x : Int) rfl HW1.out.2.1 ?_; rw [← HVM.out])
    | (at_mapUpdate; refine wpList_mapk_store _ rfl (.tmp 17) (.tmp 20) (.tmp 23) 39 rfl Try.underlying39 (h + 1) n2 FM rfl S1.out.mm HB.out.2 (x : Int) (vm + n) rfl rfl HW1.out.2.1 HW1.out.2.2.2 ?_; intro w2 hm2 hg2))
  have S2 : Hid (DSt w2 h (updK FS ((x : Int) + (x : Int)) n) (updK FM (x : Int) n) U L (n1 + 1) (n2 + 1)) := by
    have := S1.out.setM hm2.out hg2.out
    rw [HVM.out] at this
    exact this
  have B2 : Hid (Below h w w2) := B1.out.grown hg2.out (by have := S1.out.lt; omega) (fun k hk => by injection hk with hk; omega)
  clear c1 hm2 hg2 q1
  have c2 := S2.out.pl.cell 0 rfl
  have f2 := S2.out.pl.frozen 0
  go_wp2_with fail
  go_end0
  exact ⟨rfl, S2.out.setL _, B2.out.setCell (by simp) _⟩
set_option maxRecDepth 20000 in
set_option maxHeartbeats 4000000 in
theorem clo_no (x y : Nat) (n : Int) (h : Nat) (FS FM : Int → Option Int) (U L : Int) (n1 n2 : Nat) (w : World) (s : DSt w h FS FM U L n1 n2) (hxy : x < y) (hx : x ≤ 200) (hy : y ≤ 200) (hn : 0 ≤ n ∧ n ≤ 1099511627776)
    (hS : 0 ≤ (FS ((x : Int) + (y : Int))).getD 0 ∧ (FS ((x : Int) + (y : Int))).getD 0 ≤ 99999999999999999) (hM : 0 ≤ (FM (y : Int)).getD 0 ∧ (FM (y : Int)).getD 0 ≤ 99999999999999999) (hU : 0 ≤ U ∧ U ≤ 99999999999999999) (hL : 0 ≤ L ∧ L ≤ 99999999999999999) (h1 : n1 ≤ 100000) (h2 : n2 ≤ 100000) :
    Calls Try.prog 79 #[.int .i64 x, .int .i64 y, .int .i64 n, .pointer (some ⟨h + 2, 0, none⟩), .pointer (some ⟨h + 3, 0, none⟩), .pointer (some ⟨h + 4, 0, none⟩), .pointer (some ⟨h + 5, 0, none⟩)] w (CloOut h (updK FS ((x : Int) + (y : Int)) n) (updK FM (y : Int) n) U L (n1 + 1) (n2 + 1) w) := by
  have HS := Lib.hid s
  obtain ⟨vs, hvs⟩ : ∃ v, v = (FS ((x : Int) + (y : Int))).getD 0 := ⟨_, rfl⟩
  obtain ⟨vm, hvm⟩ : ∃ v, v = (FM (y : Int)).getD 0 := ⟨_, rfl⟩
  rw [← hvs] at hS
  rw [← hvm] at hM
  have HVS := Lib.hid hvs
  have HVM := Lib.hid hvm
  obtain ⟨p1, p2⟩ := hS
  obtain ⟨p3, p4⟩ := hM
  obtain ⟨p5, p6⟩ := hU
  obtain ⟨p7, p8⟩ := hL
  obtain ⟨p9, p10⟩ := hn
  have WS : Hid (wrap64 (vs + n) = vs + n) := dw64 (by omega) (by omega)
  have HB : Hid (n1 < maxLen ∧ n2 < maxLen) := by unfold Hid maxLen; omega
  have HW1 : Hid ((Lit.int .i64 ((x : Int) + (y : Int))).wf = true ∧ (Lit.int .i64 (y : Int)).wf = true ∧ (Lit.int .i64 (vs + n)).wf = true ∧ (Lit.int .i64 (vm + n)).wf = true) := ⟨wfi (by omega) (by omega), wfi (by omega) (by omega), wfi (by omega) (by omega), wfi (by omega) (by omega)⟩
  have c0 := s.ps.cell 0 rfl
  have q1 : (x : Int) < (y : Int) := by omega
  clear s hvs hvm h1 h2
  go_enter Try.func79, Try.ntmps79
  go_upto_region 1 with (first
    | (at_lookup; refine wpList_mapk_look _ rfl (.tmp 10) (.tmp 13) 39 rfl Try.underlying39 h n1 FS rfl HS.out.ms ((x : Int) + (y : Int)) rfl HW1.out.1 ?_; rw [← HVS.out])
    | (at_mapUpdate; refine wpList_mapk_store _ rfl (.tmp 10) (.tmp 13) (.tmp 16) 39 rfl Try.underlying39 h n1 FS rfl HS.out.ms HB.out.1 ((x : Int) + (y : Int)) (vs + n) rfl rfl HW1.out.1 HW1.out.2.2.1 ?_; intro w1 hm1 hg1))
  have S1 : Hid (DSt w1 h (updK FS ((x : Int) + (y : Int)) n) FM U L (n1 + 1) n2) := by
    have := HS.out.setS hm1.out hg1.out
    rw [HVS.out] at this
    exact this
  have B1 : Hid (Below h w w1) := (Below.refl _ _).grown hg1.out (by have := HS.out.lt; omega) (fun k hk => by injection hk with hk; omega)
  have c1 := S1.out.pm.cell 0 rfl
  clear c0 hm1 hg1
  go_upto_region 2 with (first
    | (at_lookup; refine wpList_mapk_look _ rfl (.tmp 17) (.tmp 20) 39 rfl Try.underlying39 (h + 1) n2 FM rfl S1.out.mm (y : Int) rfl HW1.out.2.1 ?_; rw [← HVM.out])
    | (at_mapUpdate; refine wpList_mapk_store _ rfl (.tmp 17) (.tmp 20) (.tmp 23) 39 rfl Try.underlying39 (h + 1) n2 FM rfl S1.out.mm HB.out.2 (y : Int) (vm + n) rfl rfl HW1.out.2.1 HW1.out.2.2.2 ?_; intro w2 hm2 hg2))
  have S2 : Hid (DSt w2 h (updK FS ((x : Int) + (y : Int)) n) (updK FM (y : Int) n) U L (n1 + 1) (n2 + 1)) := by
    have := S1.out.setM hm2.out hg2.out
    rw [HVM.out] at this
    exact this
  have B2 : Hid (Below h w w2) := B1.out.grown hg2.out (by have := S1.out.lt; omega) (fun k hk => by injection hk with hk; omega)
  clear c1 hm2 hg2 q1
  have b1 : decide ((y : Int) < (x : Int)) = false := decide_eq_false (by omega)
  have b2 : decide (y < x) = false := decide_eq_false (by omega)
  have b3 : ((x : Int) == (y : Int)) = false := by simp; omega
  have b4 : (x == y) = false := by simp; omega
  clear hxy
  go_wp2_with fail
  go_end0
  exact ⟨rfl, S2.out, B2.out⟩
end Go.Proofs.Ytaehehoeidnidaa
