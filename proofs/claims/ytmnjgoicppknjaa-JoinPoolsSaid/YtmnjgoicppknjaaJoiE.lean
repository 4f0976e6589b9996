/- Pools joined: how the reference stands ahead of each draw. No condition. -/
import Derived.Test.YtmnjgoicppknjaaJoiD
import Derived.Test.YtmnjgoicppknjaaMapB
import Derived.Test.YtmnjgoicppknjaaApp
import Derived.Test.YtmnjgoicppknjaaHeld
namespace Go.Proofs.Ytmnjgoicppknjaa
open Go.ChangeShapes Go.WideShapes Go.ChangeAt Go.RowKit
set_option linter.unusedVariables false

theorem MapB.grown {w w' : World} {b n g : Nat} {F : Int → Bool} (h : MapB w b n F) (hb : w.grownBy w' (some g)) (hg : b ≠ g) : MapB w' b n F := by
  have hl := h.lt
  obtain ⟨D, ⟨es, clock, hh, r⟩, h2, h3⟩ := h
  exact ⟨D, ⟨es, clock, (hb.block b hl (by simpa using hg)).trans hh, r⟩, h2, h3⟩
theorem MapB.row {w w' : World} {b n : Nat} {F : Int → Bool} {v : Value} (h : MapB w b n F) (hb : w.grownBy w' v.ownBlock) (hg : ∀ q, v.ownBlock = some q → q ≠ b) : MapB w' b n F := by
  have hl := h.lt
  obtain ⟨D, ⟨es, clock, hh, r⟩, h2, h3⟩ := h
  exact ⟨D, ⟨es, clock, (hb.block b hl (fun e => hg b e.symm rfl)).trans hh, r⟩, h2, h3⟩
theorem jset_grown (w : World) (g i : Nat) (u : Value) : w.grownBy (w.setCell ⟨g, i, none⟩ u) (some g) := by
  refine ⟨rfl, rfl, rfl, by simp, fun k _ hne => ?_⟩
  exact Below.heap_setCell w _ _ _ (fun e => hne (by rw [e]))
/-- A round's four changes: the map, what is left, the row that grows, the pool. -/
structure Chain (w5 w6 w7 w8 w9 : World) (gm gL gO B : Nat) (v : Value) (o : Obj) : Prop where
  h6 : w5.grownBy w6 (some gm)
  h7 : w6.grownBy w7 (some gL)
  h8 : (w7.drew.alloc o).grownBy w8 v.ownBlock
  h9 : w8.grownBy w9 (some gO)
  hv : ∀ q, v.ownBlock = some q → B ≤ q
section
variable {w5 w6 w7 w8 w9 : World} {gm gL gO B : Nat} {v : Value} {o : Obj}
theorem Chain.blk (h : Chain w5 w6 w7 w8 w9 gm gL gO B v o) {g : Nat} {t : TypeId} {cs : Array Value} (hb : Blk w5 g t cs) (n1 : g ≠ gm) (n2 : g ≠ gL) (n3 : g < B) (n4 : g ≠ gO) : Blk w9 g t cs :=
  ((((hb.grown h.h6 n1).grown h.h7 n2).drew.alloc o).row h.h8 (fun q hq => by have := h.hv q hq; omega)).grown h.h9 n4
theorem Chain.map (h : Chain w5 w6 w7 w8 w9 gm gL gO B v o) {g n : Nat} {F : Int → Bool} (hb : MapB w6 g n F) (n2 : g ≠ gL) (n3 : g < B) (n4 : g ≠ gO) : MapB w9 g n F := by
  have h1 := (hb.grown h.h7 n2).drew
  have h2 : MapB (w7.drew.alloc o) g n F := h1.below ((Below.refl _ _).alloc (Nat.le_refl _) _) h1.lt
  exact (h2.row h.h8 (fun q hq => by have := h.hv q hq; omega)).grown h.h9 n4
theorem Chain.map5 (h : Chain w5 w6 w7 w8 w9 gm gL gO B v o) {g n : Nat} {F : Int → Bool} (hb : MapB w5 g n F) (n1 : g ≠ gm) (n2 : g ≠ gL) (n3 : g < B) (n4 : g ≠ gO) : MapB w9 g n F :=
  h.map (hb.grown h.h6 n1) n2 n3 n4
theorem Chain.size (h : Chain w5 w6 w7 w8 w9 gm gL gO B v o) : w5.heap.size ≤ w9.heap.size := by
  have h1 := h.h6.size; have h2 := h.h7.size; have h3 := h.h8.size; have h4 := h.h9.size
  simp at h3; omega
theorem Chain.below (h : Chain w5 w6 w7 w8 w9 gm gL gO B v o) {w : World} {b : Nat} (hb : Below b w w5) (h5 : b ≤ w5.heap.size) (n1 : b ≤ gm) (n2 : b ≤ gL) (n3 : b ≤ B) (n4 : b ≤ gO) : Below b w w9 := by
  have s1 := h.h6.size; have s2 := h.h7.size; have s3 := h.h8.size
  simp at s3
  have b1 := hb.grown h.h6 h5 (fun q hq => by injection hq with hq; omega)
  have b2 := b1.grown h.h7 (by omega) (fun q hq => by injection hq with hq; omega)
  have b3 := (Below.drew b2).alloc (o := o) (by show b ≤ w7.heap.size; omega)
  have b4 := b3.grown h.h8 (by simp; omega) (fun q hq => by have := h.hv q hq; omega)
  exact b4.grown h.h9 (by omega) (fun q hq => by injection hq with hq; omega)
end
/-- How the reference stands ahead of draw k: its boxes, what is left, the two maps, what came out. -/
structure GInv (A C : Option Addr) (ra ka rb kb : Int) (za zb : List Int) (ca cb : Nat) (w : World) (gO gL B : Nat) (wr : World) (k : Nat) (s : JS) : Prop where
  pa : Blk wr w.heap.size 24 (pcells ra ka (.slice A za.length ca))
  pb : Blk wr (w.heap.size + 1) 24 (pcells rb kb (.slice C zb.length cb))
  pr : Blk wr (w.heap.size + 2) 24 (pcells 0 0 (.slice none 0 0))
  po : ∃ Ao co, Blk wr gO 24 (pcells ra (ka + kb) (.slice Ao s.o.length co)) ∧ Own wr B 3 (.slice Ao s.o.length co) (s.o.map (.int .i64))
  pl : Blk wr gL 3 #[.int .i64 s.ca, .int .i64 s.cb]
  m1 : MapB wr (gL + 1) k (fun x => decide (0 ≤ x) && s.A x.toNat)
  m2 : MapB wr (gL + 2) k (fun x => decide (0 ≤ x) && s.B x.toNat)
  pg : Blk wr (gL + 3) 141 #[.map (some (gL + 1)), .map (some (gL + 2))]
  be : Below w.heap.size w wr
  sz : B ≤ wr.heap.size
  bd : 0 ≤ s.ca ∧ 0 ≤ s.cb ∧ s.ca + s.cb ≤ 1099511627776 ∧ s.o.length ≤ k
theorem GInv.begin {A C : Option Addr} {ra ka rb kb : Int} {za zb : List Int} {ca cb : Nat} {w w3 : World} {gO : Nat}
    (HA : Blk w3 w.heap.size 24 (pcells ra ka (.slice A za.length ca))) (HB : Blk w3 (w.heap.size + 1) 24 (pcells rb kb (.slice C zb.length cb))) (HR : Blk w3 (w.heap.size + 2) 24 (pcells 0 0 (.slice none 0 0)))
    (HO : Blk w3 gO 24 (pcells ra (ka + kb) (.slice none 0 0))) (hb : Below w.heap.size w w3) (h0 : 0 ≤ ka) (h1 : 0 ≤ kb) (h2 : ka + kb ≤ 1099511627776) :
    GInv A C ra ka rb kb za zb ca cb w gO w3.heap.size (w3.heap.size + 4)
      ((((w3.alloc (.cells #[.int .i64 ka, .int .i64 kb] 3)).alloc (.map #[] 0)).alloc (.map #[] 0)).alloc (.cells #[.map (some (w3.heap.size + 1)), .map (some (w3.heap.size + 1 + 1))] 141)) 0 (JS.start ka kb) where
  pa := (((HA.alloc _).alloc _).alloc _).alloc _
  pb := (((HB.alloc _).alloc _).alloc _).alloc _
  pr := (((HR.alloc _).alloc _).alloc _).alloc _
  po := ⟨none, 0, (((HO.alloc _).alloc _).alloc _).alloc _, Own.none_⟩
  pl := (((Blk.new w3 _ _).alloc _).alloc _).alloc _
  m1 := by
    have h := MapB.made (w3.alloc (.cells #[.int .i64 ka, .int .i64 kb] 3))
    rw [show (w3.alloc (.cells #[.int .i64 ka, .int .i64 kb] 3)).heap.size = w3.heap.size + 1 by simp] at h
    refine ((h.below (B := w3.heap.size + 2) (((Below.refl _ _).alloc (by simp) _).alloc (by simp) _) (by omega))).congr fun x => by simp [JS.start]
  m2 := by
    have h := MapB.made ((w3.alloc (.cells #[.int .i64 ka, .int .i64 kb] 3)).alloc (.map #[] 0))
    rw [show ((w3.alloc (.cells #[.int .i64 ka, .int .i64 kb] 3)).alloc (.map #[] 0)).heap.size = w3.heap.size + 2 by simp] at h
    refine (h.below (B := w3.heap.size + 3) ((Below.refl _ _).alloc (by simp) _) (by omega)).congr fun x => by simp [JS.start]
  pg := by
    have h := Blk.new (((w3.alloc (.cells #[.int .i64 ka, .int .i64 kb] 3)).alloc (.map #[] 0)).alloc (.map #[] 0)) 141 #[.map (some (w3.heap.size + 1)), .map (some (w3.heap.size + 1 + 1))]
    rw [show (((w3.alloc (.cells #[.int .i64 ka, .int .i64 kb] 3)).alloc (.map #[] 0)).alloc (.map #[] 0)).heap.size = w3.heap.size + 3 by simp] at h
    exact h
  be := ((((hb.alloc hb.size _).alloc (by have := hb.size; simp; omega) _).alloc (by have := hb.size; simp; omega) _).alloc (by have := hb.size; simp; omega) _)
  sz := by simp
  bd := ⟨h0, h1, h2, Nat.le_refl _⟩
theorem GInv.next {A C : Option Addr} {ra ka rb kb : Int} {za zb : List Int} {ca cb : Nat} {w : World} {gO gL B : Nat} {wr w5 : World} {k : Nat} {s : JS}
    (h : GInv A C ra ka rb kb za zb ca cb w gO gL B wr k s) (hb : Below wr.heap.size wr w5) : GInv A C ra ka rb kb za zb ca cb w gO gL B w5 k s where
  pa := h.pa.below hb h.pa.lt
  pb := h.pb.below hb h.pb.lt
  pr := h.pr.below hb h.pr.lt
  po := by
    obtain ⟨Ao, co, h1, h2⟩ := h.po
    exact ⟨Ao, co, h1.below hb h1.lt, h2.below hb (Nat.le_refl _)⟩
  pl := h.pl.below hb h.pl.lt
  m1 := h.m1.below hb h.m1.lt
  m2 := h.m2.below hb h.m2.lt
  pg := h.pg.below hb h.pg.lt
  be := h.be.trans (hb.mono h.be.size)
  sz := Nat.le_trans h.sz hb.size
  bd := h.bd
theorem gone_map {F : Nat → Bool} {j : Nat} (y : Int) : (decide (0 ≤ y) && gone F j y.toNat) = if y = (j : Int) then true else (decide (0 ≤ y) && F y.toNat) := by
  unfold gone
  by_cases h : y = (j : Int)
  · subst h; simp
  · rw [if_neg h]
    by_cases h0 : 0 ≤ y
    · rw [if_neg (by omega)]
    · simp [h0]
theorem GInv.stepA {A C : Option Addr} {ra ka rb kb : Int} {za zb : List Int} {ca cb : Nat} {w : World} {gO gL B : Nat} {w5 w6 w7 w8 : World} {k j : Nat} {s : JS} {Ao : Option Addr} {co : Nat} {A8 : Option Addr} {c8 : Nat} {z q : Int} {n8 : Nat}
    (h : GInv A C ra ka rb kb za zb ca cb w gO gL B w5 k s) (hw : w.heap.size + 2 < gO) (hO : gO < gL) (hL : gL + 4 ≤ B)
    (hpo : Blk w5 gO 24 (pcells ra (ka + kb) (.slice Ao s.o.length co))) (how : Own w5 B 3 (.slice Ao s.o.length co) (s.o.map (.int .i64)))
    (hm : MapB w6 (gL + 1) (k + 1) (fun y => if y = (j : Int) then true else (decide (0 ≤ y) && s.A y.toNat))) (h6 : w5.grownBy w6 (some (gL + 1)))
    (h8o : Own w8 B 3 (.slice A8 n8 c8) ((s.o ++ [z]).map (.int .i64))) (hn8 : n8 = s.o.length + 1)
    (hw7 : w6.setCell ⟨gL, 0, none⟩ (.int .i64 q) = w7) (h8 : (w7.drew.alloc (.cells #[.int .i64 z] 3)).grownBy w8 (Value.slice Ao s.o.length co).ownBlock) (hq : q = s.ca - 1) (h0 : 0 < s.ca) :
    GInv A C ra ka rb kb za zb ca cb w gO gL B (w8.setCell ⟨gO, 2, none⟩ (.slice A8 n8 c8)) (k + 1) { s with A := gone s.A j, ca := s.ca - 1, o := s.o ++ [z] } := by
  subst hw7
  have hC : Chain w5 w6 (w6.setCell ⟨gL, 0, none⟩ (.int .i64 q)) w8 (w8.setCell ⟨gO, 2, none⟩ (.slice A8 n8 c8)) (gL + 1) gL gO B (.slice Ao s.o.length co) (.cells #[.int .i64 z] 3) :=
    ⟨h6, jset_grown _ _ _ _, h8, jset_grown _ _ _ _, how.block⟩
  have hb := h.bd
  subst hn8
  refine ⟨hC.blk h.pa (by omega) (by omega) (by omega) (by omega), hC.blk h.pb (by omega) (by omega) (by omega) (by omega), hC.blk h.pr (by omega) (by omega) (by omega) (by omega), ⟨A8, c8, ?_, ?_⟩, ?_, ?_, ?_, hC.blk h.pg (by omega) (by omega) (by omega) (by omega), hC.below h.be h.be.size (by omega) (by omega) (by omega) (by omega), Nat.le_trans h.sz hC.size, ?_⟩
  · have h1 := (((hpo.grown h6 (by omega)).grown (jset_grown w6 gL 0 (.int .i64 q)) (by omega)).drew.alloc (.cells #[.int .i64 z] 3)).row h8 (fun x hx => by have := how.block x hx; omega)
    have h2 := h1.set_ 2 (.slice A8 (s.o.length + 1) c8)
    rw [show (s.o ++ [z]).length = s.o.length + 1 by simp]
    exact h2
  · have h1 := Own.far h8o (p := ⟨gO, 2, none⟩) (show gO < B by omega) (.slice A8 (s.o.length + 1) c8)
    rw [show (s.o ++ [z]).length = s.o.length + 1 by simp]
    exact h1
  · have h1 := ((((h.pl.grown h6 (by omega)).set_ 0 (.int .i64 q)).drew.alloc (.cells #[.int .i64 z] 3)).row h8 (fun x hx => by have := how.block x hx; omega)).grown (jset_grown w8 gO 2 (.slice A8 (s.o.length + 1) c8)) (by omega)
    subst hq
    exact h1
  · exact (hC.map hm (by omega) (by omega) (by omega)).congr fun y => gone_map y
  · exact (hC.map5 h.m2 (by omega) (by omega) (by omega) (by omega)).mono (Nat.le_succ _)
  · refine ⟨?_, ?_, ?_, ?_⟩
    · show 0 ≤ s.ca - 1; omega
    · show 0 ≤ s.cb; omega
    · show s.ca - 1 + (s.cb) ≤ _; omega
    · show (s.o ++ [z]).length ≤ k + 1; simp; omega
theorem GInv.stepB {A C : Option Addr} {ra ka rb kb : Int} {za zb : List Int} {ca cb : Nat} {w : World} {gO gL B : Nat} {w5 w6 w7 w8 : World} {k j : Nat} {s : JS} {Ao : Option Addr} {co : Nat} {A8 : Option Addr} {c8 : Nat} {z q : Int} {n8 : Nat}
    (h : GInv A C ra ka rb kb za zb ca cb w gO gL B w5 k s) (hw : w.heap.size + 2 < gO) (hO : gO < gL) (hL : gL + 4 ≤ B)
    (hpo : Blk w5 gO 24 (pcells ra (ka + kb) (.slice Ao s.o.length co))) (how : Own w5 B 3 (.slice Ao s.o.length co) (s.o.map (.int .i64)))
    (hm : MapB w6 (gL + 2) (k + 1) (fun y => if y = (j : Int) then true else (decide (0 ≤ y) && s.B y.toNat))) (h6 : w5.grownBy w6 (some (gL + 2)))
    (h8o : Own w8 B 3 (.slice A8 n8 c8) ((s.o ++ [z]).map (.int .i64))) (hn8 : n8 = s.o.length + 1)
    (hw7 : w6.setCell ⟨gL, 1, none⟩ (.int .i64 q) = w7) (h8 : (w7.drew.alloc (.cells #[.int .i64 z] 3)).grownBy w8 (Value.slice Ao s.o.length co).ownBlock) (hq : q = s.cb - 1) (h0 : 0 < s.cb) :
    GInv A C ra ka rb kb za zb ca cb w gO gL B (w8.setCell ⟨gO, 2, none⟩ (.slice A8 n8 c8)) (k + 1) { s with B := gone s.B j, cb := s.cb - 1, o := s.o ++ [z] } := by
  subst hw7
  have hC : Chain w5 w6 (w6.setCell ⟨gL, 1, none⟩ (.int .i64 q)) w8 (w8.setCell ⟨gO, 2, none⟩ (.slice A8 n8 c8)) (gL + 2) gL gO B (.slice Ao s.o.length co) (.cells #[.int .i64 z] 3) :=
    ⟨h6, jset_grown _ _ _ _, h8, jset_grown _ _ _ _, how.block⟩
  have hb := h.bd
  subst hn8
  refine ⟨hC.blk h.pa (by omega) (by omega) (by omega) (by omega), hC.blk h.pb (by omega) (by omega) (by omega) (by omega), hC.blk h.pr (by omega) (by omega) (by omega) (by omega), ⟨A8, c8, ?_, ?_⟩, ?_, ?_, ?_, hC.blk h.pg (by omega) (by omega) (by omega) (by omega), hC.below h.be h.be.size (by omega) (by omega) (by omega) (by omega), Nat.le_trans h.sz hC.size, ?_⟩
  · have h1 := (((hpo.grown h6 (by omega)).grown (jset_grown w6 gL 1 (.int .i64 q)) (by omega)).drew.alloc (.cells #[.int .i64 z] 3)).row h8 (fun x hx => by have := how.block x hx; omega)
    have h2 := h1.set_ 2 (.slice A8 (s.o.length + 1) c8)
    rw [show (s.o ++ [z]).length = s.o.length + 1 by simp]
    exact h2
  · have h1 := Own.far h8o (p := ⟨gO, 2, none⟩) (show gO < B by omega) (.slice A8 (s.o.length + 1) c8)
    rw [show (s.o ++ [z]).length = s.o.length + 1 by simp]
    exact h1
  · have h1 := ((((h.pl.grown h6 (by omega)).set_ 1 (.int .i64 q)).drew.alloc (.cells #[.int .i64 z] 3)).row h8 (fun x hx => by have := how.block x hx; omega)).grown (jset_grown w8 gO 2 (.slice A8 (s.o.length + 1) c8)) (by omega)
    subst hq
    exact h1
  · exact (hC.map5 h.m1 (by omega) (by omega) (by omega) (by omega)).mono (Nat.le_succ _)
  · exact (hC.map hm (by omega) (by omega) (by omega)).congr fun y => gone_map y
  · refine ⟨?_, ?_, ?_, ?_⟩
    · show 0 ≤ s.ca; omega
    · show 0 ≤ s.cb - 1; omega
    · show s.ca + (s.cb - 1) ≤ _; omega
    · show (s.o ++ [z]).length ≤ k + 1; simp; omega
end Go.Proofs.Ytmnjgoicppknjaa
