/- Pools joined: how join.Pools stands ahead of each draw. No condition. -/
import Derived.Test.YtmnjgoicppknjaaJoiE
import Derived.Test.YtmnjgoicppknjaaDeleteI
namespace Go.Proofs.Ytmnjgoicppknjaa
open Go.ChangeShapes Go.WideShapes Go.ChangeAt Go.RowKit
set_option linter.unusedVariables false

theorem jown_cap {w : World} {base g n c : Nat} {e : TypeId} {xs : List Value} (h : Own w base e (.slice (some ⟨g, 0, none⟩) n c) xs) : n ≤ c ∧ c ≤ maxLen := by
  rcases h.2 with ⟨e1, _⟩ | ⟨g, cap, cur, e1, _, _, h1, h2, _⟩
  · cases e1
  · injection e1 with e1 e2 e3
    subst e3
    have := h.len
    exact ⟨by omega, h2⟩
theorem Own.keepOf {w w' : World} {base : Nat} {e : TypeId} {v v' : Value} {xs : List Value} (h : Own w base e v xs) (hb : w.grownBy w' v'.ownBlock) (hk : ∀ q g, v'.ownBlock = some q → v.ownBlock = some g → g ≠ q) : Own w' base e v xs := by
  cases hq : v'.ownBlock with
  | some q => exact h.keepRow (k := q) (by rw [← hq]; exact hb) (fun g hg => hk q g hq hg)
  | none =>
    rw [hq] at hb
    exact h.keepRow (k := w.heap.size) ⟨hb.os, hb.tape, hb.output, hb.size, fun k hk _ => hb.block k hk (by simp)⟩ (fun g hg => by have := h.lt g hg; omega)
theorem Own.drew {w : World} {base : Nat} {e : TypeId} {v : Value} {xs : List Value} (h : Own w base e v xs) : Own w.drew base e v xs := Own.below h (Below.drew (Below.refl w.heap.size w)) (Nat.le_refl _)
theorem Own.drewN {w : World} {base : Nat} {e : TypeId} {v : Value} {xs : List Value} (h : Own w base e v xs) (n : Nat) : Own (w.drewN n) base e v xs := Own.below h (below_drewN (Below.refl w.heap.size w) n) (Nat.le_refl _)
/-- How join.Pools stands ahead of draw k. -/
structure PInv (ra ka kb : Int) (za zb : List Int) (w : World) (gO gL gH D B : Nat) (wr : World) (k : Nat) (s : JS) (A0 : Option Addr) (c0 : Nat) (A1 : Option Addr) (c1 : Nat) (l0 l1 : List Int) : Prop where
  e0 : l0 = leftL za s.A za.length
  e1 : l1 = leftL zb s.B zb.length
  pr : Blk wr (w.heap.size + 2) 24 (pcells 0 0 (.slice none 0 0))
  po : ∃ Ao co, Blk wr gO 24 (pcells ra (ka + kb) (.slice Ao s.o.length co)) ∧ Own wr B 3 (.slice Ao s.o.length co) (s.o.map (.int .i64))
  pl : Blk wr gL 137 #[.int .i64 s.ca, .int .i64 s.cb]
  ph : Blk wr gH 139 #[.slice A0 l0.length c0, .slice A1 l1.length c1]
  o0 : Own wr D 3 (.slice A0 l0.length c0) (l0.map (.int .i64))
  o1 : Own wr D 3 (.slice A1 l1.length c1) (l1.map (.int .i64))
  b0 : ∀ ad, A0 = some ad → ad.block < B ∧ ad.block ≠ gH
  b1 : ∀ ad, A1 = some ad → ad.block < B ∧ ad.block ≠ gH
  sp : ∀ ad ae, A0 = some ad → A1 = some ae → ad.block ≠ ae.block
  od : w.heap.size + 2 < gO ∧ gO < gL ∧ gL < D ∧ D ≤ B ∧ gH < B ∧ gL < gH
  be : Below w.heap.size w wr
  sz : B ≤ wr.heap.size
  bd : 0 ≤ s.ca ∧ 0 ≤ s.cb ∧ s.ca + s.cb ≤ 1099511627776 ∧ s.o.length ≤ k
theorem PInv.next {ra ka kb : Int} {za zb : List Int} {w : World} {gO gL gH D B : Nat} {wr w5 : World} {k : Nat} {s : JS} {A0 A1 : Option Addr} {c0 c1 : Nat} {l0 l1 : List Int}
    (h : PInv ra ka kb za zb w gO gL gH D B wr k s A0 c0 A1 c1 l0 l1) (hb : Below wr.heap.size wr w5) : PInv ra ka kb za zb w gO gL gH D B w5 k s A0 c0 A1 c1 l0 l1 where
  e0 := h.e0
  e1 := h.e1
  pr := h.pr.below hb h.pr.lt
  po := by
    obtain ⟨Ao, co, h1, h2⟩ := h.po
    exact ⟨Ao, co, h1.below hb h1.lt, h2.below hb (Nat.le_refl _)⟩
  pl := h.pl.below hb h.pl.lt
  ph := h.ph.below hb h.ph.lt
  o0 := h.o0.below hb (Nat.le_refl _)
  o1 := h.o1.below hb (Nat.le_refl _)
  b0 := h.b0
  b1 := h.b1
  sp := h.sp
  od := h.od
  be := h.be.trans (hb.mono h.be.size)
  sz := Nat.le_trans h.sz hb.size
  bd := h.bd
theorem own_ad {w : World} {base : Nat} {e : TypeId} {A : Option Addr} {n c : Nat} {xs : List Value} {q : Nat} (h : (Value.slice A n c).ownBlock = some q) : ∃ ad, A = some ad ∧ ad.block = q := by
  cases A with
  | none => simp [Value.ownBlock] at h
  | some ad => exact ⟨ad, rfl, by simpa [Value.ownBlock] using h⟩
theorem PInv.stepA {ra ka kb : Int} {za zb : List Int} {w : World} {gO gL gH D B : Nat} {w5 w8 w9 w10 w11 w12 : World} {k m j g : Nat} {s : JS} {A1 : Option Addr} {c0 c1 : Nat} {Ao A8 : Option Addr} {co c8 n8 n10 : Nat} {z q : Int} {l l0 l1 : List Int}
    (h : PInv ra ka kb za zb w gO gL gH D B w5 k s (some ⟨g, 0, none⟩) c0 A1 c1 l0 l1)
    (hpo : Blk w5 gO 24 (pcells ra (ka + kb) (.slice Ao s.o.length co))) (how : Own w5 B 3 (.slice Ao s.o.length co) (s.o.map (.int .i64)))
    (h8 : (w5.drew.alloc (.cells #[.int .i64 z] 3)).grownBy w8 (Value.slice Ao s.o.length co).ownBlock) (h8o : Own w8 B 3 (.slice A8 n8 c8) ((s.o ++ [z]).map (.int .i64))) (hn8 : n8 = s.o.length + 1)
    (h9 : w8.setCell ⟨gO, 2, none⟩ (.slice A8 n8 c8) = w9) (h10 : w9.grownBy w10 (some g)) (hl : l = leftL za (gone s.A j) za.length) (hn10 : n10 = l.length)
    (h10o : Own w10 D 3 (.slice (some ⟨g, 0, none⟩) n10 c0) (l.map (.int .i64)))
    (h11 : w10.setCell ⟨gH, 0, none⟩ (.slice (some ⟨g, 0, none⟩) n10 c0) = w11) (h12 : w11.setCell ⟨gL, 0, none⟩ (.int .i64 q) = w12) (hq : q = s.ca - 1) (h0 : 0 < s.ca) :
    PInv ra ka kb za zb w gO gL gH D B w12 (k + 1) { s with A := gone s.A j, ca := s.ca - 1, o := s.o ++ [z] } (some ⟨g, 0, none⟩) c0 A1 c1 l l1 := by
  obtain ⟨d1, d2, d3, d4, d5, d6⟩ := h.od
  obtain ⟨hg1, hg2⟩ := h.b0 _ rfl
  have hgD : D ≤ g := h.o0.block g rfl
  have hbd := h.bd
  simp only at hg1 hg2
  subst hn8 hn10
  have g9 : w8.grownBy w9 (some gO) := by subst h9; exact jset_grown _ _ _ _
  have g11 : w10.grownBy w11 (some gH) := by subst h11; exact jset_grown _ _ _ _
  have g12 : w11.grownBy w12 (some gL) := by subst h12; exact jset_grown _ _ _ _
  have hv := how.block
  have s8 := h8.size; have s9 := g9.size; have s10 := h10.size; have s11 := g11.size; have s12 := g12.size
  simp at s8
  have e8 : ∀ {x : Nat} {t : TypeId} {cs : Array Value}, Blk w5 x t cs → x < B → Blk w8 x t cs := fun hb hx => (hb.drew.alloc _).row h8 (fun y hy => by have := hv y hy; omega)
  have f8 : ∀ {v : Value} {xs : List Value}, Own w5 D 3 v xs → (∀ y, v.ownBlock = some y → y < B) → Own w8 D 3 v xs := fun hb hy =>
    (Own.alloc' hb.drew _).keepOf h8 (fun a b h1 h2 => by have := hv a h1; have := hy b h2; omega)
  have ab : ∀ {A : Option Addr} {n c x : Nat}, (Value.slice A n c).ownBlock = some x → ∃ ad, A = some ad ∧ ad.block = x := fun h => own_ad (w := w5) (base := 0) (e := 0) (xs := []) h
  refine ⟨hl, h.e1, ?_, ⟨A8, c8, ?_, ?_⟩, ?_, ?_, ?_, ?_, h.b0, h.b1, h.sp, h.od, ?_, ?_, ?_⟩
  · exact ((((e8 h.pr (by omega)).grown g9 (by omega)).grown h10 (by omega)).grown g11 (by omega)).grown g12 (by omega)
  · have h1 := (e8 hpo (by omega)).set_ 2 (.slice A8 (s.o.length + 1) c8)
    rw [h9] at h1
    rw [show (s.o ++ [z]).length = s.o.length + 1 by simp]
    exact ((Blk.grown h1 h10 (by omega)).grown g11 (by omega)).grown g12 (by omega)
  · rw [show (s.o ++ [z]).length = s.o.length + 1 by simp]
    exact (((h8o.grown g9 (by omega)).grown h10 (by omega)).grown g11 (by omega)).grown g12 (by omega)
  · have h1 := ((((e8 h.pl (by omega)).grown g9 (by omega)).grown h10 (by omega)).grown g11 (by omega)).set_ 0 (.int .i64 q)
    rw [h12] at h1
    subst hq
    exact h1
  · have h1 := ((((e8 h.ph (by omega)).grown g9 (by omega)).grown h10 (by omega))).set_ 0 (.slice (some ⟨g, 0, none⟩) l.length c0)
    rw [h11] at h1
    exact Blk.grown h1 g12 (by omega)
  · exact (h10o.keepRow g11 (fun y hy => by obtain ⟨ad, e, rfl⟩ := ab hy; injection e with e; subst e; exact hg2)).grown g12 (by omega)
  · exact (((((f8 h.o1 (fun y hy => by obtain ⟨ad, e, rfl⟩ := ab hy; exact (h.b1 ad e).1)).grown g9 (by omega)).keepRow h10 (fun y hy => by obtain ⟨ad, e, rfl⟩ := ab hy; exact Ne.symm (h.sp _ ad rfl e))).keepRow g11 (fun y hy => by obtain ⟨ad, e, rfl⟩ := ab hy; exact (h.b1 ad e).2))).grown g12 (by omega)
  · have b3 := (Below.drew h.be).alloc (o := .cells #[.int .i64 z] 3) (by exact h.be.size)
    have hsz := h.be.size
    have b4 := b3.grown h8 (by simp; omega) (fun y hy => by have := hv y hy; omega)
    exact (((b4.grown g9 (by omega) (fun y hy => by injection hy with hy; omega)).grown h10 (by omega) (fun y hy => by injection hy with hy; omega)).grown g11 (by omega) (fun y hy => by injection hy with hy; omega)).grown g12 (by omega) (fun y hy => by injection hy with hy; omega)
  · have := h.sz; omega
  · refine ⟨?_, ?_, ?_, ?_⟩
    · show 0 ≤ s.ca - 1; omega
    · show 0 ≤ s.cb; omega
    · show s.ca - 1 + (s.cb) ≤ _; omega
    · show (s.o ++ [z]).length ≤ k + 1; simp; omega
theorem PInv.stepB {ra ka kb : Int} {za zb : List Int} {w : World} {gO gL gH D B : Nat} {w5 w8 w9 w10 w11 w12 : World} {k m j g : Nat} {s : JS} {A0 : Option Addr} {c0 c1 : Nat} {Ao A8 : Option Addr} {co c8 n8 n10 : Nat} {z q : Int} {l l0 l1 : List Int}
    (h : PInv ra ka kb za zb w gO gL gH D B w5 k s A0 c0 (some ⟨g, 0, none⟩) c1 l0 l1)
    (hpo : Blk w5 gO 24 (pcells ra (ka + kb) (.slice Ao s.o.length co))) (how : Own w5 B 3 (.slice Ao s.o.length co) (s.o.map (.int .i64)))
    (h8 : (w5.drew.alloc (.cells #[.int .i64 z] 3)).grownBy w8 (Value.slice Ao s.o.length co).ownBlock) (h8o : Own w8 B 3 (.slice A8 n8 c8) ((s.o ++ [z]).map (.int .i64))) (hn8 : n8 = s.o.length + 1)
    (h9 : w8.setCell ⟨gO, 2, none⟩ (.slice A8 n8 c8) = w9) (h10 : w9.grownBy w10 (some g)) (hl : l = leftL zb (gone s.B j) zb.length) (hn10 : n10 = l.length)
    (h10o : Own w10 D 3 (.slice (some ⟨g, 0, none⟩) n10 c1) (l.map (.int .i64)))
    (h11 : w10.setCell ⟨gH, 1, none⟩ (.slice (some ⟨g, 0, none⟩) n10 c1) = w11) (h12 : w11.setCell ⟨gL, 1, none⟩ (.int .i64 q) = w12) (hq : q = s.cb - 1) (h0 : 0 < s.cb) :
    PInv ra ka kb za zb w gO gL gH D B w12 (k + 1) { s with B := gone s.B j, cb := s.cb - 1, o := s.o ++ [z] } A0 c0 (some ⟨g, 0, none⟩) c1 l0 l := by
  obtain ⟨d1, d2, d3, d4, d5, d6⟩ := h.od
  obtain ⟨hg1, hg2⟩ := h.b1 _ rfl
  have hgD : D ≤ g := h.o1.block g rfl
  have hbd := h.bd
  simp only at hg1 hg2
  subst hn8 hn10
  have g9 : w8.grownBy w9 (some gO) := by subst h9; exact jset_grown _ _ _ _
  have g11 : w10.grownBy w11 (some gH) := by subst h11; exact jset_grown _ _ _ _
  have g12 : w11.grownBy w12 (some gL) := by subst h12; exact jset_grown _ _ _ _
  have hv := how.block
  have s8 := h8.size; have s9 := g9.size; have s10 := h10.size; have s11 := g11.size; have s12 := g12.size
  simp at s8
  have e8 : ∀ {x : Nat} {t : TypeId} {cs : Array Value}, Blk w5 x t cs → x < B → Blk w8 x t cs := fun hb hx => (hb.drew.alloc _).row h8 (fun y hy => by have := hv y hy; omega)
  have f8 : ∀ {v : Value} {xs : List Value}, Own w5 D 3 v xs → (∀ y, v.ownBlock = some y → y < B) → Own w8 D 3 v xs := fun hb hy =>
    (Own.alloc' hb.drew _).keepOf h8 (fun a b h1 h2 => by have := hv a h1; have := hy b h2; omega)
  have ab : ∀ {A : Option Addr} {n c x : Nat}, (Value.slice A n c).ownBlock = some x → ∃ ad, A = some ad ∧ ad.block = x := fun h => own_ad (w := w5) (base := 0) (e := 0) (xs := []) h
  refine ⟨h.e0, hl, ?_, ⟨A8, c8, ?_, ?_⟩, ?_, ?_, ?_, ?_, h.b0, h.b1, h.sp, h.od, ?_, ?_, ?_⟩
  · exact ((((e8 h.pr (by omega)).grown g9 (by omega)).grown h10 (by omega)).grown g11 (by omega)).grown g12 (by omega)
  · have h1 := (e8 hpo (by omega)).set_ 2 (.slice A8 (s.o.length + 1) c8)
    rw [h9] at h1
    rw [show (s.o ++ [z]).length = s.o.length + 1 by simp]
    exact ((Blk.grown h1 h10 (by omega)).grown g11 (by omega)).grown g12 (by omega)
  · rw [show (s.o ++ [z]).length = s.o.length + 1 by simp]
    exact (((h8o.grown g9 (by omega)).grown h10 (by omega)).grown g11 (by omega)).grown g12 (by omega)
  · have h1 := ((((e8 h.pl (by omega)).grown g9 (by omega)).grown h10 (by omega)).grown g11 (by omega)).set_ 1 (.int .i64 q)
    rw [h12] at h1
    subst hq
    exact h1
  · have h1 := ((((e8 h.ph (by omega)).grown g9 (by omega)).grown h10 (by omega))).set_ 1 (.slice (some ⟨g, 0, none⟩) l.length c1)
    rw [h11] at h1
    exact Blk.grown h1 g12 (by omega)
  · exact (((((f8 h.o0 (fun y hy => by obtain ⟨ad, e, rfl⟩ := ab hy; exact (h.b0 ad e).1)).grown g9 (by omega)).keepRow h10 (fun y hy => by obtain ⟨ad, e, rfl⟩ := ab hy; exact h.sp ad _ e rfl)).keepRow g11 (fun y hy => by obtain ⟨ad, e, rfl⟩ := ab hy; exact (h.b0 ad e).2))).grown g12 (by omega)
  · exact (h10o.keepRow g11 (fun y hy => by obtain ⟨ad, e, rfl⟩ := ab hy; injection e with e; subst e; exact hg2)).grown g12 (by omega)
  · have b3 := (Below.drew h.be).alloc (o := .cells #[.int .i64 z] 3) (by exact h.be.size)
    have hsz := h.be.size
    have b4 := b3.grown h8 (by simp; omega) (fun y hy => by have := hv y hy; omega)
    exact (((b4.grown g9 (by omega) (fun y hy => by injection hy with hy; omega)).grown h10 (by omega) (fun y hy => by injection hy with hy; omega)).grown g11 (by omega) (fun y hy => by injection hy with hy; omega)).grown g12 (by omega) (fun y hy => by injection hy with hy; omega)
  · have := h.sz; omega
  · refine ⟨?_, ?_, ?_, ?_⟩
    · show 0 ≤ s.ca; omega
    · show 0 ≤ s.cb - 1; omega
    · show s.ca + (s.cb - 1) ≤ _; omega
    · show (s.o ++ [z]).length ≤ k + 1; simp; omega
end Go.Proofs.Ytmnjgoicppknjaa
