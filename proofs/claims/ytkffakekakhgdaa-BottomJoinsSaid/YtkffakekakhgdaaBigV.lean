/- Whole numbers in memory: quotient and remainder. No condition. -/
import Derived.Test.YtkffakekakhgdaaBigW
import Derived.Test.YtkffakekakhgdaaBigS
import Derived.Test.YtkffakekakhgdaaBigN
namespace Go.Proofs.Ytkffakekakhgdaa
open Go.ChangeShapes Go.WideShapes Go.ChangeAt Go.RowKit
set_option linter.unusedVariables false

/-- Two blocks may have changed; all else stands. -/
structure Two (w w' : World) (a b : Nat) : Prop where
  os : w'.os = w.os
  tape : w'.tape = w.tape
  output : w'.output = w.output
  size : w.heap.size ≤ w'.heap.size
  block : ∀ k, k < w.heap.size → k ≠ a → k ≠ b → w'.heap[k]? = w.heap[k]?
section
variable {w w1 w2 : World} {a b : Nat}
theorem Two.trans (h1 : Two w w1 a b) (h2 : Two w1 w2 a b) : Two w w2 a b :=
  ⟨h2.os.trans h1.os, h2.tape.trans h1.tape, h2.output.trans h1.output, Nat.le_trans h1.size h2.size, fun k hk ha hb => (h2.block k (Nat.lt_of_lt_of_le hk h1.size) ha hb).trans (h1.block k hk ha hb)⟩
theorem Two.left (h : w.grownBy w1 (some a)) : Two w w1 a b := ⟨h.os, h.tape, h.output, h.size, fun k hk ha _ => h.block k hk (by simpa using ha)⟩
theorem Two.right (h : w.grownBy w1 (some b)) : Two w w1 a b := ⟨h.os, h.tape, h.output, h.size, fun k hk _ hb => h.block k hk (by simpa using hb)⟩
theorem Two.of_below (h : Below w.heap.size w w1) : Two w w1 a b := Two.left (grown_of_below h _)
theorem Two.drewN (n : Nat) : Two w (w.drewN n) a b := Two.left (grown_drewN w n _)
theorem Two.blk {g : Nat} {t : TypeId} {cs : Array Value} (h : Two w w1 a b) (hg : Blk w g t cs) (ha : g ≠ a) (hb : g ≠ b) : Blk w1 g t cs := (h.block g hg.lt ha hb).trans hg
theorem Two.intBlk {g : Nat} (h : Two w w1 a b) (hg : IntBlk w g) (ha : g ≠ a) (hb : g ≠ b) : IntBlk w1 g := by
  obtain ⟨x, y, hg⟩ := hg
  exact ⟨x, y, h.blk hg ha hb⟩
theorem Two.tseg {e t u : TypeId} {A : Option Addr} {xs : List Value} {cs ds : Array Value} (h : Two w w1 a b) (hs : TSeg w e A xs) (ha : Blk w a t cs) (hb : Blk w b u ds) (hta : t ≠ e) (htb : u ≠ e) : TSeg w1 e A xs := by
  by_cases h0 : 0 < xs.length
  · obtain ⟨ad, c, hA, hc⟩ := hs.2 h0
    have hn : ∀ (g : Nat) (t : TypeId) (cs : Array Value), Blk w g t cs → t ≠ e → ad.block ≠ g := by
      intro g t cs hg hne e1
      rw [e1] at hc
      unfold Blk at hg
      rw [hg] at hc
      injection hc with hc
      injection hc with _ h2 _
      exact hne h2
    have hlt : ad.block < w.heap.size := by
      rcases Nat.lt_or_ge ad.block w.heap.size with hlt | hge
      · exact hlt
      · rw [Array.getElem?_eq_none hge] at hc; cases hc
    have hbk : w1.heap[ad.block]? = w.heap[ad.block]? := h.block _ hlt (hn a t cs ha hta) (hn b u ds hb htb)
    refine ⟨fun h1 => ?_, fun _ => ⟨ad, c, hA, hbk.trans hc⟩⟩
    obtain ⟨ad', ha', _, hcs⟩ := hs.1 h1
    obtain rfl : ad = ad' := by rw [hA] at ha'; injection ha'
    refine ⟨ad, hA, Nat.lt_of_lt_of_le hlt h.size, fun k v hk => ?_⟩
    exact (World.cell?_of_block (w := w) (a := ad.add k) (by rw [addr_block]; exact hbk)).trans (hcs k v hk)
  · have : xs = [] := List.eq_nil_of_length_eq_zero (by omega)
    subst this
    exact TSeg.nil
theorem Two.intZ {g o : Nat} {z : Int} (h : Two w w1 a b) (hz : IntZ w g o z) (ha : IntBlk w a) (hb : IntBlk w b) (hga : g ≠ a) (hgb : g ≠ b) : IntZ w1 g o z := by
  obtain ⟨s, ds, ⟨t, cs, A, c, h1, h2, h3, h4, h5, h6, h7⟩, hs⟩ := hz
  obtain ⟨x, y, ha⟩ := ha
  obtain ⟨x', y', hb⟩ := hb
  exact ⟨s, ds, ⟨t, cs, A, c, h.blk h1 hga hgb, h2, h3, h4, h5, h6, h.tseg h7 ha hb tI_ne tI_ne⟩, hs⟩
/-- One of the two is new: only the other one changed. -/
theorem Two.grown {w0 : World} (h : Two w w1 a b) (hb : Below w0.heap.size w0 w) (ha : w0.heap.size ≤ a) : w0.grownBy w1 (some b) :=
  ⟨h.os.trans hb.os, h.tape.trans hb.tape, h.output.trans hb.output, Nat.le_trans hb.size h.size, fun k hk hne => (h.block k (Nat.lt_of_lt_of_le hk hb.size) (by omega) (by simpa using hne)).trans (hb.block k hk)⟩
theorem Two.grown' {w0 : World} (h : Two w w1 a b) (hb : Below w0.heap.size w0 w) (ha : w0.heap.size ≤ b) : w0.grownBy w1 (some a) :=
  ⟨h.os.trans hb.os, h.tape.trans hb.tape, h.output.trans hb.output, Nat.le_trans hb.size h.size, fun k hk hne => (h.block k (Nat.lt_of_lt_of_le hk hb.size) (by simpa using hne) (by omega)).trans (hb.block k hk)⟩
end
theorem trimZ (g : Nat) (b : Bool) (A : Option Addr) (c : Nat) (ds : List Nat) (w : World) (hb : Blk w g tI #[.bool b, .slice A ds.length c]) (hd : Digs w A ds) (hok : dok ds) (hc : ds.length ≤ c) (hm : ds.length ≤ capMax) :
    Calls Try.prog 102 #[.pointer (some ⟨g, 0, none⟩)] w fun e w' => e = .returned (.pointer (some ⟨g, 0, none⟩)) ∧ PutZ w w' g (if b then -(dv ds : Int) else (dv ds : Int)) := by
  refine (trim_any g b A c ds w hb hd hc hm).mono ?_
  rintro e w' ⟨rfl, ht⟩
  exact ⟨rfl, put_of_trim (grown_refl w _) hb hd hok hc hm ht rfl⟩
theorem tdiv_sign {bx by_ : Bool} {xs ys : List Nat} {x y : Int} (hx : IsZ bx xs x) (hy : IsZ by_ ys y) : x.tdiv y = if (!(bx == by_)) = true then -((dv xs / dv ys : Nat) : Int) else ((dv xs / dv ys : Nat) : Int) := by
  have h1 := hx.2.2.2
  have h2 := hy.2.2.2
  cases bx <;> cases by_ <;> simp at h1 h2 <;> subst h1 h2 <;> simp [Int.neg_tdiv, Int.tdiv_neg] <;> rfl
theorem tmod_sign {bx by_ : Bool} {xs ys : List Nat} {x y : Int} (hx : IsZ bx xs x) (hy : IsZ by_ ys y) : x.tmod y = if bx = true then -((dv xs % dv ys : Nat) : Int) else ((dv xs % dv ys : Nat) : Int) := by
  have h1 := hx.2.2.2
  have h2 := hy.2.2.2
  cases bx <;> cases by_ <;> simp at h1 h2 <;> subst h1 h2 <;> simp [Int.neg_tmod, Int.tmod_neg] <;> rfl
end Go.Proofs.Ytkffakekakhgdaa
