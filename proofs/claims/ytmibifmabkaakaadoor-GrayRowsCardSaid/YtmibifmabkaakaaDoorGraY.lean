/- Package gray: the law GrayRows, walked. No condition but the slice's own size, and that the table of bits lies in its variable. -/
import Derived.Test.YtmibifmabkaakaaDoorGraL
import Derived.Test.YtmibifmabkaakaaDoorGraX
import Derived.Test.YtmibifmabkaakaaDoorConbools
import Derived.Test.YtmibifmabkaakaaDoorEqbools
import Derived.Deep.RegionHeld3
import Derived.Deep.DeepCutAuto
namespace Go.Proofs.YtmibifmabkaakaaDoor
open Go.ChangeShapes Go.WideShapes Go.ChangeAt Go.RowKit
set_option linter.unusedVariables false

abbrev tBlS : TypeId := 40
section
variable {P : Program} {ops : Array Oper} {Q : Exit → Act → World → Prop} {S : World → Prop} {l : List Oper}
theorem plan2w {k : Nat} {ks : List (Nat × Nat)} {a : Act} {w : World} {o : Oper} (ho : l[k]? = some o) (hw : Region.wanted o (yielded l.toArray a.tmps) = true)
    (h : ∀ K' : Act → World → Prop, (∀ a' w', S w' → wpPlan P l.toArray Q S ks a' w' → K' a' w') → Oper.wp P o a w K' Q) : wpPlan P l.toArray Q S ((k, 2) :: ks) a w :=
  wpOp_step (show l.toArray[k]? = some o by simpa using ho) fun K' hK => by
    rw [if_pos hw]
    exact h K' fun a' w' h1 h2 => hK a' w' ⟨h1, h2⟩
end
theorem gb_go {w u v : World} (h : Below w.heap.size w u) (hb : Below u.heap.size u v) : Below w.heap.size w v := h.trans (hb.mono h.size)
theorem gb_alloc {w u : World} (h : Below w.heap.size w u) (o : Obj) : Below w.heap.size w (u.alloc o) := h.alloc h.size o
theorem Blk.on {w w' : World} {g : Nat} {t : TypeId} {cs : Array Value} (h : Blk w g t cs) (hb : Below w.heap.size w w') : Blk w' g t cs := h.below hb h.lt
theorem blk_second (w : World) (o : Obj) (t : TypeId) (cs : Array Value) : Blk ((w.alloc o).alloc (.cells cs t)) (w.heap.size + 1) t cs := by simpa using Blk.new (w.alloc o) t cs
theorem gseg_on {w w' : World} {A : Option Addr} {xs : List Value} (h : Seg w w.heap.size A xs) (hb : Below w.heap.size w w') : Seg w' w'.heap.size A xs := (h.below hb).more hb.size
/-- s[x:] of a slice of bools. -/
theorem bslice_from (A : Option Addr) {ys : List Bool} {x c : Nat} (z : Int) (hz : z = x) (hl : x ≤ ys.length) (hc : ys.length ≤ c) :
    ∃ A', (∀ u, (Instr.slice 40 (.slice A ys.length c) (some (.int .i64 z)) none none).run Tryd.prog u = .ok (.slice A' (ys.length - x) (c - x)) u) ∧ ∀ w B, Seg w B A (ys.map .bool) → Seg w B A' ((ys.drop x).map .bool) := by
  subst hz
  refine ⟨if c = x then A else A.map (·.add (x * 1)), fun u => ?_, fun w B h => ?_⟩
  · have hu : Tryd.prog.underlying 40 = some (.slice (Tryd.prog.elem 40)) := by kernel_rfl
    have he : Tryd.prog.elem 40 = 4 := by kernel_rfl
    rw [run_slice_l u 40 A ys.length c hu .i64 x (by omega) (by omega), he, Tryd.sizeOf4]
    simp [sliced, Result.andThen]
  · by_cases e : c = x
    · rw [List.drop_eq_nil_of_le (by omega)]; exact Seg.nil
    · rw [if_neg e]
      cases A with
      | none =>
        intro h0
        obtain ⟨ad, e, _⟩ := h (by simp at h0 ⊢; omega)
        cases e
      | some ad => rw [List.map_drop, Nat.mul_one]; exact h.cut x
/-- Two slices, one behind the other. -/
theorem conc2 (b : Nat) (x y : Vw) (u : World) (hblk : Blk u b tBlS #[vwV x, vwV y]) (hx : Seg u u.heap.size x.1 x.2.1) (hy : Seg u u.heap.size y.1 y.2.1) (ox : ∀ v ∈ x.2.1, v.oneCell' = true) (oy : ∀ v ∈ y.2.1, v.oneCell' = true) (hsz : x.2.1.length + y.2.1.length ≤ 400) :
    Calls Tryd.prog 51 #[.slice (some ⟨b, 0, none⟩) 2 2] u fun e w' => ∃ A c, e = .returned (.slice A (x.2.1.length + y.2.1.length) c) ∧ Seg w' w'.heap.size A (x.2.1 ++ y.2.1) ∧ Below u.heap.size u w' := by
  have hv : VwsOk u u.heap.size (some ⟨b, 0, none⟩) [x, y] := by
    refine ⟨fun _ => ⟨_, rfl, hblk.lt, fun k v hk => ?_⟩, fun z hz => ?_⟩
    · have hk2 : k < 2 := (List.getElem?_eq_some_iff.1 hk).1
      rcases (by omega : k = 0 ∨ k = 1) with rfl | rfl
      · simp at hk; subst hk; exact hblk.cell 0 rfl
      · simp at hk; subst hk; exact hblk.cell 1 rfl
    · rcases List.mem_cons.1 hz with rfl | hz
      · exact ⟨hx, ox⟩
      · rw [List.mem_singleton.1 hz]; exact ⟨hy, oy⟩
  have e1 : vlen [x, y] 2 = x.2.1.length + y.2.1.length := by simp [vlen]
  have e2 : vall [x, y] 2 = x.2.1 ++ y.2.1 := by simp [vall]
  have h := conc_bools (some ⟨b, 0, none⟩) [x, y] 2 u.heap.size u hv (Nat.le_refl _) (by simp) (by show vlen [x, y] 2 * 1 ≤ _; rw [e1]; omega)
  refine h.mono fun e w' ⟨v, he, ho, hb⟩ => ?_
  rw [show ([x, y] : List Vw).length = 2 from rfl, e2] at ho
  obtain ⟨A, c, rfl, hc, hs⟩ := ho.res
  exact ⟨A, c, by rw [he, List.length_append], hs, hb⟩
theorem lbest_in {w : List Bool} {k : Nat} (hk : k < w.length) : lbest w k < w.length := by
  rcases Nat.eq_zero_or_pos k with e | e
  · subst e; exact hk
  · have := lbest_lt w k e; omega
theorem lless_rot {w : List Bool} {b k : Nat} (hb : b < w.length) (hk : k < w.length) : scan (bat (rotL w b)) (bat (rotL w k)) 0 w.length = lless w b k :=
  scan_congr (n := w.length) (fun i hi => rotL_bit hb hi) (fun i hi => rotL_bit hk hi) w.length 0 (by omega)
/-- w, turned to k, made of its two slices. -/
theorem conc_rot {w1 : World} {A X1 : Option Addr} {l : List Bool} {c k L : Nat} (hL : l.length = L) (hk : k < L) (h4 : L ≤ 400) (hx : ∀ w B, Seg w B A (l.map .bool) → Seg w B X1 ((l.drop k).map .bool)) (hs : Seg w1 w1.heap.size A (l.map .bool)) (u : World) (b : Nat)
    (hb : Blk u b tBlS #[.slice X1 (L - k) (c - k), .slice A k c]) (hw : Below w1.heap.size w1 u) :
    Calls Tryd.prog 51 #[.slice (some ⟨b, 0, none⟩) 2 2] u fun e w' => ∃ A' c', e = .returned (.slice A' L c') ∧ Seg w' w'.heap.size A' ((rotL l k).map .bool) ∧ Below u.heap.size u w' := by
  have hu := gseg_on hs hw
  have e1 : ((l.drop k).map Value.bool).length = L - k := by rw [List.length_map, List.length_drop, hL]
  have e2 : ((l.take k).map Value.bool).length = k := by rw [List.length_map, List.length_take]; omega
  have s2 : Seg u u.heap.size A ((l.take k).map .bool) := by rw [List.map_take]; exact hu.pre k
  have h := conc2 b (X1, (l.drop k).map .bool, c - k) (A, (l.take k).map .bool, c) u (by
    show Blk u b tBlS #[.slice X1 ((l.drop k).map Value.bool).length (c - k), .slice A ((l.take k).map Value.bool).length c]
    rw [e1, e2]; exact hb) (hx u _ hu) s2 (bools_one _) (bools_one _) (by
    show ((l.drop k).map Value.bool).length + ((l.take k).map Value.bool).length ≤ 400
    rw [e1, e2]; omega)
  refine h.mono fun e w' ⟨A', c', he, hs', hb'⟩ => ⟨A', c', ?_, ?_, hb'⟩
  · rw [he]
    show Ending.returned (.slice A' (((l.drop k).map Value.bool).length + ((l.take k).map Value.bool).length) c') = _
    rw [e1, e2, show L - k + k = L by omega]
  · unfold rotL
    rw [List.map_append]
    exact hs'
end Go.Proofs.YtmibifmabkaakaaDoor
