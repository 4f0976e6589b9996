/- slices.Delete of one place of a slice of numbers that the call owns. No condition. -/
import Derived.Test.YtmnjgoicppknjaaBase2
import Derived.Shelf.Slices.Cells
namespace Go.Proofs.Ytmnjgoicppknjaa
open Go.ChangeShapes Go.WideShapes Go.ChangeAt Go.RowKit

def laysDelete_ren : Go.Shelf.Ren := ⟨fun | 23 => 124 | n => n, fun | 22 => 22 | 3 => 3 | 4 => 4 | 0 => 0 | n => n, fun | n => n⟩
theorem laysDelete : Go.Proofs.Lays2.n23 Try.prog laysDelete_ren := {
  mixed := by kernel_rfl
  f23 := Try.func124.trans (congrArg some (by kernel_rfl))
  t0 := Try.underlying0
  a0 := Try.isAgg0
  z0 := Try.sizeOf0
  v0 := Try.zeroValue0
  t3 := Try.underlying3
  a3 := Try.isAgg3
  z3 := Try.sizeOf3
  v3 := Try.zeroValue3
  t4 := Try.underlying4
  a4 := Try.isAgg4
  z4 := Try.sizeOf4
  v4 := Try.zeroValue4
  t22 := Try.underlying22
  a22 := Try.isAgg22
  z22 := Try.sizeOf22
  v22 := Try.zeroValue22
  i3 := by kernel_rfl }

section
variable {w : World} {base g n c : Nat} {e : TypeId}
theorem setCell_grown (w : World) (g i : Nat) (u : Value) : w.grownBy (w.setCell ⟨g, i, none⟩ u) (some g) :=
  ⟨rfl, rfl, rfl, by simp, fun k _ hk => Below.heap_setCell w _ _ k (fun e => hk (by rw [e]))⟩
theorem Own.many (vs : List Value) : ∀ (w : World) (pre ys suf : List Value), ys.length = vs.length → Own w base e (.slice (some ⟨g, 0, none⟩) n c) (pre ++ ys ++ suf) →
    Own (w.setCells g pre.length vs) base e (.slice (some ⟨g, 0, none⟩) n c) (pre ++ vs ++ suf) ∧ w.grownBy (w.setCells g pre.length vs) (some g) := by
  induction vs with
  | nil =>
    intro w pre ys suf hl h
    obtain rfl : ys = [] := List.eq_nil_of_length_eq_zero hl
    exact ⟨h, World.grownBy.refl _ _⟩
  | cons v vs ih =>
    intro w pre ys suf hl h
    match ys, hl with
    | y :: ys, hl =>
      have h1 := h.set pre.length v
      have e1 : (pre ++ y :: ys ++ suf).set pre.length v = (pre ++ [v]) ++ ys ++ suf := by
        rw [List.append_assoc, List.set_append_right _ _ (Nat.le_refl _)]
        simp
      rw [e1] at h1
      have h2 := ih (w.setCell ⟨g, pre.length, none⟩ v) (pre ++ [v]) ys suf (by simpa using hl) h1
      have e2 : (pre ++ [v]).length = pre.length + 1 := by simp
      rw [e2] at h2
      refine ⟨by simpa [World.setCells] using h2.1, (setCell_grown w g pre.length v).trans h2.2⟩
theorem Own.shrink {A : Option Addr} {xs : List Value} (h : Own w base e (.slice A n c) xs) (m : Nat) (hm : m ≤ xs.length) (h0 : 0 < n) : Own w base e (.slice A m c) (xs.take m) := by
  have hl := h.len
  rcases h.2 with ⟨e1, h1⟩ | ⟨g, cap, cur, e1, hg, hh, hn, hcm, hs, ht⟩
  · omega
  · injection e1 with e1 e2 e3
    subst e1 e3
    have hlt : (xs.take m).length = m := by rw [List.length_take]; omega
    refine ⟨by omega, .inr ⟨g, c, cur, by rw [hlt], hg, hh, by omega, hcm, hs, ?_⟩⟩
    have ht' : xs = cur.toList.take xs.length := by rw [Nat.mul_one] at ht; exact ht.symm
    rw [hlt, Nat.mul_one, show xs.take m = (cur.toList.take xs.length).take m by rw [← ht'], List.take_take, Nat.min_eq_left hm]
end

theorem delete_own (base g c : Nat) (zs : List Int) (m : Nat) (w : World) (h : Own w base 3 (.slice (some ⟨g, 0, none⟩) zs.length c) (zs.map (.int .i64))) (hc : zs.length ≤ c) (hcm : c ≤ maxLen) (hm : m < zs.length) :
    Calls Try.prog 124 #[.slice (some ⟨g, 0, none⟩) zs.length c, .int .i64 m, .int .i64 (m + 1 : Nat)] w fun e w' => e = .returned (.slice (some ⟨g, 0, none⟩) (zs.length - 1) c) ∧
      Own w' base 3 (.slice (some ⟨g, 0, none⟩) (zs.length - 1) c) ((zs.eraseIdx m).map (.int .i64)) ∧ w.grownBy w' (some g) := by
  refine (Any.slices_Delete_int_cells laysDelete g 0 zs.length c m (m + 1) zs w (Nat.le_refl _) hc hcm (by omega) (by omega) (fun j hj => ?_) (fun j hj => ?_)).mono ?_
  · rw [Nat.zero_add]
    exact h.cell (by simp [hj, List.getD])
  · rw [Nat.zero_add]
    exact h.frozen j
  · rintro e w' ⟨rfl, q, rfl⟩
    rw [List.take_length]
    have hl : ((zs.take m ++ zs.drop (m + 1) ++ List.replicate (m + 1 - m) 0).map (Value.int .i64)).length = (zs.map (Value.int .i64)).length := by simp; omega
    obtain ⟨h1, h2⟩ := Own.many ((zs.take m ++ zs.drop (m + 1) ++ List.replicate (m + 1 - m) 0).map (Value.int .i64)) (w.drewN q) [] (zs.map (.int .i64)) [] hl.symm (by simpa using (show Own (w.drewN q) base 3 (.slice (some ⟨g, 0, none⟩) zs.length c) (zs.map (.int .i64)) from h))
    simp only [List.nil_append, List.append_nil, List.length_nil] at h1 h2
    refine ⟨by rw [show zs.length - (m + 1 - m) = zs.length - 1 by omega], ?_, ?_⟩
    · have h3 := h1.shrink (zs.length - 1) (by rw [hl, List.length_map]; omega) (by omega)
      rw [List.eraseIdx_eq_take_drop_succ]
      rw [← List.map_take, List.take_append_of_le_length (by simp; omega), List.take_of_length_le (l := zs.take m ++ zs.drop (m + 1)) (by simp; omega)] at h3
      exact h3
    · exact ⟨h2.os, h2.tape, h2.output, h2.size, h2.block⟩
end Go.Proofs.Ytmnjgoicppknjaa
