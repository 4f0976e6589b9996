/- slices.SortFunc, slices.Compact, slices.Clip at an own slice of words. No condition but the slice's own size. -/
import Derived.Test.YtkffakekakhgdaaBotV
namespace Go.Proofs.Ytkffakekakhgdaa
open Go.ChangeShapes Go.WideShapes Go.ChangeAt Go.RowKit Go.Sort
set_option linter.unusedVariables false

theorem grownBy_sortedW {w : World} {g n : Nat} {os : Array Obj} (d : Array (BitVec 64)) : w.grownBy (grow (putRow W64 (Sort.ahead w n) g 0 d) os) (some g) := by
  refine ⟨rfl, rfl, rfl, by simp, fun k hk hne => ?_⟩
  rw [heap_grow_old _ _ (by simpa using hk)]
  have : g ≠ k := fun e => hne (by rw [e])
  simp [putRow, mapBlock, Sort.ahead, Array.getElem?_modify, this]
theorem own_grow {w : World} {base n : Nat} {e : TypeId} {v : Value} {xs : List Value} {os : Array Obj} (h : w.ownsRow base e 1 v n xs) : (grow w os).ownsRow base e 1 v n xs := by
  rcases h.2 with h0 | ⟨g, cap, cur, e0, hb, hg, hr⟩
  · exact ⟨h.1, .inl h0⟩
  · have hlt : g < w.heap.size := by
      rcases Nat.lt_or_ge g w.heap.size with h' | h'
      · exact h'
      · rw [Array.getElem?_eq_none h'] at hg; cases hg
    exact ⟨h.1, .inr ⟨g, cap, cur, e0, hb, by rw [heap_grow_old _ _ hlt]; exact hg, hr⟩⟩
theorem bms_nil (seed : BitVec 64) : bms seed [] = [] := by simp [bms]
set_option maxRecDepth 20000 in
set_option maxHeartbeats 1000000 in
theorem bsort_any (seed : BitVec 64) (l : List (BitVec 64)) (A : Option Addr) (c base bx : Nat) (w : World) (hown : Own w base tW (.slice A l.length c) (l.map W64)) (hbx : bx < base) (hb : base ≤ w.heap.size) (hc : w.cell? ⟨bx, 0, none⟩ = some (W64 seed)) (hm : l.length ≤ 1000) :
    Calls Try.prog 37 #[.slice A l.length c, .func (.func 38) #[] #[.pointer (some ⟨bx, 0, none⟩)]] w fun e w' => e = .returned (.tuple #[]) ∧ Own w' base tW (.slice A l.length c) ((bms seed l).map W64) ∧ Below base w w' := by
  by_cases h0 : l.length = 0
  · obtain rfl := List.eq_nil_of_length_eq_zero h0
    have h := AnyF.slices_SortFunc_none (P := Try.prog) (ρ := laysSF_ren) { laysSF with } A c (.func (.func 38) #[] #[.pointer (some ⟨bx, 0, none⟩)]) w
    refine Calls.mono (show Calls Try.prog 37 _ _ _ from h) ?_
    rintro e w' ⟨rfl, rfl⟩
    rw [bms_nil]
    exact ⟨rfl, hown, Below.refl _ _⟩
  · have hl : (l.map W64).length = l.length := List.length_map ..
    obtain ⟨g, rfl, hg⟩ := hown.at_ (by omega)
    have hrow : w.ownsRow base tW 1 (.slice (some ⟨g, 0, none⟩) l.length c) l.length (l.map W64) := by have h := hown; unfold Own at h; rw [hl] at h; exact h
    obtain ⟨g', cap, e0, hbg, hlt, hncap, hcapm, _, hH⟩ := Go.Lib.holds_of_ownsRow hrow (by simp)
    injection e0 with e1 _ e3
    injection e1 with e1
    injection e1 with e1
    subst e1; subst e3
    have eg : ∀ args w, (callFunc 38 args).run Try.prog w = .ok (.enter 38 args) w := enters_of Try.func38 (by kernel_rfl) rfl
    have hcmp : CmpLays1 Try.prog 38 #[.pointer (some ⟨bx, 0, none⟩)] W64 (bcf seed) g 0 l.toArray.size w := fun m os dk hdk x y => by
      have hcell : (sortWorld W64 w g 0 m dk os).cell? ⟨bx, 0, none⟩ = some (W64 seed) := by
        have h1 : (putRow W64 (Sort.ahead w m) g 0 dk).cell? ⟨bx, 0, none⟩ = some (W64 seed) := by
          rw [cell?_putRow_other W64 (Sort.ahead w m) g 0 dk ⟨bx, 0, none⟩ (.inl (show bx ≠ g by omega))]
          exact hc
        exact cell_grown (show bx < (putRow W64 (Sort.ahead w m) g 0 dk).heap.size by rw [size_putRow]; exact Nat.lt_of_lt_of_le hbx hb) h1 0 os
      refine (bcmp_any seed x y bx _ hcell).mono ?_
      rintro e w' ⟨rfl, q, rfl⟩
      exact ⟨rfl, q, #[], by rw [grow_empty]⟩
    have h := Any.slices_SortFunc_total (P := Try.prog) (ρ := laysSF_ren) laysSF W64 (fun _ => rfl) (bcf seed) (bcf_swo seed) 38 #[.pointer (some ⟨bx, 0, none⟩)] g 0 c l.toArray w eg hcmp hH hlt (by simp; omega) (bcf_total seed)
    refine Calls.mono (show Calls Try.prog 37 #[.slice (some ⟨g, 0, none⟩) l.length c, .func (.func 38) #[] #[.pointer (some ⟨bx, 0, none⟩)]] w _ from h) ?_
    rintro e w' ⟨rfl, n, os, rfl⟩
    refine ⟨rfl, ?_, (Below.refl _ _).grown (grownBy_sortedW _) hb (fun k hk => by injection hk with hk; omega)⟩
    have h2 := Go.Lib.ownsRow_putRow (q := n) (k := l.length) (ys := bms seed l) hrow (bms_len seed l) (Nat.le_refl _)
    rw [List.take_of_length_le (by rw [bms_len]; exact Nat.le_refl _)] at h2
    exact Own.to (own_grow h2)
set_option maxRecDepth 20000 in
set_option maxHeartbeats 1000000 in
theorem bcompact_any (seed : BitVec 64) (l : List (BitVec 64)) (A : Option Addr) (c base : Nat) (w : World) (hown : Own w base tW (.slice A l.length c) ((bms seed l).map W64)) (hb : base ≤ w.heap.size) (hm : l.length ≤ 1000) :
    Calls Try.prog 41 #[.slice A l.length c] w fun e w' => e = .returned (.slice A (sortK (brank seed) l).length c) ∧ Own w' base tW (.slice A (sortK (brank seed) l).length c) ((sortK (brank seed) l).map W64) ∧ Below base w w' := by
  by_cases h0 : l.length = 0
  · obtain rfl := List.eq_nil_of_length_eq_zero h0
    have e0 : sortK (brank seed) [] = [] := rfl
    rw [bms_nil] at hown
    rw [e0]
    have HO := Lib.hid hown
    clear hown
    go_enter Try.func41, Try.ntmps41
    go_wp2_with fail
    go_ret
    exact ⟨rfl, HO.out, Below.refl _ _⟩
  · have hl : ((bms seed l).map W64).length = l.length := by rw [List.length_map, bms_len]
    obtain ⟨g, rfl, hg⟩ := hown.at_ (by omega)
    have hrow : w.ownsRow base tW 1 (.slice (some ⟨g, 0, none⟩) l.length c) l.length ((bms seed l).map W64) := by have h := hown; unfold Own at h; rw [hl] at h; exact h
    obtain ⟨g', cap, e0, hbg, hlt, hncap, hcapm, _, hH⟩ := Go.Lib.holds_of_ownsRow hrow (by simp)
    injection e0 with e1 _ e3
    injection e1 with e1
    injection e1 with e1
    subst e1; subst e3
    have hsz : (bms seed l).toArray.size = l.length := by rw [List.size_toArray, bms_len]
    have h := AnyE.slices_Compact (P := Try.prog) (ρ := laysCP_ren) laysCP W64 (fun _ => rfl) (eql_w64 _ _) (neq_w64 _ _) 0#64 (fun w => Try.zeroValue22 w) g 0 c (bms seed l).toArray w hH (by omega) (by omega)
    rw [bms_compact, hsz] at h
    refine Calls.mono (show Calls Try.prog 41 #[.slice (some ⟨g, 0, none⟩) l.length c] w _ from h) ?_
    rintro e w' ⟨rfl, q, rfl⟩
    have hle : (sortK (brank seed) l).length ≤ l.length := by
      rw [← bms_compact, ← hsz]
      unfold Go.Lib.compactUpTo
      rw [List.length_map]
      refine Nat.le_trans (List.length_filter_le ..) ?_
      rw [List.length_range]; exact Nat.le_refl _
    refine ⟨rfl, ?_, Go.Lib.below_putRow (Below.refl _ _) hbg⟩
    have h2 := Go.Lib.ownsRow_putRow (q := q) (k := (sortK (brank seed) l).length) (ys := sortK (brank seed) l ++ List.replicate (l.length - (sortK (brank seed) l).length) 0#64) hrow (by rw [List.length_append, List.length_replicate]; omega) hle
    rw [List.take_left'  rfl] at h2
    exact Own.to h2
theorem bclip_any (A : Option Addr) (n c : Nat) (w : World) (hn : n ≤ c) (hc : c ≤ maxLen) :
    Calls Try.prog 42 #[.slice A n c] w fun e w' => e = .returned (.slice A n n) ∧ w' = w := by
  have h1 : (n : Int) ≤ (c : Int) := Int.ofNat_le.2 hn
  go_enter Try.func42, Try.ntmps42
  go_wp2_with fail
  go_ret
  refine ⟨?_, rfl⟩
  cases A <;> simp
end Go.Proofs.Ytkffakekakhgdaa
