/- Lists in rows; answers that are a list and a number: plain facts, nothing of the program's own functions. No condition. -/
import Derived.Test.YtkffakekakhgdaaBase2
namespace Go.Proofs.Ytkffakekakhgdaa
open Go.ChangeShapes Go.WideShapes Go.ChangeAt Go.RowKit
set_option linter.unusedVariables false

/-- A call's answer: a slice of numbers, and a number. -/
def SOut (w w' : World) (e : Ending) (l : List Int) (err : Int) : Prop :=
  ∃ A c, e = .returned (.tuple #[.slice A l.length c, .int .i64 err]) ∧ l.length ≤ c ∧ Seg w' w'.heap.size A (l.map (.int .i64)) ∧ Below w.heap.size w w'
theorem SOut.nil_ {w w' : World} {err : Int} (h : Below w.heap.size w w') : SOut w w' (.returned (.tuple #[.slice none 0 0, .int .i64 err])) [] err :=
  ⟨none, 0, rfl, Nat.le_refl _, Seg.nil, h⟩

/-- f, but u at place j. -/
def updf (f : Nat → Int) (j : Nat) (u : Int) : Nat → Int := fun i => if i = j then u else f i
theorem updf_same (f : Nat → Int) (j : Nat) (u : Int) : updf f j u j = u := if_pos rfl
theorem updf_other {f : Nat → Int} {i j : Nat} (u : Int) (h : i ≠ j) : updf f j u i = f i := if_neg h
/-- The first n of f. -/
def tab (f : Nat → Int) (n : Nat) : List Int := (List.range n).map f
theorem tab_len (f : Nat → Int) (n : Nat) : (tab f n).length = n := by simp [tab]
theorem tab_get {f : Nat → Int} {n i : Nat} (h : i < n) : (tab f n)[i]? = some (f i) := by simp [tab, h]
theorem tab_succ (f : Nat → Int) (n : Nat) : tab f (n + 1) = tab f n ++ [f n] := by simp [tab, List.range_succ]
theorem tab_congr {f g : Nat → Int} {n : Nat} (h : ∀ i, i < n → f i = g i) : tab f n = tab g n := by
  unfold tab
  exact List.map_congr_left fun i hi => h i (List.mem_range.1 hi)
theorem tab_set (f : Nat → Int) (n j : Nat) (u : Int) : (tab f n).set j u = tab (updf f j u) n := by
  apply List.ext_getElem?
  intro i
  by_cases hi : i < n
  · rw [tab_get hi]
    by_cases h : i = j
    · subst h
      rw [List.getElem?_set_self (by rw [tab_len]; exact hi), updf_same]
    · rw [List.getElem?_set_ne (fun e => h e.symm), tab_get hi, updf_other u h]
  · rw [List.getElem?_eq_none (by rw [List.length_set, tab_len]; omega), List.getElem?_eq_none (by rw [tab_len]; omega)]
theorem tab_of (l : List Int) : tab (fun i => l.getD i 0) l.length = l := by
  apply List.ext_getElem?
  intro i
  by_cases hi : i < l.length
  · rw [tab_get hi]; simp [hi]
  · rw [List.getElem?_eq_none (by rw [tab_len]; omega), List.getElem?_eq_none (by omega)]
theorem rowIs_tab {w : World} {b n : Nat} {t : TypeId} {f : Nat → Int} (h : w.rowIs b t n (fun i => .int .i64 (f i))) : Seg w w.heap.size (some ⟨b, 0, none⟩) ((tab f n).map (.int .i64)) := by
  refine rowIs_seg h (fun i u hu => ?_) (by simp [tab_len])
  have hi : i < n := by have := (List.getElem?_eq_some_iff.1 hu).1; simpa [tab_len] using this
  rw [List.getElem?_map, tab_get hi] at hu
  simpa using hu
theorem rowIs_set_int {w : World} {b n : Nat} {t : TypeId} {f : Nat → Int} (h : w.rowIs b t n (fun i => .int .i64 (f i))) (j : Nat) (u : Int) : (w.setCell ⟨b, j, none⟩ (.int .i64 u)).rowIs b t n (fun i => .int .i64 (updf f j u i)) :=
  (h.set j (.int .i64 u)).congr fun i _ => by
    by_cases e : i = j
    · subst e; simp [updf]
    · simp [updf, e]
theorem SOut.row {w w' : World} {b n : Nat} {t : TypeId} {f : Nat → Int} {err : Int} {l : List Int} (h : w'.rowIs b t n (fun i => .int .i64 (f i))) (hl : tab f n = l) (hb : Below w.heap.size w w') :
    SOut w w' (.returned (.tuple #[.slice (some ⟨b, 0, none⟩) n n, .int .i64 err])) l err := by
  subst hl
  exact ⟨_, n, by rw [tab_len], by rw [tab_len]; exact Nat.le_refl _, rowIs_tab h, hb⟩
/-- Entry i of a list, 0 behind its end. -/
def pat (p : List Int) (i : Nat) : Int := p.getD i 0
theorem pat_get {p : List Int} {i : Nat} (h : i < p.length) : pat p i = p[i] := by simp [pat, h]
theorem pat_take {p : List Int} {j : Nat} (h : j < p.length) : p.take (j + 1) = p.take j ++ [pat p j] := by
  rw [List.take_succ_eq_append_getElem h, pat_get h]
theorem tab_pat (l : List Int) : tab (pat l) l.length = l := tab_of l
theorem Seg.pat {w : World} {B : Nat} {A : Option Addr} {p : List Int} (h : Seg w B A (p.map (.int .i64))) {k : Nat} (hk : k < p.length) : ∃ ad, A = some ad ∧ ad.block < B ∧ w.cell? (ad.add k) = some (.int .i64 (pat p k)) := by
  rw [pat_get hk]; exact h.int hk
theorem pat_tab {f : Nat → Int} {n i : Nat} (h : i < n) : pat (tab f n) i = f i := by
  unfold pat
  rw [List.getD_eq_getElem?_getD, tab_get h]; rfl
theorem Seg.on {w w' : World} {A : Option Addr} {xs : List Value} (h : Seg w w.heap.size A xs) (hb : Below w.heap.size w w') : Seg w' w'.heap.size A xs := (h.below hb).more hb.size
/-- s[l:] of a slice of numbers, its address under one name. -/
theorem slice_from2 (A : Option Addr) {ys : List Int} {l c : Nat} (z : Int) (hz : z = l) (hl : l ≤ ys.length) (hc : ys.length ≤ c) :
    ∃ A', (∀ u, (Instr.slice 36 (.slice A ys.length c) (some (.int .i64 z)) none none).run Try.prog u = .ok (.slice A' (ys.drop l).length (c - l)) u) ∧ ∀ w B, Seg w B A (ys.map (.int .i64)) → Seg w B A' ((ys.drop l).map (.int .i64)) := by
  subst hz
  refine ⟨if c = l then A else A.map (·.add (l * 1)), fun u => ?_, fun w B h => ?_⟩
  · have hu : Try.prog.underlying 36 = some (.slice (Try.prog.elem 36)) := by kernel_rfl
    have he : Try.prog.elem 36 = 3 := by kernel_rfl
    rw [run_slice_l u 36 A ys.length c hu .i64 l (by omega) (by omega), he, Try.sizeOf3]
    simp [sliced, Result.andThen, List.length_drop]
  · by_cases e : c = l
    · rw [List.drop_eq_nil_of_le (by omega)]; exact Seg.nil
    · rw [if_neg e]
      cases A with
      | none =>
        intro h0
        obtain ⟨ad, e, _⟩ := h (by simp at h0 ⊢; omega)
        cases e
      | some ad => rw [List.map_drop, Nat.mul_one]; exact h.cut l
theorem slice_from {w : World} {B : Nat} {A : Option Addr} {ys : List Int} (h : Seg w B A (ys.map (.int .i64))) {l c : Nat} (z : Int) (hz : z = l) (hl : l ≤ ys.length) (hc : ys.length ≤ c) :
    ∃ A', (∀ u, (Instr.slice 36 (.slice A ys.length c) (some (.int .i64 z)) none none).run Try.prog u = .ok (.slice A' (ys.drop l).length (c - l)) u) ∧ Seg w B A' ((ys.drop l).map (.int .i64)) := by
  obtain ⟨A', h1, h2⟩ := slice_from2 A (ys := ys) z hz hl hc
  exact ⟨A', h1, h2 w B h⟩
/-- s[:x:x] of a slice of numbers. -/
theorem slice_full {A : Option Addr} {n x c : Nat} (hx : x ≤ c) (u : World) : (Instr.slice 36 (.slice A n c) none (some (.int .i64 x)) (some (.int .i64 x))).run Try.prog u = .ok (.slice A x x) u := by
  have hu : Try.prog.underlying 36 = some (.slice (Try.prog.elem 36)) := by kernel_rfl
  have he : Try.prog.elem 36 = 3 := by kernel_rfl
  rw [run_slice_hm u 36 A n c hu .i64 .i64 x x (by omega) (by omega) (by omega), he, Try.sizeOf3]
  cases A <;> simp [sliced, Result.andThen, Addr.add]
end Go.Proofs.Ytkffakekakhgdaa
