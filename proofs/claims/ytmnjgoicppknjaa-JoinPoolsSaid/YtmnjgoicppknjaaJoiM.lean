/- Pools joined: plain. What is left of a list when some places are gone; the search for one that is left; the draws. No condition. -/
import Derived.Test.YtmnjgoicppknjaaSeq
namespace Go.Proofs.Ytmnjgoicppknjaa
open Go.ChangeShapes Go.WideShapes Go.ChangeAt Go.RowKit
set_option linter.unusedVariables false

/-- Of the first so many entries, those whose place is not gone. -/
def leftL (zs : List Int) (G : Nat → Bool) : Nat → List Int
  | 0 => []
  | i + 1 => if G i = true then leftL zs G i else leftL zs G i ++ [pat zs i]
def cntL (G : Nat → Bool) : Nat → Nat
  | 0 => 0
  | i + 1 => if G i = true then cntL G i else cntL G i + 1
/-- The place that is not gone, with w such ahead of it; -1: none. -/
def gat (G : Nat → Bool) (w : Int) : Nat → Int
  | 0 => -1
  | i + 1 => if G i = false ∧ (cntL G i : Int) = w then (i : Int) else gat G w i
def gone (G : Nat → Bool) (j : Nat) : Nat → Bool := fun i => if i = j then true else G i
theorem leftL_len (zs : List Int) (G : Nat → Bool) : ∀ n, (leftL zs G n).length = cntL G n
  | 0 => rfl
  | n + 1 => by
    rw [leftL, cntL]
    split
    · exact leftL_len zs G n
    · rw [List.length_append, leftL_len zs G n]; rfl
theorem cntL_le (G : Nat → Bool) : ∀ n, cntL G n ≤ n
  | 0 => Nat.le_refl _
  | n + 1 => by rw [cntL]; have := cntL_le G n; split <;> omega
theorem leftL_congr {zs : List Int} {G H : Nat → Bool} : ∀ n, (∀ i, i < n → G i = H i) → leftL zs G n = leftL zs H n
  | 0, _ => rfl
  | n + 1, h => by rw [leftL, leftL, leftL_congr n fun i hi => h i (by omega), h n (by omega)]
theorem leftL_all (zs : List Int) : ∀ n, n ≤ zs.length → leftL zs (fun _ => false) n = zs.take n
  | 0, _ => by simp [leftL]
  | n + 1, h => by
    rw [leftL, if_neg (by simp), leftL_all zs n (by omega), pat_take (by omega)]
theorem gat_none {G : Nat → Bool} {w : Int} : ∀ n, (w < 0 ∨ (cntL G n : Int) ≤ w) → gat G w n = -1
  | 0, _ => rfl
  | n + 1, h => by
    rw [cntL] at h
    rw [gat]
    by_cases hg : G n = true
    · rw [if_pos hg] at h
      rw [if_neg (by rw [hg]; simp)]
      exact gat_none n h
    · rw [if_neg hg] at h
      rw [if_neg (by omega)]
      exact gat_none n (by omega)
theorem pat_app_left {l : List Int} {x : Int} {k : Nat} (h : k < l.length) : pat (l ++ [x]) k = pat l k := by
  simp [pat, List.getD, List.getElem?_append_left h]
theorem pat_app_last (l : List Int) (x : Int) : pat (l ++ [x]) l.length = x := by simp [pat]
/-- One that is left is found; then it is gone. -/
theorem gat_hit {zs : List Int} {G : Nat → Bool} {w : Nat} : ∀ n, w < cntL G n →
    ∃ i, i < n ∧ gat G w n = (i : Nat) ∧ G i = false ∧ cntL G i = w ∧ pat (leftL zs G n) w = pat zs i ∧ leftL zs (gone G i) n = (leftL zs G n).eraseIdx w
  | 0, h => by simp [cntL] at h
  | n + 1, h => by
    rw [cntL] at h
    by_cases hg : G n = true
    · rw [if_pos hg] at h
      obtain ⟨i, h1, h2, h3, h4, h5, h6⟩ := gat_hit (zs := zs) n h
      refine ⟨i, by omega, ?_, h3, h4, ?_, ?_⟩
      · rw [gat, if_neg (by rw [hg]; simp)]; exact h2
      · rw [leftL, if_pos hg]; exact h5
      · rw [leftL, leftL, if_pos hg, if_pos (by unfold gone; rw [if_neg (by omega)]; exact hg)]; exact h6
    · rw [if_neg hg] at h
      have hg2 : G n = false := by simpa using hg
      by_cases hw : w < cntL G n
      · obtain ⟨i, h1, h2, h3, h4, h5, h6⟩ := gat_hit (zs := zs) n hw
        refine ⟨i, by omega, ?_, h3, h4, ?_, ?_⟩
        · rw [gat, if_neg (by omega)]; exact h2
        · rw [leftL, if_neg hg, pat_app_left (by rw [leftL_len]; exact hw)]; exact h5
        · rw [leftL, leftL, if_neg hg, if_neg (by unfold gone; rw [if_neg (by omega)]; exact hg), h6, List.eraseIdx_append_of_lt_length (by rw [leftL_len]; exact hw)]
      · have hw2 : cntL G n = w := by omega
        refine ⟨n, by omega, ?_, hg2, hw2, ?_, ?_⟩
        · rw [gat, if_pos ⟨hg2, by omega⟩]
        · rw [leftL, if_neg hg, ← hw2, ← leftL_len zs, pat_app_last]
        · rw [leftL, leftL, if_neg hg, if_pos (by unfold gone; rw [if_pos rfl]), ← hw2, ← leftL_len zs, List.eraseIdx_append_of_length_le (Nat.le_refl _), Nat.sub_self]
          rw [leftL_congr n fun i hi => show gone G n i = G i by unfold gone; rw [if_neg (by omega)]]
          simp
/-- How the draws stand: which places of each are gone, how many of each are left, what came out. -/
structure JS where
  A : Nat → Bool
  B : Nat → Bool
  ca : Int
  cb : Int
  o : List Int
def JS.step (za zb : List Int) (s : JS) (d w : Int) : Option JS :=
  if d < 0 ∨ s.ca + s.cb ≤ d then none
  else if d < s.ca then
    if 0 ≤ w ∧ w < cntL s.A za.length then some { s with A := gone s.A (gat s.A w za.length).toNat, ca := s.ca - 1, o := s.o ++ [pat za (gat s.A w za.length).toNat] } else none
  else
    if 0 ≤ w ∧ w < cntL s.B zb.length then some { s with B := gone s.B (gat s.B w zb.length).toNat, cb := s.cb - 1, o := s.o ++ [pat zb (gat s.B w zb.length).toNat] } else none
/-- The draws j, j + 1 .. , so many. -/
def JS.run (za zb ds ws : List Int) : Nat → Nat → JS → Option (List Int)
  | 0, _, s => some s.o
  | f + 1, j, s => (s.step za zb (pat ds j) (pat ws j)).bind fun s' => JS.run za zb ds ws f (j + 1) s'
theorem JS.run_none {za zb ds ws : List Int} {f j : Nat} {s : JS} (h : s.step za zb (pat ds j) (pat ws j) = none) : JS.run za zb ds ws (f + 1) j s = none := by rw [JS.run, h]; rfl
theorem JS.run_some {za zb ds ws : List Int} {f j : Nat} {s s' : JS} (h : s.step za zb (pat ds j) (pat ws j) = some s') : JS.run za zb ds ws (f + 1) j s = JS.run za zb ds ws f (j + 1) s' := by rw [JS.run, h]; rfl
def JS.start (ka kb : Int) : JS := ⟨fun _ => false, fun _ => false, ka, kb, []⟩
end Go.Proofs.Ytmnjgoicppknjaa
