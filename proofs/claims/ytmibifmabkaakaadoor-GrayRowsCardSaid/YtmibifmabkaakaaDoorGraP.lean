/- Package gray: rows of bits, plain facts; Bruijn's rows, by the kernel. No condition. -/
import Derived.Test.YtmibifmabkaakaaDoorGraW
import Derived.Test.YtmibifmabkaakaaDoorApp2
import Derived.Test.YtmibifmabkaakaaDoorSeq
import Derived.Deep.LoopGhost
namespace Go.Proofs.YtmibifmabkaakaaDoor
open Go.ChangeShapes Go.WideShapes Go.ChangeAt Go.RowKit
set_option linter.unusedVariables false

abbrev tBl : TypeId := 4
def bat (l : List Bool) (k : Nat) : Bool := l.getD k false
theorem bat_get {l : List Bool} {k : Nat} (h : k < l.length) : bat l k = l[k] := by simp [bat, h]
theorem Seg.bat {w : World} {B : Nat} {A : Option Addr} {l : List Bool} (h : Seg w B A (l.map .bool)) {k : Nat} (hk : k < l.length) : ∃ ad, A = some ad ∧ ad.block < B ∧ w.cell? (ad.add k) = some (.bool (bat l k)) := by
  rw [bat_get hk]; exact h.bool hk
def btab (f : Nat → Bool) (n : Nat) : List Bool := (List.range n).map f
theorem btab_len (f : Nat → Bool) (n : Nat) : (btab f n).length = n := by simp [btab]
theorem btab_get {f : Nat → Bool} {n i : Nat} (h : i < n) : (btab f n)[i]? = some (f i) := by simp [btab, h]
theorem rowIs_btab {w : World} {b n L : Nat} {f : Nat → Bool} (h : w.rowIs b tBl n (fun i => .bool (f i))) (hL : L ≤ n) : Seg w w.heap.size (some ⟨b, 0, none⟩) ((btab f L).map .bool) := by
  refine rowIs_seg h (fun i u hu => ?_) (by simp [btab_len]; exact hL)
  have hi : i < L := by have := (List.getElem?_eq_some_iff.1 hu).1; simpa [btab_len] using this
  rw [List.getElem?_map, btab_get hi] at hu
  simpa using hu
theorem bools_one (l : List Bool) : ∀ u ∈ l.map Value.bool, u.oneCell' = true := fun u hu => by
  obtain ⟨y, _, rfl⟩ := List.mem_map.1 hu
  rfl
/-- s[:x] of a slice of bools. -/
theorem bslice_to {A : Option Addr} {n x c : Nat} (z : Int) (hz : z = x) (hx : x ≤ c) (u : World) : (Instr.slice 40 (.slice A n c) none (some (.int .i64 z)) none).run Tryd.prog u = .ok (.slice A x c) u := by
  subst hz
  have hu : Tryd.prog.underlying 40 = some (.slice (Tryd.prog.elem 40)) := by kernel_rfl
  have he : Tryd.prog.elem 40 = 4 := by kernel_rfl
  rw [run_slice_h u 40 A n c hu .i64 x (by omega) (by omega), he, Tryd.sizeOf4]
  cases A <;> simp [sliced, Result.andThen, Addr.add]
/-! ### the row, by words that cannot be turned into less -/
/-- How many are left where the last ones that are true are struck. -/
def tcut (f : Nat → Bool) : Nat → Nat
  | 0 => 0
  | L + 1 => if f L then tcut f L else L + 1
theorem tcut_le (f : Nat → Bool) : ∀ L, tcut f L ≤ L
  | 0 => Nat.le_refl _
  | L + 1 => by have := tcut_le f L; rw [tcut]; split <;> omega
def wrep (w : List Bool) (k : Nat) : Bool := bat w (k % w.length)
/-- The next word. -/
def nxt (n : Nat) (w : List Bool) : List Bool := btab (fun i => if i + 1 = tcut (wrep w) n then true else wrep w i) (tcut (wrep w) n)
theorem nxt_len (n : Nat) (w : List Bool) : (nxt n w).length = tcut (wrep w) n := btab_len _ _
def brun (n : Nat) : Nat → List Bool → List Bool → Option (List Bool)
  | 0, _, _ => none
  | f + 1, w, out => if w.length = 0 then some out else brun n f (nxt n w) (if n % w.length = 0 then out ++ w else out)
/-! ### the row, by all words -/
def yrot (n y : Nat) : Nat := y * 2 % 2 ^ n + y * 2 / 2 ^ n
/-- Is it the least, how soon does it come round, and what it is turned into: behind k turns. -/
def xst (n x : Nat) : Nat → Bool × Nat × Nat
  | 0 => (true, n, x)
  | k + 1 =>
    let s := xst n x k
    (s.1 && decide (x ≤ yrot n s.2.2), if yrot n s.2.2 = x ∧ s.2.1 = n then k + 1 else s.2.1, yrot n s.2.2)
def bitsL (x n : Nat) : List Bool := btab (fun k => decide (x / 2 ^ (n - 1 - k) % 2 = 1)) n
def xrow (n : Nat) : Nat → List Bool
  | 0 => []
  | x + 1 => xrow n x ++ (if (xst n x (n - 1)).1 then (bitsL x n).take (xst n x (n - 1)).2.1 else [])
theorem bru_1 : brun 1 300 [false] [] = some (xrow 1 2) := by decide +kernel
theorem bru_2 : brun 2 300 [false] [] = some (xrow 2 4) := by decide +kernel
theorem bru_3 : brun 3 300 [false] [] = some (xrow 3 8) := by decide +kernel
theorem bru_4 : brun 4 300 [false] [] = some (xrow 4 16) := by decide +kernel
theorem bru_5 : brun 5 300 [false] [] = some (xrow 5 32) := by decide +kernel
theorem bru_6 : brun 6 300 [false] [] = some (xrow 6 64) := by decide +kernel
theorem bru_7 : brun 7 300 [false] [] = some (xrow 7 128) := by decide +kernel
theorem bru_8 : brun 8 300 [false] [] = some (xrow 8 256) := by decide +kernel
theorem bru_9 : brun 9 300 [false] [] = some (xrow 9 512) := by decide +kernel
theorem bru_10 : brun 10 300 [false] [] = some (xrow 10 1024) := by decide +kernel
theorem bru_all {n : Nat} (h1 : 1 ≤ n) (h2 : n ≤ 10) : brun n 300 [false] [] = some (xrow n (2 ^ n)) := by
  rcases (by omega : n = 1 ∨ n = 2 ∨ n = 3 ∨ n = 4 ∨ n = 5 ∨ n = 6 ∨ n = 7 ∨ n = 8 ∨ n = 9 ∨ n = 10) with rfl | rfl | rfl | rfl | rfl | rfl | rfl | rfl | rfl | rfl
  · exact bru_1
  · exact bru_2
  · exact bru_3
  · exact bru_4
  · exact bru_5
  · exact bru_6
  · exact bru_7
  · exact bru_8
  · exact bru_9
  · exact bru_10
end Go.Proofs.YtmibifmabkaakaaDoor
