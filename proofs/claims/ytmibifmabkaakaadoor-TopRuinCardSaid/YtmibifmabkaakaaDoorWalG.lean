/- The law WalkCounts: package walk's Free and Above. No condition. -/
import Derived.Test.YtmibifmabkaakaaDoorWalF
namespace Go.Proofs.YtmibifmabkaakaaDoor
open Go.ChangeShapes Go.WideShapes Go.ChangeAt Go.RowKit
set_option linter.unusedVariables false

theorem seg_lit (w : World) (l : List Int) {arr : Array Value} (ha : arr = (l.map (Value.int .i64)).toArray) : Seg (w.alloc (.cells arr 3)) (w.alloc (.cells arr 3)).heap.size (some ⟨w.heap.size, 0, none⟩) (l.map (.int .i64)) := fun _ =>
  ⟨_, rfl, (Blk.new w 3 arr).lt, fun k u hu => by
    rw [Addr.add_lit, Nat.zero_add, cell_of_row _ w.heap.size k _ _ (0, 0) (Blk.new w 3 arr), ha, List.getElem?_toArray]; exact hu⟩
theorem wrK_ok {b : Bool} {l : List Int} : ∀ m, wrK b l m = false → b = false ∧ ∀ k, k < m → -100 ≤ dk l k ∧ dk l k ≤ 100
  | 0, h => ⟨h, fun k hk => by omega⟩
  | m + 1, h => by
    simp only [wrK, Bool.or_eq_false_iff, decide_eq_false_iff_not] at h
    obtain ⟨h1, h2, h3⟩ := h
    obtain ⟨g1, g2⟩ := wrK_ok m h1
    refine ⟨g1, fun k hk => ?_⟩
    by_cases e : k = m
    · subst e; omega
    · exact g2 k (by omega)
theorem nB_ok {n : Int} (h : nB n = false) : 0 ≤ n ∧ n ≤ 56 := by
  simp only [nB, Bool.or_eq_false_iff, decide_eq_false_iff_not] at h
  omega
theorem wr1 {n a : Int} (h : wrB n [a] = false) : (0 ≤ n ∧ n ≤ 56) ∧ -100 ≤ a ∧ a ≤ 100 := by
  obtain ⟨h1, h2⟩ := wrK_ok _ h
  exact ⟨nB_ok h1, h2 0 (by simp)⟩
theorem wr2 {n a b : Int} (h : wrB n [a, b] = false) : (0 ≤ n ∧ n ≤ 56) ∧ (-100 ≤ a ∧ a ≤ 100) ∧ -100 ≤ b ∧ b ≤ 100 := by
  obtain ⟨h1, h2⟩ := wrK_ok _ h
  exact ⟨nB_ok h1, h2 0 (by simp), h2 1 (by simp)⟩
theorem wr3 {n a b c : Int} (h : wrB n [a, b, c] = false) : (0 ≤ n ∧ n ≤ 56) ∧ (-100 ≤ a ∧ a ≤ 100) ∧ (-100 ≤ b ∧ b ≤ 100) ∧ -100 ≤ c ∧ c ≤ 100 := by
  obtain ⟨h1, h2⟩ := wrK_ok _ h
  exact ⟨nB_ok h1, h2 0 (by simp), h2 1 (by simp), h2 2 (by simp)⟩
/-- What is answered. -/
def WOut (bad : Bool) (v : Int) (w : World) (e : Ending) (w' : World) : Prop :=
  e = .returned (.tuple #[.int .i64 (if bad = true then 0 else v), .int .i64 (if bad = true then 2 else 0)]) ∧ Below w.heap.size w w'
set_option maxRecDepth 20000 in
set_option maxHeartbeats 1000000 in
theorem above_any (n fr to : Int) (w : World) : Calls Tryd.prog 52 #[.int .i64 n, .int .i64 fr, .int .i64 to] w (WOut (wrB n [fr, to]) (aboveV n.toNat fr to) w) := by
  have K1 := wwrong_any n (some ⟨w.heap.size, 0, none⟩) [fr, to] 2 (w.alloc (.cells #[.int .i64 fr, .int .i64 to] 3)) (seg_lit w [fr, to] rfl) (by simp)
  have HB := Lib.hid ((Below.refl w.heap.size w).alloc (Nat.le_refl _) (.cells #[.int .i64 fr, .int .i64 to] 3))
  cases hb : wrB n [fr, to] with
  | true =>
    rw [hb] at K1
    have H1 := Lib.hid K1
    clear K1 hb
    go_enter Tryd.func52, Tryd.ntmps52
    go_wp2_with fail
    refine H1.out.mono ?_
    rintro e w1 ⟨rfl, rfl⟩
    go_wp2_with fail
    go_ret2
    exact ⟨rfl, HB.out⟩
  | false =>
    rw [hb] at K1
    have H1 := Lib.hid K1
    obtain ⟨⟨h1, h2⟩, ⟨h3, h4⟩, h5, h6⟩ := wr2 hb
    obtain ⟨N, rfl⟩ : ∃ N : Nat, n = N := ⟨n.toNat, by omega⟩
    have HN := Lib.hid h2
    clear K1 hb h1
    rcases (by omega : fr < 1 ∨ (¬ fr < 1 ∧ to < 1) ∨ (¬ fr < 1 ∧ ¬ to < 1)) with g | ⟨g, g2⟩ | ⟨g, g2⟩
    · have HV : Hid (aboveV N fr to = 0) := if_pos (.inl g)
      have b1 : decide (fr < 1) = true := decide_eq_true g
      clear g
      go_enter Tryd.func52, Tryd.ntmps52
      go_wp2_with fail
      refine H1.out.mono ?_
      rintro e w1 ⟨rfl, rfl⟩
      go_wp2_with fail
      go_ret2
      exact ⟨by rw [Int.toNat_natCast, HV.out]; rfl, HB.out⟩
    · have HV : Hid (aboveV N fr to = 0) := if_pos (.inr g2)
      have b1 : decide (fr < 1) = false := decide_eq_false g
      have b2 : decide (to < 1) = true := decide_eq_true g2
      clear g g2
      go_enter Tryd.func52, Tryd.ntmps52
      go_wp2_with fail
      refine H1.out.mono ?_
      rintro e w1 ⟨rfl, rfl⟩
      go_wp2_with fail
      go_ret2
      exact ⟨by rw [Int.toNat_natCast, HV.out]; rfl, HB.out⟩
    · have HV : Hid (aboveV N fr to = ffr N (to - fr) - ffr N (to + fr)) := if_neg (by omega)
      have b1 : decide (fr < 1) = false := decide_eq_false g
      have b2 : decide (to < 1) = false := decide_eq_false g2
      have hn : N ≤ 56 := by omega
      have q1 := ffr_b56 hn (to - fr)
      have q2 := ffr_b56 hn (to + fr)
      obtain ⟨x, hx⟩ : ∃ x, x = ffr N (to - fr) := ⟨_, rfl⟩
      obtain ⟨y, hy⟩ : ∃ y, y = ffr N (to + fr) := ⟨_, rfl⟩
      rw [← hx] at q1 HV
      rw [← hy] at q2 HV
      have HX := Lib.hid hx
      have HY := Lib.hid hy
      obtain ⟨q3, q4⟩ := q1
      obtain ⟨q5, q6⟩ := q2
      clear g g2 hx hy
      go_enter Tryd.func52, Tryd.ntmps52
      go_wp2_with fail
      refine H1.out.mono ?_
      rintro e w1 ⟨rfl, rfl⟩
      go_wp2_with fail
      refine (free_any N (to - fr) _ (by have := HN.out; omega) (by omega) (by omega)).mono ?_
      rintro e w1 ⟨rfl, m, rfl⟩
      rw [← HX.out]
      go_wp2_with fail
      refine (free_any N (to + fr) _ (by have := HN.out; omega) (by omega) (by omega)).mono ?_
      rintro e w1 ⟨rfl, m2, rfl⟩
      rw [← HY.out]
      go_wp2_with fail
      go_ret2
      exact ⟨by rw [Int.toNat_natCast, HV.out]; rfl, below_drewN HB.out _⟩
end Go.Proofs.YtmibifmabkaakaaDoor
