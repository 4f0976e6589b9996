/- The law WalkCounts: told with each of its closures. No condition. -/
import Derived.Test.YtaehehoeidnidaaWalR
import Derived.Test.YtaehehoeidnidaaWalN
import Derived.Test.YtaehehoeidnidaaWalO
namespace Go.Proofs.Ytaehehoeidnidaa
open Go.ChangeShapes Go.WideShapes Go.ChangeAt Go.RowKit Go.Maps
set_option linter.unusedVariables false

/-- The four boxes. -/
structure BoxSt (w : World) (g : Nat) (a0 a1 a2 a3 : Int) : Prop where
  c0 : w.cell? ⟨g, 0, none⟩ = some (.int .i64 a0)
  c1 : w.cell? ⟨g + 1, 0, none⟩ = some (.int .i64 a1)
  c2 : w.cell? ⟨g + 1 + 1, 0, none⟩ = some (.int .i64 a2)
  c3 : w.cell? ⟨g + 1 + 1 + 1, 0, none⟩ = some (.int .i64 a3)
  lt : g + 1 + 1 + 1 < w.heap.size
theorem BoxSt.below {w w' : World} {g : Nat} {a0 a1 a2 a3 : Int} (s : BoxSt w g a0 a1 a2 a3) (hb : Below w.heap.size w w') : BoxSt w' g a0 a1 a2 a3 := by
  have hl := s.lt
  exact ⟨(hb.cell (show g < _ by omega)).trans s.c0, (hb.cell (show g + 1 < _ by omega)).trans s.c1, (hb.cell (show g + 1 + 1 < _ by omega)).trans s.c2, (hb.cell hl).trans s.c3, Nat.lt_of_lt_of_le hl hb.size⟩
theorem ent_3 : ∀ args w, (callFunc 23 args).run Try.prog w = .ok (.enter 23 args) w := by
  intro args w; go_simp
theorem ent_4 : ∀ args w, (callFunc 25 args).run Try.prog w = .ok (.enter 25 args) w := by
  intro args w; go_simp
theorem ent_5 : ∀ args w, (callFunc 27 args).run Try.prog w = .ok (.enter 27 args) w := by
  intro args w; go_simp
theorem ent_6 : ∀ args w, (callFunc 29 args).run Try.prog w = .ok (.enter 29 args) w := by
  intro args w; go_simp
theorem ent_7 : ∀ args w, (callFunc 31 args).run Try.prog w = .ok (.enter 31 args) w := by
  intro args w; go_simp
theorem told_1 {w : World} {g : Nat} {a0 a1 a2 a3 : Int} (s : BoxSt w g a0 a1 a2 a3) {Ba : Nat} (ca : w.cell? ⟨Ba, 0, none⟩ = some (.func (.func 21) #[] #[])) :
    Calls Try.prog 20 #[.int .i64 (if wrB a0 [a2] = true then 0 else ffr a0.toNat a2), .int .i64 (if wrB a0 [a2] = true then 2 else 0), .bool (wrB a0 [a2]), .func (.func 23) #[] #[.pointer (some ⟨g, 0, none⟩), .pointer (some ⟨Ba, 0, none⟩), .pointer (some ⟨g + 1 + 1, 0, none⟩)]] w fun e w2 => e = .returned (.bool true) ∧ Below w.heap.size w w2 := by
  refine wtold_any 23 #[.pointer (some ⟨g, 0, none⟩), .pointer (some ⟨Ba, 0, none⟩), .pointer (some ⟨g + 1 + 1, 0, none⟩)] (wrB a0 [a2]) (ffr a0.toNat a2) w ent_3 (fun hbad => ?_)
  obtain ⟨⟨h1, h2⟩, h3⟩ := wr1 hbad
  obtain ⟨N, rfl⟩ : ∃ N : Nat, a0 = N := ⟨a0.toNat, by omega⟩
  have hw := want_free g Ba (g + 1 + 1) N a2 w s.c0 ca s.c2 (by have := s.lt; omega) (by omega) h3
  rw [wN_all, Int.sub_zero] at hw
  rw [Int.toNat_natCast]
  exact hw
theorem told_2 {w : World} {g : Nat} {a0 a1 a2 a3 : Int} (s : BoxSt w g a0 a1 a2 a3) :
    Calls Try.prog 20 #[.int .i64 (if wrB a0 [a1, a2] = true then 0 else aboveV a0.toNat a1 a2), .int .i64 (if wrB a0 [a1, a2] = true then 2 else 0), .bool (wrB a0 [a1, a2]), .func (.func 25) #[] #[.pointer (some ⟨g, 0, none⟩), .pointer (some ⟨g + 1, 0, none⟩), .pointer (some ⟨g + 1 + 1, 0, none⟩)]] w fun e w2 => e = .returned (.bool true) ∧ Below w.heap.size w w2 := by
  refine wtold_any 25 #[.pointer (some ⟨g, 0, none⟩), .pointer (some ⟨g + 1, 0, none⟩), .pointer (some ⟨g + 1 + 1, 0, none⟩)] (wrB a0 [a1, a2]) (aboveV a0.toNat a1 a2) w ent_4 (fun hbad => ?_)
  obtain ⟨⟨h1, h2⟩, h3, h4⟩ := wr2 hbad
  obtain ⟨N, rfl⟩ : ∃ N : Nat, a0 = N := ⟨a0.toNat, by omega⟩
  have hw := want_above g (g + 1) (g + 1 + 1) N a1 a2 w s.c0 s.c1 s.c2 (by have := s.lt; omega) (by omega) h3 h4
  rw [above_is] at hw
  rw [Int.toNat_natCast]
  exact hw
theorem told_3 {w : World} {g : Nat} {a0 a1 a2 a3 : Int} (s : BoxSt w g a0 a1 a2 a3) :
    Calls Try.prog 20 #[.int .i64 (if wrB a0 [a1, a2, a3] = true then 0 else betV a0.toNat a1 a2 a3), .int .i64 (if wrB a0 [a1, a2, a3] = true then 2 else 0), .bool (wrB a0 [a1, a2, a3]), .func (.func 27) #[] #[.pointer (some ⟨g, 0, none⟩), .pointer (some ⟨g + 1, 0, none⟩), .pointer (some ⟨g + 1 + 1 + 1, 0, none⟩), .pointer (some ⟨g + 1 + 1, 0, none⟩)]] w fun e w2 => e = .returned (.bool true) ∧ Below w.heap.size w w2 := by
  refine wtold_any 27 #[.pointer (some ⟨g, 0, none⟩), .pointer (some ⟨g + 1, 0, none⟩), .pointer (some ⟨g + 1 + 1 + 1, 0, none⟩), .pointer (some ⟨g + 1 + 1, 0, none⟩)] (wrB a0 [a1, a2, a3]) (betV a0.toNat a1 a2 a3) w ent_5 (fun hbad => ?_)
  obtain ⟨⟨h1, h2⟩, h3, h4, h5⟩ := wr3 hbad
  obtain ⟨N, rfl⟩ : ∃ N : Nat, a0 = N := ⟨a0.toNat, by omega⟩
  have hw := want_in g (g + 1) (g + 1 + 1 + 1) (g + 1 + 1) N a1 a3 a2 w s.c0 s.c1 s.c3 s.lt s.c2 (by have := s.lt; omega) (by omega) h3 h4
  rw [between_is (by omega)] at hw
  rw [Int.toNat_natCast]
  exact hw
theorem told_4 {w : World} {g : Nat} {a0 a1 a2 a3 : Int} (s : BoxSt w g a0 a1 a2 a3) :
    Calls Try.prog 20 #[.int .i64 (if wrB a0 [] = true then 0 else firstV a0.toNat), .int .i64 (if wrB a0 [] = true then 2 else 0), .bool (wrB a0 []), .func (.func 29) #[] #[.pointer (some ⟨g, 0, none⟩)]] w fun e w2 => e = .returned (.bool true) ∧ Below w.heap.size w w2 := by
  refine wtold_any 29 #[.pointer (some ⟨g, 0, none⟩)] (wrB a0 []) (firstV a0.toNat) w ent_6 (fun hbad => ?_)
  obtain ⟨h1, h2⟩ := nB_ok (show nB a0 = false from hbad)
  obtain ⟨N, rfl⟩ : ∃ N : Nat, a0 = N := ⟨a0.toNat, by omega⟩
  have hw := want_first g N w s.c0 (by have := s.lt; omega) (by omega)
  rw [Int.toNat_natCast]
  by_cases h0 : N = 0
  · subst h0
    exact hw
  · rw [if_neg h0, first_is N h0] at hw
    exact hw
theorem told_5 {w : World} {g : Nat} {a0 a1 a2 a3 : Int} (s : BoxSt w g a0 a1 a2 a3) :
    Calls Try.prog 20 #[.int .i64 (if catB a0 = true then 0 else aboveV (2 * a0.toNat) 1 1), .int .i64 (if catB a0 = true then 2 else 0), .bool (catB a0), .func (.func 31) #[] #[.pointer (some ⟨g, 0, none⟩)]] w fun e w2 => e = .returned (.bool true) ∧ Below w.heap.size w w2 := by
  refine wtold_any 31 #[.pointer (some ⟨g, 0, none⟩)] (catB a0) (aboveV (2 * a0.toNat) 1 1) w ent_7 (fun hbad => ?_)
  have hq : 0 ≤ a0 ∧ a0 ≤ 28 := by
    simp only [catB, Bool.or_eq_false_iff, decide_eq_false_iff_not] at hbad; omega
  obtain ⟨N, rfl⟩ : ∃ N : Nat, a0 = N := ⟨a0.toNat, by omega⟩
  have hw := want_catalan g N w s.c0 (by omega)
  rw [catalan_is] at hw
  rw [Int.toNat_natCast]
  exact hw
end Go.Proofs.Ytaehehoeidnidaa
