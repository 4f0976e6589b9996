/- Own rows of elements of more than one cell: a place or a pair appended; read as rows. Plain facts. No condition. -/
import Derived.Test.YtmcbkjepjijfjaaAliF
namespace Go.Proofs.Ytmcbkjepjijfjaa
open Go.ChangeShapes Go.WideShapes Go.ChangeAt Go.RowKit
set_option linter.unusedVariables false

section
variable {w w' : World} {base size : Nat} {e : TypeId} {v : Value} {n : Nat} {xs : List Value}
theorem orow_shape (h : w.ownsRow base e size v n xs) : ∃ A c, v = .slice A n c := by
  rcases h.2 with ⟨rfl, rfl⟩ | ⟨g, cap, cur, rfl, _⟩
  · exact ⟨_, _, rfl⟩
  · exact ⟨_, _, rfl⟩
theorem orow_block (h : w.ownsRow base e size v n xs) : ∀ k, v.ownBlock = some k → base ≤ k := by
  intro k hk
  rcases h.2 with ⟨rfl, _⟩ | ⟨g, cap, cur, rfl, hg, _⟩
  · simp [Value.ownBlock] at hk
  · simp [Value.ownBlock] at hk; omega
theorem orow_none : w.ownsRow base e size (.slice none 0 0) 0 [] := ⟨by simp, .inl ⟨rfl, rfl⟩⟩
theorem orow_below {B : Nat} (h : w.ownsRow base e size v n xs) (hb : Below B w w') (hB : w.heap.size ≤ B) : w'.ownsRow base e size v n xs := by
  obtain ⟨h1, h2⟩ := h
  refine ⟨h1, ?_⟩
  rcases h2 with h2 | ⟨g, cap, cur, hv, hg, hh, r⟩
  · exact Or.inl h2
  · have hlt : g < w.heap.size := by
      rcases Nat.lt_or_ge g w.heap.size with hlt | hge
      · exact hlt
      · rw [Array.getElem?_eq_none hge] at hh; cases hh
    exact Or.inr ⟨g, cap, cur, hv, hg, by rw [hb.block g (by omega)]; exact hh, r⟩
theorem orow_new4 (w : World) (t : TypeId) (a b c d : Value) : ∀ j u, [a, b, c, d][j]? = some u → (w.alloc (.cells #[a, b, c, d] t)).cell? ((⟨w.heap.size, 0, none⟩ : Addr).add j) = some u := by
  intro j u h
  rw [Addr.add_mid, Nat.zero_add]
  exact (Blk.new w t #[a, b, c, d]).cell j (by simpa using h)
theorem orow_new2 (w : World) (t : TypeId) (a b : Value) : ∀ j u, [a, b][j]? = some u → (w.alloc (.cells #[a, b] t)).cell? ((⟨w.heap.size, 0, none⟩ : Addr).add j) = some u := by
  intro j u h
  rw [Addr.add_mid, Nat.zero_add]
  exact (Blk.new w t #[a, b]).cell j (by simpa using h)
end
theorem wpList_push4 (w : World) {ops : Array Oper} {rest : List Oper} {o : Oper} {a : Act} {Q : Exit → Act → World → Prop} (hgd : o.guard = none) (s x : Operand)
    (ho : o.op = .call { callee := .builtin .append, args := #[s, x], argTypes := #[85, 85] })
    (base : Nat) (v : Value) (n : Nat) (xs : List Value) (hs : a.eval s = v) (hown : w.ownsRow base 87 4 v n xs) (p q r : Int) (b : Bool) (ad : Addr) (c : Nat) (hx : a.eval x = .slice (some ad) 1 c)
    (hc : ∀ j u, [Value.int .i64 p, .int .i64 q, .int .i64 r, .bool b][j]? = some u → w.cell? (ad.add j) = some u) (hn : n ≤ 400) (hbase : base ≤ w.heap.size)
    (h : ∀ v' w', w'.ownsRow base 87 4 v' (n + 1) (xs ++ [.int .i64 p, .int .i64 q, .int .i64 r, .bool b]) → w.grownBy w' v.ownBlock → wpList Try.prog ops Q rest (a.put o.dst v') w') : wpList Try.prog ops Q (o :: rest) a w := by
  have hinfo : (Try.prog.info? 87).map (fun i => (i.zero, i.size, i.bytes)) = some (some (.agg #[.int .i64 0, .int .i64 0, .int .i64 0, .bool false]), 4, 32) := by kernel_rfl
  obtain ⟨i, hi, hzz⟩ := Option.map_eq_some_iff.1 hinfo
  simp only [Prod.mk.injEq] at hzz
  obtain ⟨hz, hsz, hby⟩ := hzz
  exact wpList_append_own w hgd s x _ ho base _ i _ 4 32 Try.underlying85 hi hz hsz hby rfl (by decide) v n xs hs hown ad 1 c _ hx rfl hc (by simp [Value.oneCell']) (by unfold maxLen; omega) (by omega) hbase fun v' w' h1 h2 _ => h v' w' h1 h2
theorem wpList_push2p (w : World) {ops : Array Oper} {rest : List Oper} {o : Oper} {a : Act} {Q : Exit → Act → World → Prop} (hgd : o.guard = none) (s x : Operand)
    (ho : o.op = .call { callee := .builtin .append, args := #[s, x], argTypes := #[53, 53] })
    (base : Nat) (v : Value) (n : Nat) (xs : List Value) (hs : a.eval s = v) (hown : w.ownsRow base 59 2 v n xs) (p q : Int) (ad : Addr) (c : Nat) (hx : a.eval x = .slice (some ad) 1 c)
    (hc : ∀ j u, [Value.int .i64 p, .int .i64 q][j]? = some u → w.cell? (ad.add j) = some u) (hn : n ≤ 400) (hbase : base ≤ w.heap.size)
    (h : ∀ v' w', w'.ownsRow base 59 2 v' (n + 1) (xs ++ [.int .i64 p, .int .i64 q]) → w.grownBy w' v.ownBlock → wpList Try.prog ops Q rest (a.put o.dst v') w') : wpList Try.prog ops Q (o :: rest) a w := by
  have hinfo : (Try.prog.info? 59).map (fun i => (i.zero, i.size, i.bytes)) = some (some (.agg #[.int .i64 0, .int .i64 0]), 2, 16) := by kernel_rfl
  obtain ⟨i, hi, hzz⟩ := Option.map_eq_some_iff.1 hinfo
  simp only [Prod.mk.injEq] at hzz
  obtain ⟨hz, hsz, hby⟩ := hzz
  exact wpList_append_own w hgd s x _ ho base _ i _ 2 16 Try.underlying53 hi hz hsz hby rfl (by decide) v n xs hs hown ad 1 c _ hx rfl hc (by simp [Value.oneCell']) (by unfold maxLen; omega) (by omega) hbase fun v' w' h1 h2 _ => h v' w' h1 h2
/-- The cells of the first j places, as they begin. -/
def qstart (l : List Int) (n : Nat) (S : Int) : Nat → List Value
  | 0 => []
  | j + 1 => qstart l n S j ++ [.int .i64 (pat l j * n), .int .i64 S, .int .i64 j, .bool true]
theorem qstart_len (l : List Int) (n : Nat) (S : Int) : ∀ j, (qstart l n S j).length = j * 4
  | 0 => rfl
  | j + 1 => by rw [qstart, List.length_append, qstart_len l n S j]; simp; omega
theorem qstart_at (l : List Int) (n : Nat) (S : Int) : ∀ j i, i < j * 4 → (qstart l n S j)[i]? = some (qc (fun k => pat l k * n) (fun _ => S) (fun k => k) (fun _ => true) i)
  | 0, i, h => by omega
  | j + 1, i, h => by
    rw [qstart]
    by_cases h1 : i < j * 4
    · rw [List.getElem?_append_left (by rw [qstart_len]; exact h1)]
      exact qstart_at l n S j i h1
    · rw [List.getElem?_append_right (by rw [qstart_len]; omega), qstart_len]
      rcases (by omega : i = j * 4 ∨ i = j * 4 + 1 ∨ i = j * 4 + 2 ∨ i = j * 4 + 3) with rfl | rfl | rfl | rfl
      · rw [qc_0, Nat.sub_self]; rfl
      · rw [qc_1, show j * 4 + 1 - j * 4 = 1 by omega]; rfl
      · rw [qc_2, show j * 4 + 2 - j * 4 = 2 by omega]; rfl
      · rw [qc_3, show j * 4 + 3 - j * 4 = 3 by omega]; rfl
theorem orow_quads {w : World} {base n : Nat} {v : Value} {l : List Int} {m : Nat} {S : Int} (h : w.ownsRow base 87 4 v n (qstart l m S n)) (h0 : 0 < n) :
    ∃ g cap, v = .slice (some ⟨g, 0, none⟩) n cap ∧ base ≤ g ∧ QRow w g n (fun k => pat l k * m) (fun _ => S) (fun k => k) (fun _ => true) := by
  rcases h.2 with ⟨_, rfl⟩ | ⟨g, cap, cur, rfl, hg, hh, hn, _, hcs, ht⟩
  · omega
  · refine ⟨g, cap, rfl, hg, cur.size, fun i => cur.getD i undef, by omega, ⟨cur, hh, rfl, fun i hi => ?_⟩, fun i hi => ?_⟩
    · simp [hi]
    · have h1 := qstart_at l m S n i hi
      rw [← ht, List.getElem?_take_of_lt hi] at h1
      have h2 : cur[i]? = some (qc (fun k => pat l k * m) (fun _ => S) (fun k => k) (fun _ => true) i) := by simpa using h1
      show cur.getD i undef = _
      rw [Array.getD_eq_getD_getElem?, h2]; rfl
theorem orow_pairs {w : World} {base n : Nat} {v : Value} {ps : List (Int × Int)} (h : w.ownsRow base 59 2 v n (flat ps)) : ∃ A c, v = .slice A ps.length c ∧ ps.length ≤ c ∧ Seg w w.heap.size A (flat ps) := by
  have hn : n = ps.length := by have := h.1; rw [flat_len] at this; omega
  subst hn
  rcases h.2 with ⟨rfl, h0⟩ | ⟨g, cap, cur, rfl, _, hh, hn, _⟩
  · have : ps = [] := List.eq_nil_of_length_eq_zero h0
    subst this
    exact ⟨none, 0, rfl, Nat.le_refl _, Seg.nil⟩
  · refine ⟨_, _, rfl, hn, fun hl => ⟨_, rfl, ?_, h.cells (g := g) rfl⟩⟩
    rcases Nat.lt_or_ge g w.heap.size with hlt | hge
    · exact hlt
    · rw [Array.getElem?_eq_none hge] at hh; cases hh
theorem QRow.congr {w : World} {g n : Nat} {L V T : Nat → Int} {D : Nat → Bool} {D' : Nat → Bool} (h : QRow w g n L V T D) (e : ∀ i, i < n → D i = D' i) : QRow w g n L V T D' := by
  obtain ⟨N, f, hN, hr, hf⟩ := h
  exact ⟨N, f, hN, hr, fun i hi => by rw [hf i hi]; unfold qc; rw [e (i / 4) (by omega)]⟩
end Go.Proofs.Ytmcbkjepjijfjaa
