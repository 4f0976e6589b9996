/- Own slices of structs of three numbers: appends that tell where the slice lies then. Nothing of the program's own functions. No condition. -/
import Derived.Test.YtaehehoeidnidaaQuaK
namespace Go.Proofs.Ytaehehoeidnidaa
open Go.ChangeShapes Go.WideShapes Go.ChangeAt Go.RowKit
set_option linter.unusedVariables false

theorem run_app_at {P : Program} (w : World) (base : Nat) (t ty e : TypeId) (i : TypeInfo) (z : Value) (ht : P.underlying t = some (.slice e)) (hi : P.info? e = some i) (hz : i.zero = some z) (hsz : 0 < i.size)
    (v : Value) (n : Nat) (xs : List Value) (hown : w.ownsRow base e i.size v n xs) (a : Addr) (m c : Nat) (news : List Value) (hl : news.length = m * i.size) (hnews : ∀ j u, news[j]? = some u → w.cell? (a.add j) = some u) (h1 : ∀ u ∈ news, u.oneCell' = true)
    (hm : 0 < m) (h63 : n + m ≤ maxLen) (hbytes : (n + m) * i.bytes ≤ 140737488355328) :
    ∃ v' w', (Builtin.append_ #[t, t] ty #[v, .slice (some a) m c]).run P w = .ok v' w' ∧ ∀ k, v'.ownBlock = some k → v.ownBlock = some k ∨ w.heap.size ≤ k := by
  have hsmall : n + m ≤ 9223372036854775807 := by simp only [maxLen] at h63; omega
  rcases hown.2 with ⟨rfl, rfl⟩ | ⟨g, cap, cur, rfl, hbg, hg, hnc, hcm, hcs, htake⟩
  · have hr := run_append_nil (P := P) w t ty e i z ht hi hz a m c news hl hnews hm (by omega) (by have hb := hbytes; simp only [Nat.zero_add] at hb; omega)
    refine ⟨_, _, hr, fun k hk => .inr ?_⟩
    simp [Value.ownBlock] at hk; omega
  · by_cases hroom : n + m ≤ cap
    · have hfit : n * i.size + news.length ≤ cur.size := by rw [hl, hcs, ← Nat.add_mul]; exact Nat.mul_le_mul_right _ hroom
      have hr := run_append_room (P := P) w t ty e i ht hi g n cap cur hg a m c news hl hnews h1 hroom hfit
      exact ⟨_, _, hr, fun k hk => .inl hk⟩
    · have holds : ∀ j u, xs[j]? = some u → w.cell? ((⟨g, 0, none⟩ : Addr).add j) = some u := hown.cells (g := g) rfl
      have hr := run_append_grow (P := P) w t ty e i z ht hi hz ⟨g, 0, none⟩ n cap xs hown.1 holds a m c news hl hnews (by omega) (by omega) (growslice_fits (by omega) hbytes)
      refine ⟨_, _, hr, fun k hk => .inr ?_⟩
      simp [Value.ownBlock] at hk; omega
theorem wpList_push3B (w : World) {ops : Array Oper} {rest : List Oper} {o : Oper} {a : Act} {Q : Exit → Act → World → Prop} (hgd : o.guard = none) (s x : Operand)
    (ho : o.op = .call { callee := .builtin .append, args := #[s, x], argTypes := #[96, 96] })
    (base : Nat) (v : Value) (ps : List Rk) (r : Rk) (hs : a.eval s = v) (hown : Own3 w base v ps) (ad : Addr) (c : Nat) (hx : a.eval x = .slice (some ad) 1 c)
    (hc : ∀ j u, (flat3 [r])[j]? = some u → w.cell? (ad.add j) = some u) (hn : ps.length ≤ 999) (hbase : base ≤ w.heap.size)
    (h : ∀ v' w', Hid (Own3 w' base v' (ps ++ [r])) → Hid (w.grownBy w' v.ownBlock) → Hid (∀ k, v'.ownBlock = some k → v.ownBlock = some k ∨ w.heap.size ≤ k) → wpList Try.prog ops Q rest (a.put o.dst v') w') : wpList Try.prog ops Q (o :: rest) a w := by
  obtain ⟨i, hi, hz, hsz, hby⟩ := rk_info
  obtain ⟨v', w', hr, h1, h2, _⟩ := run_append_own (P := Try.prog) w base 96 o.type _ i _ 3 24 Try.underlying96 hi hz hsz hby rfl (by decide) v ps.length (flat3 ps) hown ad 1 c (flat3 [r]) rfl hc (flat3_one [r]) (by unfold maxLen; omega) (by omega) hbase
  obtain ⟨v2, w2, hr2, h3⟩ := run_app_at (P := Try.prog) w base 96 o.type _ i _ Try.underlying96 hi hz (by omega) v ps.length (flat3 ps) (by rw [hsz]; exact hown) ad 1 c (flat3 [r]) (by rw [hsz]; rfl) hc (flat3_one [r]) (by omega) (by unfold maxLen; omega) (by rw [hby]; omega)
  rw [hr] at hr2
  injection hr2 with e1 e2
  subst e1
  subst e2
  refine Lib.wpList_append_run w hgd s x _ _ ho _ _ hs hx _ _ hr (h _ _ ?_ h2 h3)
  unfold Hid Own3
  rw [flat3_app, List.length_append]
  exact h1
theorem Own3.kept {w w' : World} {base : Nat} {v : Value} {ps : List Rk} {row : Option Nat} (h : Own3 w base v ps) (hg : w.grownBy w' row) (hne : ∀ k, v.ownBlock = some k → row ≠ some k) : Own3 w' base v ps :=
  World.ownsRow.kept h hg (by
    cases hv : v.ownBlock with
    | none => exact .inl rfl
    | some k => exact .inr (fun e => hne k hv e.symm))
theorem Own3.lt {w : World} {base : Nat} {v : Value} {ps : List Rk} (h : Own3 w base v ps) : ∀ k, v.ownBlock = some k → base ≤ k ∧ k < w.heap.size := World.ownsRow.lt h
/-- Two own slices lie apart. -/
def Apart (v u : Value) : Prop := ∀ k, v.ownBlock = some k → u.ownBlock ≠ some k
theorem Apart.none_ (u : Value) : Apart (.slice none 0 0) u := fun k h => by simp [Value.ownBlock] at h
theorem Apart.symm {v u : Value} (h : Apart v u) : Apart u v := fun k h1 h2 => h k h2 h1
theorem Apart.moved {v v' u : Value} {n : Nat} (h : Apart v u) (hm : ∀ k, v'.ownBlock = some k → v.ownBlock = some k ∨ n ≤ k) (hu : ∀ k, u.ownBlock = some k → k < n) : Apart v' u := fun k h1 h2 => by
  rcases hm k h1 with h3 | h3
  · exact h k h3 h2
  · have := hu k h2; omega
theorem Own3.far {w : World} {base : Nat} {v : Value} {ps : List Rk} (h : Own3 w base v ps) {p : Addr} (u : Value) (hne : v.ownBlock ≠ some p.block) : Own3 (w.setCell p u) base v ps :=
  h.kept (row := some p.block) ⟨rfl, rfl, rfl, by simp, fun q _ hq => Below.heap_setCell w p u q (fun e => hq (by rw [e]))⟩ (fun k h1 h2 => hne (by rw [h1, ← h2]))
end Go.Proofs.Ytaehehoeidnidaa
